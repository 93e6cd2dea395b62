/- The plain law of sums: bit by bit, by a table, masked and shown; no program in sight. -/
import Derived.Test.YtejpojbpjciahaaCodecD
namespace Go.Proofs.Ytejpojbpjciahaa
open Go.RowKit Go.Sed
theorem wrap32 (n : Int) : IntKind.u32.wrap n = n % 4294967296 := by simp [IntKind.wrap, IntKind.bits, IntKind.signed]
theorem xor32 (a b : Nat) (ha : a < 4294967296) (hb : b < 4294967296) : Go.bits .xor .u32 (a : Int) (b : Int) = ((a ^^^ b : Nat) : Int) := by
  have hx : a ^^^ b < 2 ^ 32 := Nat.xor_lt_two_pow (by omega) (by omega)
  have h1 : (BitVec.ofInt 32 (a : Int)).toNat = a := by
    rw [BitVec.ofInt_natCast, BitVec.toNat_ofNat]; exact Nat.mod_eq_of_lt (by omega)
  have h2 : (BitVec.ofInt 32 (b : Int)).toNat = b := by
    rw [BitVec.ofInt_natCast, BitVec.toNat_ofNat]; exact Nat.mod_eq_of_lt (by omega)
  show IntKind.u32.wrap ((BitVec.ofInt 32 (a : Int) ^^^ BitVec.ofInt 32 (b : Int)).toNat : Int) = _
  rw [BitVec.toNat_xor, h1, h2, wrap32]
  omega
theorem and32 (a b : Nat) (ha : a < 4294967296) (hb : b < 4294967296) : Go.bits .and .u32 (a : Int) (b : Int) = ((a &&& b : Nat) : Int) := by
  have hx : a &&& b < 2 ^ 32 := Nat.and_lt_two_pow _ (by omega)
  have h1 : (BitVec.ofInt 32 (a : Int)).toNat = a := by
    rw [BitVec.ofInt_natCast, BitVec.toNat_ofNat]; exact Nat.mod_eq_of_lt (by omega)
  have h2 : (BitVec.ofInt 32 (b : Int)).toNat = b := by
    rw [BitVec.ofInt_natCast, BitVec.toNat_ofNat]; exact Nat.mod_eq_of_lt (by omega)
  show IntKind.u32.wrap ((BitVec.ofInt 32 (a : Int) &&& BitVec.ofInt 32 (b : Int)).toNat : Int) = _
  rw [BitVec.toNat_and, h1, h2, wrap32]
  omega
theorem or32 (a b : Nat) (ha : a < 4294967296) (hb : b < 4294967296) : Go.bits .or .u32 (a : Int) (b : Int) = ((a ||| b : Nat) : Int) := by
  have hx : a ||| b < 2 ^ 32 := Nat.or_lt_two_pow (by omega) (by omega)
  have h1 : (BitVec.ofInt 32 (a : Int)).toNat = a := by
    rw [BitVec.ofInt_natCast, BitVec.toNat_ofNat]; exact Nat.mod_eq_of_lt (by omega)
  have h2 : (BitVec.ofInt 32 (b : Int)).toNat = b := by
    rw [BitVec.ofInt_natCast, BitVec.toNat_ofNat]; exact Nat.mod_eq_of_lt (by omega)
  show IntKind.u32.wrap ((BitVec.ofInt 32 (a : Int) ||| BitVec.ofInt 32 (b : Int)).toNat : Int) = _
  rw [BitVec.toNat_or, h1, h2, wrap32]
  omega
theorem xor8 (a b : Nat) (ha : a < 256) (hb : b < 256) : Go.bits .xor .u8 (a : Int) (b : Int) = ((a ^^^ b : Nat) : Int) := by
  have hx : a ^^^ b < 2 ^ 8 := Nat.xor_lt_two_pow (by omega) (by omega)
  have h1 : (BitVec.ofInt 8 (a : Int)).toNat = a := by
    rw [BitVec.ofInt_natCast, BitVec.toNat_ofNat]; exact Nat.mod_eq_of_lt (by omega)
  have h2 : (BitVec.ofInt 8 (b : Int)).toNat = b := by
    rw [BitVec.ofInt_natCast, BitVec.toNat_ofNat]; exact Nat.mod_eq_of_lt (by omega)
  show IntKind.u8.wrap ((BitVec.ofInt 8 (a : Int) ^^^ BitVec.ofInt 8 (b : Int)).toNat : Int) = _
  rw [BitVec.toNat_xor, h1, h2]
  simp [IntKind.wrap, IntKind.bits, IntKind.signed]
  omega
/-- one bit of a sum, on naturals. -/
def stN (r : Nat) : Nat := (r >>> 1) ^^^ (if r % 2 = 1 then 2197175160 else 0)
def stk : Nat → Nat → Nat
  | 0, r => r
  | n + 1, r => stN (stk n r)
theorem stN_lt {r : Nat} (h : r < 4294967296) : stN r < 4294967296 := by
  unfold stN
  exact Nat.xor_lt_two_pow (n := 32) (by rw [Nat.shiftRight_eq_div_pow]; omega) (by split <;> decide)
theorem stk_lt {r : Nat} (h : r < 4294967296) : ∀ n, stk n r < 4294967296
  | 0 => h
  | n + 1 => stN_lt (stk_lt h n)
theorem stN_xor (a b : Nat) : stN (a ^^^ b) = stN a ^^^ stN b := by
  unfold stN
  rw [Nat.shiftRight_xor_distrib]
  have h : (a ^^^ b) % 2 = (a % 2 + b % 2) % 2 := by
    have := Nat.xor_mod_two_pow (a := a) (b := b) (n := 1)
    rw [Nat.pow_one] at this
    rw [this]
    rcases Nat.mod_two_eq_zero_or_one a with h | h <;> rcases Nat.mod_two_eq_zero_or_one b with h' | h' <;> rw [h, h'] <;> rfl
  rcases Nat.mod_two_eq_zero_or_one a with h1 | h1 <;> rcases Nat.mod_two_eq_zero_or_one b with h2 | h2 <;> rw [h, h1, h2] <;> simp
  · rw [Nat.xor_assoc]
  · rw [Nat.xor_assoc, Nat.xor_comm (b >>> 1), ← Nat.xor_assoc]
  · rw [Nat.xor_assoc, Nat.xor_comm 2197175160, Nat.xor_assoc, Nat.xor_self, Nat.xor_zero]
theorem stk_xor (a b : Nat) : ∀ n, stk n (a ^^^ b) = stk n a ^^^ stk n b
  | 0 => rfl
  | n + 1 => by unfold stk; rw [stk_xor a b n, stN_xor]
theorem stN_two (m : Nat) : stN (2 * m) = m := by
  unfold stN
  rw [Nat.shiftRight_eq_div_pow, if_neg (by omega), Nat.xor_zero]
  omega
theorem stk_shift (n : Nat) : ∀ m, stk n (2 ^ n * m) = m := by
  induction n with
  | zero => intro m; simp [stk]
  | succ n ih => intro m; unfold stk; rw [show 2 ^ (n + 1) * m = 2 ^ n * (2 * m) by rw [Nat.pow_succ, Nat.mul_assoc], ih, stN_two]
theorem split8 (v : Nat) : v = (256 * (v / 256)) ^^^ (v % 256) := by
  apply Nat.eq_of_testBit_eq
  intro i
  rw [Nat.testBit_xor, show 256 * (v / 256) = 2 ^ 8 * (v / 2 ^ 8) from rfl, show v % 256 = v % 2 ^ 8 from rfl, Nat.testBit_two_pow_mul, Nat.testBit_mod_two_pow, Nat.testBit_div_two_pow]
  by_cases hi : i < 8
  · simp [hi, show ¬ 8 ≤ i by omega]
  · rw [show i - 8 + 8 = i by omega, decide_eq_true (show i ≥ 8 by omega), decide_eq_false hi]; simp
/-- the table's way. -/
theorem table_step (r x : Nat) (hx : x < 256) : (r / 256) ^^^ stk 8 ((r % 256) ^^^ x) = stk 8 (r ^^^ x) := by
  have h1 : (r ^^^ x) / 256 = r / 256 := by
    rw [show 256 = 2 ^ 8 from rfl, ← Nat.shiftRight_eq_div_pow, Nat.shiftRight_xor_distrib, Nat.shiftRight_eq_div_pow, Nat.shiftRight_eq_div_pow, show x / 2 ^ 8 = 0 by omega, Nat.xor_zero]
  have h2 : (r ^^^ x) % 256 = (r % 256) ^^^ x := by
    rw [show 256 = 2 ^ 8 from rfl, Nat.xor_mod_two_pow, show x % 2 ^ 8 = x by omega]
  conv => rhs; rw [split8 (r ^^^ x), stk_xor, h1, h2, show 256 * (r / 256) = 2 ^ 8 * (r / 256) from rfl, stk_shift]
theorem crcI_nat (r : Nat) (h : r < 4294967296) : crcI (r : Int) = (stN r : Nat) := by
  unfold crcI stN
  rw [show (1 : Int) = ((1 : Nat) : Int) from rfl, and32 r 1 h (by decide), Nat.and_one_is_mod]
  have hd : (r : Int) / (2 : Int) ^ 1 = ((r >>> 1 : Nat) : Int) := by rw [Nat.shiftRight_eq_div_pow]; omega
  rw [hd]
  have hl : r >>> 1 < 4294967296 := by rw [Nat.shiftRight_eq_div_pow]; omega
  rcases Nat.mod_two_eq_zero_or_one r with e | e
  · rw [e, show Go.bits .and .u32 2197175160 (IntKind.u32.wrap (-((0 : Nat) : Int))) = ((0 : Nat) : Int) by decide +kernel, xor32 _ _ hl (by decide)]; rfl
  · rw [e, show Go.bits .and .u32 2197175160 (IntKind.u32.wrap (-((1 : Nat) : Int))) = ((2197175160 : Nat) : Int) by decide +kernel, xor32 _ _ hl (by decide)]; rfl
theorem crcN_nat (r : Nat) (h : r < 4294967296) : ∀ n, crcN n (r : Int) = (stk n r : Nat)
  | 0 => rfl
  | n + 1 => by unfold crcN stk; rw [crcN_nat r h n, crcI_nat _ (stk_lt h n)]
/-- the document's way of one bit. -/
def crcR (r : Int) : Int := if Go.bits .and .u32 r 1 = 1 then Go.bits .xor .u32 (r / 2 ^ 1) 2197175160 else r / 2 ^ 1
theorem crcR_eq (r : Int) (h0 : 0 ≤ r) (h1 : r < 4294967296) : crcR r = crcI r := by
  obtain ⟨n, rfl⟩ := Int.eq_ofNat_of_zero_le h0
  have hn : n < 4294967296 := by omega
  show crcR (n : Int) = crcI (n : Int)
  rw [crcI_nat n hn]
  unfold crcR stN
  rw [show (1 : Int) = ((1 : Nat) : Int) from rfl, and32 n 1 hn (by decide), Nat.and_one_is_mod]
  have hd : (n : Int) / (2 : Int) ^ 1 = ((n >>> 1 : Nat) : Int) := by rw [Nat.shiftRight_eq_div_pow]; omega
  rw [hd]
  have hl : n >>> 1 < 4294967296 := by rw [Nat.shiftRight_eq_div_pow]; omega
  rcases Nat.mod_two_eq_zero_or_one n with e | e
  · rw [e, if_neg (by decide), if_neg (by decide), Nat.xor_zero]
  · rw [e, if_pos (by decide), if_pos rfl, show (2197175160 : Int) = ((2197175160 : Nat) : Int) from rfl, xor32 _ _ hl (by decide)]
theorem u32_in (n : Int) : 0 ≤ IntKind.u32.wrap n ∧ IntKind.u32.wrap n < 4294967296 := by rw [wrap32]; omega
theorem bits32_in (op : BinOp) (a b : Int) : 0 ≤ Go.bits op .u32 a b ∧ Go.bits op .u32 a b < 4294967296 := by unfold Go.bits; exact u32_in _
theorem crcN_in (r : Int) (h : 0 ≤ r ∧ r < 4294967296) : ∀ n, 0 ≤ crcN n r ∧ crcN n r < 4294967296
  | 0 => h
  | n + 1 => by unfold crcN; unfold crcI; exact bits32_in _ _ _
theorem crcL_in (l : List Int) : 0 ≤ crcL l ∧ crcL l < 4294967296 := by
  unfold crcL
  have : ∀ (l : List Int) (r : Int), (0 ≤ r ∧ r < 4294967296) → 0 ≤ l.foldl crcB r ∧ l.foldl crcB r < 4294967296 := by
    intro l
    induction l with
    | nil => intro r h; exact h
    | cons x l ih => intro r _; exact ih _ (crcN_in _ (bits32_in _ _ _) 8)
  exact this l _ (by decide)
/-- the table's way of one byte, in the program's words. -/
theorem tab_eq (r x : Int) (hr : 0 ≤ r ∧ r < 4294967296) (hx : 0 ≤ x ∧ x < 256) :
    Go.bits .xor .u32 (r / 2 ^ 8) (crcN 8 (Go.bits .xor .u8 (IntKind.u8.wrap r) x)) = crcB r x := by
  obtain ⟨a, rfl⟩ := Int.eq_ofNat_of_zero_le hr.1
  obtain ⟨b, rfl⟩ := Int.eq_ofNat_of_zero_le hx.1
  have ha : a < 4294967296 := by omega
  have hb : b < 256 := by omega
  have hw : IntKind.u8.wrap (a : Int) = ((a % 256 : Nat) : Int) := by simp [IntKind.wrap, IntKind.bits, IntKind.signed]
  unfold crcB
  rw [hw, xor8 _ _ (by omega) hb, show (b : Int) % 4294967296 = (b : Int) by omega, xor32 a b ha (by omega)]
  have hx8 : (a % 256) ^^^ b < 2 ^ 8 := Nat.xor_lt_two_pow (by omega) (by omega)
  rw [crcN_nat _ (by omega), crcN_nat _ (Nat.xor_lt_two_pow (n := 32) (by omega) (by omega)), show (a : Int) / (2 : Int) ^ 8 = ((a / 256 : Nat) : Int) by omega, xor32 _ _ (by omega) (stk_lt (by omega) 8), table_step a b hb]
/-- masks. -/
theorem rot_nat (k : Nat) (n : Nat) (hk : k ≤ 32) (hn : n < 4294967296) : rotI k (n : Int) = ((n % 2 ^ (32 - k)) * 2 ^ k + n / 2 ^ (32 - k) : Nat) := by
  have e32 : 2 ^ (32 - k) * 2 ^ k = 4294967296 := by rw [← Nat.pow_add, show 32 - k + k = 32 by omega]
  have hq : n / 2 ^ (32 - k) < 2 ^ k := by
    rw [Nat.div_lt_iff_lt_mul (Nat.two_pow_pos _), Nat.mul_comm, e32]; exact hn
  have hm : n * 2 ^ k % 4294967296 = (n % 2 ^ (32 - k)) * 2 ^ k := by rw [← e32, Nat.mul_mod_mul_right]
  unfold rotI
  have h1 : IntKind.u32.wrap ((n : Int) * 2 ^ k) = ((n * 2 ^ k % 4294967296 : Nat) : Int) := by rw [wrap32, Int.natCast_emod, Int.natCast_mul, Int.natCast_pow]; rfl
  have h2 : (n : Int) / 2 ^ (32 - k) = ((n / 2 ^ (32 - k) : Nat) : Int) := by push_cast; rfl
  have hle : n / 2 ^ (32 - k) ≤ n := Nat.div_le_self _ _
  rw [h1, h2, or32 _ _ (Nat.mod_lt _ (by decide)) (by omega), hm, Nat.mul_comm, ← Nat.two_pow_add_eq_or_of_lt hq]
theorem wrap_back (x d : Nat) (hx : x < 4294967296) : IntKind.u32.wrap (IntKind.u32.wrap ((x : Int) + d) - d) = x := by
  rw [wrap32, wrap32]; omega
theorem rot_lt (k n : Nat) (hk : k ≤ 32) (hn : n < 4294967296) : (n % 2 ^ (32 - k)) * 2 ^ k + n / 2 ^ (32 - k) < 4294967296 := by
  have e32 : 2 ^ (32 - k) * 2 ^ k = 4294967296 := by rw [← Nat.pow_add, show 32 - k + k = 32 by omega]
  have hq : n / 2 ^ (32 - k) < 2 ^ k := by
    rw [Nat.div_lt_iff_lt_mul (Nat.two_pow_pos _), Nat.mul_comm, e32]; exact hn
  have hm : n % 2 ^ (32 - k) + 1 ≤ 2 ^ (32 - k) := Nat.mod_lt _ (Nat.two_pow_pos _)
  have := Nat.mul_le_mul_right (2 ^ k) hm
  rw [Nat.add_mul, e32] at this
  omega
theorem unmask_mask (n : Int) (h0 : 0 ≤ n) (h1 : n < 4294967296) : unmaskI (maskI n) = n := by
  obtain ⟨a, rfl⟩ := Int.eq_ofNat_of_zero_le h0
  have ha : a < 4294967296 := by omega
  unfold unmaskI maskI
  have hl := rot_lt 17 a (by decide) ha
  rw [rot_nat 17 a (by decide) ha, show (2726488792 : Int) = ((2726488792 : Nat) : Int) from rfl, wrap_back _ _ hl, rot_nat 15 _ (by decide) hl]
  simp only [show 32 - 17 = 15 from rfl, show 32 - 15 = 17 from rfl]
  congr 1
  have hq : a / 2 ^ 15 < 2 ^ 17 := by omega
  omega
theorem or32_comm (a b : Int) : Go.bits .or .u32 a b = Go.bits .or .u32 b a := by
  unfold Go.bits; simp only [BitVec.or_comm]
end Go.Proofs.Ytejpojbpjciahaa
