/- CRC-32: bit by bit, and by a table. -/
import Derived.Test.YtpdajkbfemcdlaaGeTypes
set_option linter.unusedSimpArgs false
set_option linter.unusedVariables false
namespace Go.Ge
def bv (x : Int) : BitVec 32 := BitVec.ofInt 32 x
def iv (b : BitVec 32) : Int := b.toNat
theorem iv_bd (b : BitVec 32) : 0 ≤ iv b ∧ iv b < 4294967296 := by
  have := b.isLt; unfold iv; omega
theorem bv_iv (b : BitVec 32) : bv (iv b) = b := by
  unfold bv iv; rw [BitVec.ofInt_natCast]; simp
theorem iv_bv {x : Int} (h1 : 0 ≤ x) (h2 : x < 4294967296) : iv (bv x) = x := by
  unfold bv iv; rw [BitVec.toNat_ofInt]; omega
theorem iv_inj {a b : BitVec 32} : iv a = iv b ↔ a = b := by
  constructor
  · intro h; rw [← bv_iv a, ← bv_iv b, h]
  · intro h; rw [h]
theorem xor32 (x y : Int) : bitsV .xor .u32 x y = iv (bv x ^^^ bv y) := by
  show IntKind.u32.wrap _ = _
  exact wrapU32 (by omega) (by have := iv_bd (bv x ^^^ bv y); unfold iv at this; exact this.2)
theorem and32 (x y : Int) : bitsV .and .u32 x y = iv (bv x &&& bv y) := by
  show IntKind.u32.wrap _ = _
  exact wrapU32 (by omega) (by have := iv_bd (bv x &&& bv y); unfold iv at this; exact this.2)
theorem wrap_iv (b : BitVec 32) : IntKind.u32.wrap (iv b) = iv b := wrapU32 (iv_bd b).1 (iv_bd b).2
theorem mul32 (x y : Int) : IntKind.u32.wrap (x * y) = iv (bv x * bv y) := by
  rw [wrapU32_mod]
  unfold bv iv
  rw [← BitVec.ofInt_mul, BitVec.toNat_ofInt]
  omega
theorem shr32 (b : BitVec 32) (n : Nat) : (iv b).fdiv (2 ^ n) = iv (b >>> n) := by
  unfold iv
  rw [BitVec.toNat_ushiftRight, Nat.shiftRight_eq_div_pow, Int.fdiv_eq_ediv_of_nonneg _ (by exact Int.pow_nonneg (by omega))]
  simp
/-- One round. -/
def rnd (b : BitVec 32) : BitVec 32 := (b >>> 1) ^^^ (0xedb88320#32 * (b &&& 1#32))
def rnds : Nat → BitVec 32 → BitVec 32
  | 0, b => b
  | n + 1, b => rnd (rnds n b)
theorem rnds_succ (n : Nat) (b : BitVec 32) : rnds (n + 1) b = rnd (rnds n b) := rfl
def sumStep (s : BitVec 32) (x : Int) : BitVec 32 := rnds 8 (s ^^^ bv x)
def sumFrom (s : BitVec 32) (l : List Int) : BitVec 32 := l.foldl sumStep s
def crc (l : List Int) : BitVec 32 := sumFrom (bv 4294967295) l ^^^ bv 4294967295
theorem and_one (b : BitVec 32) : b &&& 1#32 = if b.getLsbD 0 then 1#32 else 0#32 := by
  apply BitVec.eq_of_getLsbD_eq
  intro i hi
  rw [BitVec.getLsbD_and]
  cases h : b.getLsbD 0 <;> simp [BitVec.getLsbD_one]
  · intro h2 h3; subst h3; rw [h] at h2; simp at h2
  · intro h3; subst h3; exact h
theorem rnd_eq (b : BitVec 32) : rnd b = (b >>> 1) ^^^ (if b.getLsbD 0 then 0xedb88320#32 else 0#32) := by
  unfold rnd
  rw [and_one]
  cases b.getLsbD 0 <;> simp
theorem lsb_iv (b : BitVec 32) : b.getLsbD 0 = (iv b % 2 == 1) := by
  unfold iv
  rw [BitVec.getLsbD, Nat.testBit_zero]
  rcases Nat.mod_two_eq_zero_or_one b.toNat with h | h
  · have : ((b.toNat : Int) % 2) = 0 := by omega
    rw [h, this]; rfl
  · have : ((b.toNat : Int) % 2) = 1 := by omega
    rw [h, this]; rfl
theorem half_iv (b : BitVec 32) : iv b / (2 : Int) = iv (b >>> 1) := by
  unfold iv
  rw [BitVec.toNat_ushiftRight, Nat.shiftRight_eq_div_pow]; omega
theorem rnd_odd {b : BitVec 32} (h : (iv b % 2 == 1) = true) : rnd b = (b >>> 1) ^^^ 0xedb88320#32 := by
  rw [rnd_eq, lsb_iv, h, if_pos rfl]
theorem rnd_even {b : BitVec 32} (h : (iv b % 2 == 1) = false) : rnd b = b >>> 1 := by
  rw [rnd_eq, lsb_iv, h, if_neg (by simp)]; simp
theorem rnd_xor (a b : BitVec 32) : rnd (a ^^^ b) = rnd a ^^^ rnd b := by
  simp only [rnd_eq]
  apply BitVec.eq_of_getLsbD_eq
  intro i hi
  simp only [BitVec.getLsbD_xor, BitVec.getLsbD_ushiftRight]
  generalize a.getLsbD 0 = p
  generalize b.getLsbD 0 = q
  generalize a.getLsbD (1 + i) = u
  generalize b.getLsbD (1 + i) = v
  have key : ∀ r : BitVec 32, ((u ^^ v) ^^ (if (p ^^ q) = true then r else 0#32).getLsbD i) = ((u ^^ (if p = true then r else 0#32).getLsbD i) ^^ (v ^^ (if q = true then r else 0#32).getLsbD i)) := by
    intro r
    cases p <;> cases q <;> simp
    all_goals (cases u <;> cases v <;> cases r.getLsbD i <;> rfl)
  exact key _
theorem rnds_xor (n : Nat) (a b : BitVec 32) : rnds n (a ^^^ b) = rnds n a ^^^ rnds n b := by
  induction n with
  | zero => rfl
  | succ n ih => rw [rnds_succ, rnds_succ, rnds_succ, ih, rnd_xor]
theorem rnd_shift (c : BitVec 32) (m : Nat) (hm : m < 8) (hc : c.toNat < 2 ^ 24) : rnd (c <<< (m + 1)) = c <<< m := by
  rw [rnd_eq]
  have : (c <<< (m + 1)).getLsbD 0 = false := by simp
  rw [this]
  apply BitVec.eq_of_toNat_eq
  simp only [Bool.false_eq_true, if_false, BitVec.xor_zero, BitVec.toNat_ushiftRight, BitVec.toNat_shiftLeft, Nat.shiftLeft_eq, Nat.shiftRight_eq_div_pow]
  have h1 : c.toNat * 2 ^ (m + 1) < 2 ^ 32 := by
    have h0 : c.toNat * 2 ^ (m + 1) ≤ c.toNat * 2 ^ 8 := Nat.mul_le_mul_left _ (Nat.pow_le_pow_right (by omega) (by omega))
    omega
  have h2 : c.toNat * 2 ^ m < 2 ^ 32 := by
    have h0 : c.toNat * 2 ^ m ≤ c.toNat * 2 ^ 8 := Nat.mul_le_mul_left _ (Nat.pow_le_pow_right (by omega) (by omega))
    omega
  rw [Nat.mod_eq_of_lt h1, Nat.mod_eq_of_lt h2, Nat.pow_succ, ← Nat.mul_assoc]
  simp
theorem rnds_shift (c : BitVec 32) (hc : c.toNat < 2 ^ 24) : ∀ n, n ≤ 8 → rnds n (c <<< 8) = c <<< (8 - n)
  | 0, _ => rfl
  | n + 1, h => by
    rw [rnds_succ, rnds_shift c hc n (by omega)]
    have e : 8 - n = (8 - (n + 1)) + 1 := by omega
    rw [e]
    exact rnd_shift c _ (by omega) hc
theorem split8 (b : BitVec 32) : b = (b &&& 255#32) ^^^ ((b >>> 8) <<< 8) := by
  apply BitVec.eq_of_getLsbD_eq
  intro i hi
  simp only [BitVec.getLsbD_xor, BitVec.getLsbD_and, BitVec.getLsbD_shiftLeft, BitVec.getLsbD_ushiftRight, hi, decide_true, Bool.true_and]
  have h255 : (255#32).getLsbD i = decide (i < 8) := by
    have : ∀ j : Fin 32, (255#32).getLsbD j.val = decide (j.val < 8) := by decide
    exact this ⟨i, hi⟩
  rw [h255]
  by_cases h : i < 8
  · simp [h]
  · simp [h]; congr 1; omega
theorem rnds8 (b : BitVec 32) : rnds 8 b = rnds 8 (b &&& 255#32) ^^^ (b >>> 8) := by
  conv => lhs; rw [split8 b]
  rw [rnds_xor, rnds_shift _ (by rw [BitVec.toNat_ushiftRight, Nat.shiftRight_eq_div_pow]; have := b.isLt; omega) 8 (Nat.le_refl _)]
  simp
/-- A table's entry. -/
def entry (i : Nat) : BitVec 32 := rnds 8 (BitVec.ofNat 32 i)
theorem byte_shift {x : Int} (h1 : 0 ≤ x) (h2 : x < 256) : bv x >>> 8 = 0#32 := by
  apply BitVec.eq_of_toNat_eq
  have := iv_bv h1 (by omega)
  unfold iv at this
  rw [BitVec.toNat_ushiftRight, Nat.shiftRight_eq_div_pow]
  simp; omega
theorem byte_and {x : Int} (h1 : 0 ≤ x) (h2 : x < 256) : bv x &&& 255#32 = bv x := by
  have := split8 (bv x)
  rw [byte_shift h1 h2] at this
  simp at this
  exact this.symm
theorem tab_step (b : BitVec 32) (x : Int) (h1 : 0 ≤ x) (h2 : x < 256) : entry ((b.toNat % 256) ^^^ x.toNat) ^^^ (b >>> 8) = sumStep b x := by
  unfold sumStep entry
  rw [rnds8 (b ^^^ bv x)]
  have e1 : (b ^^^ bv x) >>> 8 = b >>> 8 := by rw [BitVec.ushiftRight_xor_distrib, byte_shift h1 h2]; simp
  have e2 : (b ^^^ bv x) &&& 255#32 = BitVec.ofNat 32 ((b.toNat % 256) ^^^ x.toNat) := by
    apply BitVec.eq_of_toNat_eq
    have hx := iv_bv h1 (show x < 4294967296 by omega)
    unfold iv at hx
    have hx : (bv x).toNat = x.toNat := by omega
    rw [BitVec.toNat_and, BitVec.toNat_xor, hx, BitVec.toNat_ofNat]
    have e3 : 255 % 2 ^ 32 = 2 ^ 8 - 1 := by decide
    rw [e3, Nat.and_two_pow_sub_one_eq_mod, Nat.xor_mod_two_pow]
    have h4 : x.toNat % 2 ^ 8 = x.toNat := Nat.mod_eq_of_lt (by omega)
    rw [h4]
    have h5 : b.toNat % 2 ^ 8 ^^^ x.toNat < 2 ^ 8 := Nat.xor_lt_two_pow (by omega) (by omega)
    exact (Nat.mod_eq_of_lt (by omega)).symm
  rw [e1, e2]
end Go.Ge
