import Derived.Test.YtilnmikgcbcmcaaGreatE1
import Derived.ProofKit
import Derived.OpenShut
import Derived.Below
import Derived.ChangeKeysEq
import Derived.Laws.StructEq
set_option linter.unusedVariables false
set_option linter.unusedSimpArgs false
set_option linter.unusedSectionVars false
namespace Go.Sx
open Go
def lim : IntKind → Nat
  | .i8 => 128 | .i16 => 32768 | .i32 => 2147483648 | .i64 => 9223372036854775808
  | .u8 => 256 | .u16 => 65536 | .u32 => 4294967296 | .u64 => 18446744073709551616
theorem wrap_nat {kd : IntKind} {n : Nat} (h : n < lim kd) : kd.wrap (n : Int) = n := by
  cases kd <;> simp only [lim] at h <;> simp only [IntKind.wrap, IntKind.bits, IntKind.signed, Bool.false_and, Bool.true_and, Bool.false_eq_true, if_false, decide_eq_true_eq]
  all_goals first
    | omega
    | (rw [if_neg (by simp; omega)]; omega)
theorem wrap_u64 (n : Int) : IntKind.u64.wrap n = n % 18446744073709551616 := by simp [IntKind.wrap, IntKind.bits, IntKind.signed]
theorem lim_le (kd : IntKind) : lim kd ≤ 2 ^ kd.bits := by cases kd <;> decide
def andn (a b : Nat) : Nat := a ^^^ (a &&& b)
theorem testBit_andn (a b j : Nat) : (andn a b).testBit j = (a.testBit j && !b.testBit j) := by
  unfold andn; rw [Nat.testBit_xor, Nat.testBit_and]; cases a.testBit j <;> cases b.testBit j <;> rfl
theorem andn_le (a b : Nat) : andn a b ≤ a := by
  have : andn a b = a &&& andn a b := by
    apply Nat.eq_of_testBit_eq; intro j
    rw [Nat.testBit_and, testBit_andn]; cases a.testBit j <;> simp
  rw [this]; exact Nat.and_le_left
theorem bits_nat {kd : IntKind} {a b : Nat} (ha : a < lim kd) (hb : b < lim kd) :
    bits .and kd a b = ((a &&& b : Nat) : Int) ∧ bits .or kd a b = ((a ||| b : Nat) : Int) ∧ bits .xor kd a b = ((a ^^^ b : Nat) : Int) ∧ bits .andNot kd a b = ((andn a b : Nat) : Int) := by
  have hl := lim_le kd
  have h1 : (BitVec.ofInt kd.bits (a : Int)).toNat = a := by rw [BitVec.ofInt_natCast, BitVec.toNat_ofNat, Nat.mod_eq_of_lt (by omega)]
  have h2 : (BitVec.ofInt kd.bits (b : Int)).toNat = b := by rw [BitVec.ofInt_natCast, BitVec.toNat_ofNat, Nat.mod_eq_of_lt (by omega)]
  obtain ⟨n, hn⟩ : ∃ n, lim kd = 2 ^ n := by cases kd <;> first | exact ⟨7, rfl⟩ | exact ⟨15, rfl⟩ | exact ⟨31, rfl⟩ | exact ⟨63, rfl⟩ | exact ⟨8, rfl⟩ | exact ⟨16, rfl⟩ | exact ⟨32, rfl⟩ | exact ⟨64, rfl⟩
  rw [hn] at ha hb
  refine ⟨?_, ?_, ?_, ?_⟩
  · simp only [bits, BitVec.toNat_and, h1, h2]
    exact wrap_nat (by rw [hn]; exact Nat.lt_of_le_of_lt Nat.and_le_left ha)
  · simp only [bits, BitVec.toNat_or, h1, h2]
    exact wrap_nat (by rw [hn]; exact Nat.or_lt_two_pow ha hb)
  · simp only [bits, BitVec.toNat_xor, h1, h2]
    exact wrap_nat (by rw [hn]; exact Nat.xor_lt_two_pow ha hb)
  · simp only [bits]
    have : (BitVec.ofInt kd.bits (a : Int) &&& ~~~BitVec.ofInt kd.bits (b : Int)).toNat = andn a b := by
      apply Nat.eq_of_testBit_eq; intro j
      rw [testBit_andn, ← BitVec.getLsbD, BitVec.getLsbD_and, BitVec.getLsbD_not, BitVec.getLsbD, BitVec.getLsbD, h1, h2]
      by_cases hj : j < kd.bits
      · simp [hj]
      · have : a.testBit j = false := Nat.testBit_lt_two_pow (Nat.lt_of_lt_of_le ha (by rw [← hn]; exact Nat.le_trans hl (Nat.pow_le_pow_right (by decide) (by omega))))
        simp [this]
    rw [this]
    exact wrap_nat (by rw [hn]; exact Nat.lt_of_le_of_lt (andn_le a b) ha)
section
variable {kd kd' : IntKind} {a b : Nat} {k : Value → Prop}
theorem Bin.andN (ha : a < lim kd) (hb : b < lim kd) (h : k (.int kd ((a &&& b : Nat) : Int))) : Bin .num .and (.int kd a) (.int kd b) k := ⟨_, by simp [binV, intV, (bits_nat ha hb).1], h⟩
theorem Bin.orN (ha : a < lim kd) (hb : b < lim kd) (h : k (.int kd ((a ||| b : Nat) : Int))) : Bin .num .or (.int kd a) (.int kd b) k := ⟨_, by simp [binV, intV, (bits_nat ha hb).2.1], h⟩
theorem Bin.xorN (ha : a < lim kd) (hb : b < lim kd) (h : k (.int kd ((a ^^^ b : Nat) : Int))) : Bin .num .xor (.int kd a) (.int kd b) k := ⟨_, by simp [binV, intV, (bits_nat ha hb).2.2.1], h⟩
theorem Bin.andnN (ha : a < lim kd) (hb : b < lim kd) (h : k (.int kd ((andn a b : Nat) : Int))) : Bin .num .andNot (.int kd a) (.int kd b) k := ⟨_, by simp [binV, intV, (bits_nat ha hb).2.2.2], h⟩
theorem Bin.shrN (ha : a < lim kd) (h : k (.int kd ((a >>> b : Nat) : Int))) : Bin .num .shr (.int kd a) (.int kd' b) k := by
  refine ⟨_, ?_, h⟩
  have h0 : ¬ ((b : Int) < 0) := by omega
  simp only [binV, h0, if_false, Option.some.injEq, Value.int.injEq, true_and, Int.toNat_natCast]
  rw [Int.fdiv_eq_ediv_of_nonneg _ (Int.le_of_lt (Int.pow_pos (by decide))), Nat.shiftRight_eq_div_pow]
  have hl := lim_le kd
  by_cases hb : b ≤ kd.bits
  · rw [Nat.min_eq_left hb]; push_cast; rfl
  · rw [Nat.min_eq_right (by omega)]
    have h1 : a / 2 ^ kd.bits = 0 := Nat.div_eq_of_lt (by omega)
    have h2 : a / 2 ^ b = 0 := Nat.div_eq_of_lt (Nat.lt_of_lt_of_le (by omega) (Nat.pow_le_pow_right (by decide) (by omega : kd.bits ≤ b)))
    have : (a : Int) / (2 ^ kd.bits : Int) = ((a / 2 ^ kd.bits : Nat) : Int) := by push_cast; rfl
    rw [this, h1, h2]
theorem Bin.shlN (hb : b ≤ kd.bits) (hr : a <<< b < lim kd) (h : k (.int kd ((a <<< b : Nat) : Int))) : Bin .num .shl (.int kd a) (.int kd' b) k := by
  refine ⟨_, ?_, h⟩
  have h0 : ¬ ((b : Int) < 0) := by omega
  simp only [binV, h0, if_false, Option.some.injEq, Value.int.injEq, true_and, Int.toNat_natCast, Nat.min_eq_left hb]
  rw [← wrap_nat hr, Nat.shiftLeft_eq]; push_cast; rfl
theorem Bin.shlU (h : k (.int .u64 (((a <<< b) % 18446744073709551616 : Nat) : Int))) : Bin .num .shl (.int .u64 a) (.int kd' b) k := by
  refine ⟨_, ?_, h⟩
  have h0 : ¬ ((b : Int) < 0) := by omega
  simp only [binV, h0, if_false, Option.some.injEq, Value.int.injEq, true_and, Int.toNat_natCast, IntKind.bits, wrap_u64]
  rw [Nat.shiftLeft_eq]
  by_cases hb : b ≤ 64
  · rw [Nat.min_eq_left hb, Int.natCast_emod, Int.natCast_mul, Int.natCast_pow]; rfl
  · rw [Nat.min_eq_right (by omega)]
    have h1 : (a * 2 ^ b) % 18446744073709551616 = 0 := by
      have : 2 ^ b = 18446744073709551616 * 2 ^ (b - 64) := by rw [show (18446744073709551616 : Nat) = 2 ^ 64 by rfl, ← Nat.pow_add]; congr 1; omega
      rw [this, Nat.mul_left_comm]; exact Nat.mul_mod_right _ _
    rw [h1]
    exact Int.mul_emod_left _ _
theorem Bin.addN (hr : a + b < lim kd) (h : k (.int kd ((a + b : Nat) : Int))) : Bin .num .add (.int kd a) (.int kd b) k := by
  refine Bin.add ?_
  have : ((a : Int) + (b : Int)) = ((a + b : Nat) : Int) := by push_cast; rfl
  rw [this, wrap_nat hr]; exact h
theorem Bin.subN (ha : a < lim kd) (hb : b ≤ a) (h : k (.int kd ((a - b : Nat) : Int))) : Bin .num .sub (.int kd a) (.int kd b) k := by
  refine Bin.sub ?_
  have : ((a : Int) - (b : Int)) = ((a - b : Nat) : Int) := by omega
  rw [this, wrap_nat (by omega)]; exact h
theorem Bin.mulN (hr : a * b < lim kd) (h : k (.int kd ((a * b : Nat) : Int))) : Bin .num .mul (.int kd a) (.int kd b) k := by
  refine Bin.mul ?_
  have : ((a : Int) * (b : Int)) = ((a * b : Nat) : Int) := by push_cast; rfl
  rw [this, wrap_nat hr]; exact h
theorem Bin.divN (ha : a < lim kd) (hb : b ≠ 0) (h : k (.int kd ((a / b : Nat) : Int))) : Bin .num .quo (.int kd a) (.int kd b) k := by
  refine ⟨_, ?_, h⟩
  have h0 : ¬ ((b : Int) = 0) := by omega
  simp only [binV, intV, if_true, h0, if_false]
  have : (a : Int).tdiv b = ((a / b : Nat) : Int) := by rw [Int.tdiv_eq_ediv_of_nonneg (by omega)]; push_cast; rfl
  rw [this, wrap_nat (Nat.lt_of_le_of_lt (Nat.div_le_self _ _) ha)]
theorem Bin.modN (hb : b ≠ 0) (h : k (.int kd ((a % b : Nat) : Int))) : Bin .num .rem (.int kd a) (.int kd b) k := by
  refine ⟨_, ?_, h⟩
  have h0 : ¬ ((b : Int) = 0) := by omega
  simp only [binV, intV, if_true, h0, if_false]
  have : (a : Int).tmod b = ((a % b : Nat) : Int) := by rw [Int.tmod_eq_emod_of_nonneg (by omega)]; push_cast; rfl
  rw [this]
theorem Bin.eqD {x y : Int} (h : k (.bool (decide (x = y)))) : Bin .num .eql (.int kd x) (.int kd y) k := Bin.eql (by rw [show (x == y) = decide (x = y) from by cases hb : decide (x = y) <;> simp_all]; exact h)
theorem Bin.neD {x y : Int} (h : k (.bool (decide (x ≠ y)))) : Bin .num .neq (.int kd x) (.int kd y) k := Bin.neq (by rw [show (x != y) = decide (x ≠ y) from by cases hb : decide (x = y) <;> simp_all]; exact h)
theorem Bin.eqN (h : k (.bool (decide (a = b)))) : Bin .num .eql (.int kd a) (.int kd b) k := Bin.eqD (by simpa [Int.natCast_inj] using h)
theorem Bin.neN (h : k (.bool (decide (a ≠ b)))) : Bin .num .neq (.int kd a) (.int kd b) k := Bin.neD (by simpa [Int.natCast_inj] using h)
theorem Bin.ltN (h : k (.bool (decide (a < b)))) : Bin .num .lss (.int kd a) (.int kd b) k := Bin.lss (by simpa [Int.ofNat_lt] using h)
theorem Bin.leN (h : k (.bool (decide (a ≤ b)))) : Bin .num .leq (.int kd a) (.int kd b) k := Bin.leq (by simpa [Int.ofNat_le] using h)
theorem Bin.gtN (h : k (.bool (decide (b < a)))) : Bin .num .gtr (.int kd a) (.int kd b) k := Bin.gtr (by simpa [Int.ofNat_lt] using h)
theorem Bin.geN (h : k (.bool (decide (b ≤ a)))) : Bin .num .geq (.int kd a) (.int kd b) k := Bin.geq (by simpa [Int.ofNat_le] using h)
theorem ConvI.nat (ha : a < lim kd) (h : k (.int kd (a : Int))) : ConvI kd (.int kd' a) k := ConvI.of (wrap_nat ha) h
theorem ConvI.cut8 (h : k (.int .u8 ((a % 256 : Nat) : Int))) : ConvI .u8 (.int kd' a) k := ConvI.of (by simp [IntKind.wrap, IntKind.bits, IntKind.signed]) h
theorem Un.negU (ha : a < 18446744073709551616) (h : k (.int .u64 (((18446744073709551616 - a) % 18446744073709551616 : Nat) : Int))) : Un .neg (.int .u64 a) k := by
  refine ⟨_, ?_, h⟩
  simp only [unV, wrap_u64, Option.some.injEq, Value.int.injEq, true_and]; omega
theorem Un.xorU (ha : a < 18446744073709551616) (h : k (.int .u64 ((18446744073709551615 - a : Nat) : Int))) : Un .xor (.int .u64 a) k := by
  refine ⟨_, ?_, h⟩
  have e : (if IntKind.u64.signed = true then (-1 : Int) else IntKind.u64.max) = ((18446744073709551615 : Nat) : Int) := by decide
  simp only [unV, e, (bits_nat (kd := .u64) (a := 18446744073709551615) (b := a) (by decide) ha).2.2.1, Option.some.injEq, Value.int.injEq, true_and]
  congr 1
  have : 18446744073709551615 ^^^ a = 18446744073709551615 - a := by
    have h64 : a < 2 ^ 64 := ha
    rw [show (18446744073709551615 : Nat) = 2 ^ 64 - 1 by rfl]
    apply Nat.eq_of_testBit_eq; intro j
    rw [Nat.testBit_xor, show 2 ^ 64 - 1 - a = 2 ^ 64 - (a + 1) by omega, Nat.testBit_two_pow_sub_succ h64, Nat.testBit_two_pow_sub_one]
    by_cases hj : j < 64
    · simp [hj]
    · simp [hj]; exact Nat.testBit_lt_two_pow (Nat.lt_of_lt_of_le h64 (Nat.pow_le_pow_right (by decide) (by omega)))
  exact this
end
theorem Br.dec {p : Prop} [Decidable p] {t f : Prop} (h1 : p → t) (h2 : ¬ p → f) : Br (.bool (decide p)) t f := ⟨_, rfl, fun h => h1 (by simpa using h), fun h => h2 (by simpa using h)⟩
theorem Br.decT {p : Prop} [Decidable p] {t f : Prop} (hp : p) (h1 : t) : Br (.bool (decide p)) t f := Br.dec (fun _ => h1) fun h => absurd hp h
theorem Br.decF {p : Prop} [Decidable p] {t f : Prop} (hp : ¬ p) (h1 : f) : Br (.bool (decide p)) t f := Br.dec (fun h => absurd h hp) fun _ => h1
end Go.Sx
namespace Tab
open Go.Sx
def wN (n : Nat) : Nat := max 1 (2 ^ n / 64)
def fullN (n : Nat) : Nat := if 6 ≤ n then 18446744073709551615 else 2 ^ 2 ^ n - 1
structure Frm (n : Nat) (ws : List Nat) : Prop where
  n16 : n ≤ 16
  len : ws.length = wN n
  full : ∀ w ∈ ws, w ≤ fullN n
instance (n : Nat) (ws : List Nat) : Decidable (Frm n ws) := decidable_of_iff (n ≤ 16 ∧ ws.length = wN n ∧ ∀ w ∈ ws, w ≤ fullN n) ⟨fun ⟨a, b, c⟩ => ⟨a, b, c⟩, fun ⟨a, b, c⟩ => ⟨a, b, c⟩⟩
def bit (ws : List Nat) (x : Nat) : Bool := (ws.getD (x / 64) 0).testBit (x % 64)
def setb (x v : Nat) (b : Bool) : Nat := if b then x ||| 2 ^ v else andn x (2 ^ v)
theorem wN_pos (n : Nat) : 0 < wN n := Nat.le_max_left _ _
theorem wN_ge {n : Nat} (h : 6 ≤ n) : wN n = 2 ^ (n - 6) := by
  unfold wN
  have : 2 ^ n / 64 = 2 ^ (n - 6) := by
    rw [show (64 : Nat) = 2 ^ 6 by rfl, Nat.pow_div h (by decide)]
  rw [this]; exact Nat.max_eq_right (Nat.two_pow_pos _)
theorem wN_lt {n : Nat} (h : n < 7) : wN n = 1 := by
  have : n = 0 ∨ n = 1 ∨ n = 2 ∨ n = 3 ∨ n = 4 ∨ n = 5 ∨ n = 6 := by omega
  rcases this with rfl | rfl | rfl | rfl | rfl | rfl | rfl <;> rfl
theorem wN_le {n : Nat} (h : n ≤ 16) : wN n ≤ 1024 := by
  by_cases h6 : 6 ≤ n
  · rw [wN_ge h6]; exact Nat.pow_le_pow_right (by decide) (by omega : n - 6 ≤ 10)
  · rw [wN_lt (by omega)]; decide
theorem fullN_lt (n : Nat) : fullN n < 18446744073709551616 := by
  unfold fullN
  split
  · decide
  · have h1 : 2 ^ n ≤ 32 := Nat.pow_le_pow_right (n := 2) (by decide) (by omega : n ≤ 5)
    have h2 : 2 ^ 2 ^ n ≤ 2 ^ 32 := Nat.pow_le_pow_right (by decide) h1
    omega
theorem Frm.lt {n : Nat} {ws : List Nat} (h : Frm n ws) {w : Nat} (hw : w ∈ ws) : w < 18446744073709551616 := Nat.lt_of_le_of_lt (h.full w hw) (fullN_lt n)
theorem and_full {n w : Nat} (h : w ≤ fullN n) : w &&& fullN n = w := by
  unfold fullN at *
  split at h
  · rename_i h6
    rw [if_pos h6, show (18446744073709551615 : Nat) = 2 ^ 64 - 1 by rfl, Nat.and_two_pow_sub_one_eq_mod, Nat.mod_eq_of_lt (by omega)]
  · rename_i h6
    rw [if_neg h6, Nat.and_two_pow_sub_one_eq_mod, Nat.mod_eq_of_lt]
    have := Nat.two_pow_pos (2 ^ n); omega
theorem testBit_full (n j : Nat) : (fullN n).testBit j = decide (j < if 6 ≤ n then 64 else 2 ^ n) := by
  unfold fullN
  split
  · rw [show (18446744073709551615 : Nat) = 2 ^ 64 - 1 by rfl, Nat.testBit_two_pow_sub_one]
  · rw [Nat.testBit_two_pow_sub_one]
theorem lt_words {n x : Nat} (h : x < 2 ^ n) : x / 64 < wN n := by
  by_cases h6 : 6 ≤ n
  · rw [wN_ge h6]
    refine Nat.div_lt_of_lt_mul ?_
    rw [show (64 : Nat) = 2 ^ 6 by rfl, ← Nat.pow_add]
    rwa [show 6 + (n - 6) = n by omega]
  · have h1 : 2 ^ n ≤ 32 := Nat.pow_le_pow_right (n := 2) (by decide) (by omega : n ≤ 5)
    rw [wN_lt (by omega)]; omega
theorem Frm.ext {n : Nat} {a b : List Nat} (ha : Frm n a) (hb : Frm n b) (h : ∀ x, x < 2 ^ n → bit a x = bit b x) : a = b := by
  apply List.ext_getElem (by rw [ha.len, hb.len])
  intro i h1 h2
  apply Nat.eq_of_testBit_eq
  intro j
  have hfa := and_full (ha.full _ (List.getElem_mem h1))
  have hfb := and_full (hb.full _ (List.getElem_mem h2))
  by_cases hj : j < (if 6 ≤ n then 64 else 2 ^ n)
  · have hj64 : j < 64 := by
      split at hj
      · exact hj
      · have h1 : 2 ^ n ≤ 32 := Nat.pow_le_pow_right (n := 2) (by decide) (by omega : n ≤ 5)
        omega
    have hx : 64 * i + j < 2 ^ n := by
      by_cases h6 : 6 ≤ n
      · have hi : i < 2 ^ (n - 6) := by rw [← wN_ge h6, ← ha.len]; exact h1
        have : 2 ^ n = 64 * 2 ^ (n - 6) := by rw [show (64 : Nat) = 2 ^ 6 by rfl, ← Nat.pow_add]; congr 1; omega
        omega
      · have hi : i < 1 := by rw [← wN_lt (show n < 7 by omega), ← ha.len]; exact h1
        rw [if_neg h6] at hj; omega
    have := h _ hx
    unfold bit at this
    rw [show (64 * i + j) / 64 = i by omega, show (64 * i + j) % 64 = j by omega] at this
    simpa [h1, h2] using this
  · have hd : (fullN n).testBit j = false := by rw [testBit_full]; simpa using hj
    rw [← hfa, ← hfb, Nat.testBit_and, Nat.testBit_and, hd]; simp
def colP (v : Nat) : Nat → Nat
  | 0 => 0
  | j + 1 => colP v j ||| (((j >>> v) &&& 1) <<< j)
def mask (v : Nat) : Nat := colP v 64
theorem and_one_eq (m : Nat) : m &&& 1 = if m.testBit 0 then 1 else 0 := by
  rw [Nat.and_one_is_mod, Nat.testBit_zero]
  rcases Nat.mod_two_eq_zero_or_one m with h | h <;> simp [h]
theorem testBit_colP (v : Nat) : ∀ J k, (colP v J).testBit k = (decide (k < J) && k.testBit v)
  | 0, k => by simp [colP]
  | J + 1, k => by
    rw [colP, Nat.testBit_or, testBit_colP v J k, and_one_eq, Nat.testBit_shiftRight, Nat.add_zero]
    by_cases e : k = J
    · subst e
      cases hb : k.testBit v <;> simp [Nat.testBit_shiftLeft]
    · have : ((if (J.testBit v) = true then 1 else 0) <<< J).testBit k = false := by
        rw [Nat.testBit_shiftLeft]
        split
        · by_cases hk : J ≤ k
          · have h1 : Nat.testBit 1 (k - J) = false := Nat.testBit_lt_two_pow (Nat.one_lt_two_pow (by omega))
            simp [hk, h1]
          · simp [hk]
        · simp
      rw [this]
      have : (decide (k < J + 1)) = decide (k < J) := by simp; omega
      rw [this]; simp
theorem colP_lt (v : Nat) : ∀ J, colP v J < 2 ^ J
  | 0 => by simp [colP]
  | J + 1 => by
    have h1 := colP_lt v J
    have h2 : ((J >>> v) &&& 1) <<< J < 2 ^ (J + 1) := by
      rw [and_one_eq, Nat.shiftLeft_eq]
      split
      · rw [Nat.one_mul]; exact Nat.pow_lt_pow_right (by decide) (by omega)
      · rw [Nat.zero_mul]; exact Nat.two_pow_pos _
    exact Nat.or_lt_two_pow (Nat.lt_of_lt_of_le h1 (Nat.pow_le_pow_right (by decide) (by omega))) h2
theorem testBit_mask (v k : Nat) : (mask v).testBit k = (decide (k < 64) && k.testBit v) := testBit_colP v 64 k
theorem mask_lt (v : Nat) : mask v < 18446744073709551616 := colP_lt v 64
def halfW (ws : List Nat) (v : Nat) (b : Bool) (i : Nat) : Nat :=
  if 6 ≤ v then ws.getD (setb i (v - 6) b) 0
  else if b then (ws.getD i 0 &&& mask v) ||| (ws.getD i 0 &&& mask v) >>> 2 ^ v
  else andn (ws.getD i 0) (mask v) ||| (andn (ws.getD i 0) (mask v) <<< 2 ^ v) % 18446744073709551616
def cof (n : Nat) (ws : List Nat) (v : Nat) (b : Bool) : List Nat := (List.range (wN n)).map fun i => halfW ws v b i &&& fullN n
theorem frm_cof {n v : Nat} {ws : List Nat} {b : Bool} (h : n ≤ 16) : Frm n (cof n ws v b) := by
  refine ⟨h, by simp [cof], fun w hw => ?_⟩
  obtain ⟨i, _, rfl⟩ := List.mem_map.1 hw
  exact Nat.and_le_right
theorem testBit_setb (x v : Nat) (b : Bool) (k : Nat) : (setb x v b).testBit k = if k = v then b else x.testBit k := by
  unfold setb
  cases b <;> simp only [if_true, Bool.false_eq_true, if_false]
  · rw [testBit_andn, Nat.testBit_two_pow]
    by_cases e : k = v
    · simp [e]
    · simp [e, Ne.symm e]
  · rw [Nat.testBit_or, Nat.testBit_two_pow]
    by_cases e : k = v
    · simp [e]
    · simp [e, Ne.symm e]
theorem setb_lt {x v n : Nat} {b : Bool} (hx : x < 2 ^ n) (hv : v < n) : setb x v b < 2 ^ n := by
  unfold setb
  split
  · exact Nat.or_lt_two_pow hx (Nat.pow_lt_pow_right (by decide) hv)
  · exact Nat.lt_of_le_of_lt (andn_le _ _) hx
theorem small6 : ∀ v : Fin 6, ∀ j : Fin 64, (j.1.testBit v.1 = true → setb j v true = j ∧ setb j v false = j - 2 ^ v.1 ∧ 2 ^ v.1 ≤ j.1 ∧ (j.1 + 2 ^ v.1).testBit v.1 = false ∧ (j.1 - 2 ^ v.1).testBit v.1 = false) ∧
    (j.1.testBit v.1 = false → setb j v true = j.1 + 2 ^ v.1 ∧ j.1 + 2 ^ v.1 < 64 ∧ setb j v false = j ∧ (j.1 + 2 ^ v.1).testBit v.1 = true ∧ (2 ^ v.1 ≤ j.1 → (j.1 - 2 ^ v.1).testBit v.1 = true)) := by decide +kernel
theorem setb_parts {x v : Nat} {b : Bool} : (6 ≤ v → setb x v b / 64 = setb (x / 64) (v - 6) b ∧ setb x v b % 64 = x % 64) ∧ (v < 6 → setb x v b / 64 = x / 64 ∧ setb x v b % 64 = setb (x % 64) v b) := by
  have h64 : ∀ y : Nat, y / 64 = y >>> 6 := fun y => by rw [Nat.shiftRight_eq_div_pow]
  have m64 : ∀ y : Nat, y % 64 = y % 2 ^ 6 := fun y => rfl
  refine ⟨fun h => ⟨?_, ?_⟩, fun h => ⟨?_, ?_⟩⟩ <;> apply Nat.eq_of_testBit_eq <;> intro k
  · rw [h64, h64, Nat.testBit_shiftRight, testBit_setb, testBit_setb, Nat.testBit_shiftRight]
    by_cases e : k = v - 6
    · rw [if_pos e, if_pos (by omega)]
    · rw [if_neg e, if_neg (by omega)]
  · rw [m64 (setb x v b), m64 x, Nat.testBit_mod_two_pow, Nat.testBit_mod_two_pow, testBit_setb]
    by_cases hk : k < 6
    · rw [if_neg (by omega)]
    · simp [hk]
  · rw [h64, h64, Nat.testBit_shiftRight, testBit_setb, Nat.testBit_shiftRight, if_neg (by omega)]
  · rw [m64 (setb x v b), m64 x, Nat.testBit_mod_two_pow, testBit_setb, testBit_setb, Nat.testBit_mod_two_pow]
    by_cases e : k = v
    · subst e; simp [h]
    · simp [e]
theorem bit_cof {n v x : Nat} {ws : List Nat} {b : Bool} (hf : Frm n ws) (hv : v < n) (hx : x < 2 ^ n) : bit (cof n ws v b) x = bit ws (setb x v b) := by
  have hi := lt_words hx
  unfold bit
  have hget : (cof n ws v b).getD (x / 64) 0 = halfW ws v b (x / 64) &&& fullN n := by
    simp [cof, hi]
  rw [hget, Nat.testBit_and, testBit_full]
  have hfb : decide (x % 64 < if 6 ≤ n then 64 else 2 ^ n) = true := by
    rw [decide_eq_true_eq]
    split
    · exact Nat.mod_lt _ (by decide)
    · have h1 : 2 ^ n ≤ 32 := Nat.pow_le_pow_right (n := 2) (by decide) (by omega : n ≤ 5)
      omega
  rw [hfb, Bool.and_true]
  unfold halfW
  by_cases h6 : 6 ≤ v
  · rw [if_pos h6, (setb_parts.1 h6).1, (setb_parts.1 h6).2]
  · rw [if_neg h6]
    obtain ⟨e1, e2⟩ := (setb_parts (x := x) (v := v) (b := b)).2 (by omega)
    rw [e1, e2]
    generalize hw : ws.getD (x / 64) 0 = w
    have hwl : w < 2 ^ 64 := by
      rw [← hw]
      rw [List.getD_eq_getElem?_getD, List.getElem?_eq_getElem (by rw [hf.len]; exact hi)]
      exact hf.lt (List.getElem_mem _)
    have hj : x % 64 < 64 := Nat.mod_lt _ (by decide)
    generalize x % 64 = j at hj
    obtain ⟨s1, s2⟩ := small6 ⟨v, by omega⟩ ⟨j, hj⟩
    simp only at s1 s2
    cases b
    · simp only [Bool.false_eq_true, if_false]
      rw [show (18446744073709551616 : Nat) = 2 ^ 64 by rfl, Nat.testBit_or, Nat.testBit_mod_two_pow, Nat.testBit_shiftLeft, testBit_andn, testBit_andn, testBit_mask, testBit_mask]
      cases hb : j.testBit v
      · obtain ⟨t1, t2, t3, t4, t5⟩ := s2 hb
        rw [t3]
        by_cases hle : 2 ^ v ≤ j
        · have := t5 hle
          have h64 : j - 2 ^ v < 64 := Nat.lt_of_le_of_lt (Nat.sub_le _ _) hj
          simp [hj, this, h64]
        · simp [hj, hle]
      · obtain ⟨t1, t2, t3, t4, t5⟩ := s1 hb
        rw [t2]
        simp [hj, t3, t5]
    · simp only [if_true]
      rw [Nat.testBit_or, Nat.testBit_and, Nat.testBit_shiftRight, Nat.testBit_and, testBit_mask, testBit_mask]
      cases hb : j.testBit v
      · obtain ⟨t1, t2, t3, t4, t5⟩ := s2 hb
        rw [t1, Nat.add_comm (2 ^ v) j]
        simp [hj, t2, t4]
      · obtain ⟨t1, t2, t3, t4, t5⟩ := s1 hb
        rw [t1, Nat.add_comm (2 ^ v) j]
        simp [hj, t4]
def dep (n : Nat) (ws : List Nat) (v : Nat) : Bool := decide (cof n ws v false ≠ cof n ws v true)
theorem setb_self (x v : Nat) : setb x v (x.testBit v) = x := by
  apply Nat.eq_of_testBit_eq; intro k
  rw [testBit_setb]
  by_cases e : k = v
  · rw [if_pos e, e]
  · rw [if_neg e]
theorem cof_of_not_dep {n v : Nat} {ws : List Nat} {b : Bool} (hf : Frm n ws) (hv : v < n) (h : dep n ws v = false) : cof n ws v b = ws := by
  have he : cof n ws v false = cof n ws v true := by simpa [dep] using h
  have hall : ∀ c d, cof n ws v c = cof n ws v d := by intro c d; cases c <;> cases d <;> first | rfl | exact he | exact he.symm
  refine (frm_cof hf.n16).ext hf fun x hx => ?_
  rw [hall b (x.testBit v), bit_cof hf hv hx, setb_self]
theorem dep_iff {n v : Nat} {ws : List Nat} (hf : Frm n ws) (hv : v < n) : dep n ws v = true ↔ ∃ x, x < 2 ^ n ∧ bit ws (setb x v false) ≠ bit ws (setb x v true) := by
  constructor
  · intro h
    refine Classical.byContradiction fun hno => ?_
    have : cof n ws v false = cof n ws v true := (frm_cof hf.n16).ext (frm_cof hf.n16) fun x hx => by
      rw [bit_cof hf hv hx, bit_cof hf hv hx]
      exact Classical.byContradiction fun hne => hno ⟨x, hx, hne⟩
    simp [dep, this] at h
  · rintro ⟨x, hx, hne⟩
    simp only [dep, ne_eq, decide_eq_true_eq]
    intro he
    apply hne
    rw [← bit_cof hf hv hx, ← bit_cof hf hv hx, he]
end Tab
namespace Go.Sx
open Go
inductive Grow : Hp → Hp → Prop
  | refl (B : Hp) : Grow B B
  | cons {x : Nat × Obj} {B H : Hp} (h : Grow B H) : Grow B (x :: H)
  | app {N B H : Hp} (h : Grow B H) : Grow B (N ++ H)
theorem Grow.spec {B H : Hp} (h : Grow B H) : ∃ N, H = N ++ B := by
  induction h with
  | refl => exact ⟨[], rfl⟩
  | @cons x B H h ih => obtain ⟨N, rfl⟩ := ih; exact ⟨x :: N, rfl⟩
  | @app M B H h ih => obtain ⟨N, rfl⟩ := ih; exact ⟨M ++ N, by rw [List.append_assoc]⟩
theorem Grow.sub {B H : Hp} (h : Grow B H) : ∀ x ∈ B, x ∈ H := by
  obtain ⟨N, rfl⟩ := h.spec; exact fun x hx => List.mem_append_right _ hx
theorem Grow.ent {B H : Hp} (h : Grow B H) : Ent H B := by
  obtain ⟨N, rfl⟩ := h.spec; exact Ent.right
theorem Grow.trans {A B C : Hp} (h : Grow A B) (h' : Grow B C) : Grow A C := by
  obtain ⟨N, rfl⟩ := h'.spec; exact .app h
section
variable {P : Program} {g : Gh} {H : Hp}
def Px (P : Program) (f : FuncId) (args : Array Value) (B : Hp) (Q : Value → Hp → Prop) : Prop := Fc P f args B (fun v H => Grow B H ∧ Q v H)
theorem CallF.px {f : FuncId} {args : Array Value} {B H : Hp} {c : Hp → Hp} {Q : Value → Hp → Prop} {K : Value → Hp → Prop} {KP : List PanicEntry → Hp → Prop} (hh : Hole B H c) (hc : Px P f args B Q)
    (hk : ∀ v N, Q v (N ++ B) → K v (c (N ++ B))) : CallF P g f args H K KP :=
  CallF.fn hh hc fun v C' ⟨h1, h2⟩ => by obtain ⟨N, rfl⟩ := h1.spec; exact hk v N h2
theorem CallF.pre {f : FuncId} {args : Array Value} {H' : Hp} {K : Value → Hp → Prop} {KP : List PanicEntry → Hp → Prop} (he : Ent H H') (h : CallF P g f args H' K KP) : CallF P g f args H K KP := SCalls.pre h he
theorem Ent.swap {x y : Nat × Obj} {A : Hp} : Ent (x :: y :: A) (y :: x :: A) := .perm (.swap _ _ _)
theorem PxR.mk {Q : Value → Hp → Prop} {v : Value} {B H : Hp} (he : Grow B H) (h : Q v H) : FnR (fun v H => Grow B H ∧ Q v H) (.returned v) H := ⟨v, H, rfl, .refl _, he, h⟩
theorem RdR.mk {Q : Value → Prop} {v : Value} {B H : Hp} (he : Ent H B) (h : Q v) : FnR (fun v H => H = B ∧ Q v) (.returned v) H := ⟨v, B, rfl, he, rfl, h⟩
def icells (kd : IntKind) (l : List Int) : Array Value := (l.map fun n => Value.int kd n).toArray
theorem icells_set (kd : IntKind) (l : List Int) (i : Nat) (n : Int) : (icells kd l).setIfInBounds i (.int kd n) = icells kd (l.set i n) := by
  simp [icells, List.map_set]
@[simp] theorem icells_size (kd : IntKind) (l : List Int) : (icells kd l).size = l.length := by simp [icells]
theorem made_ints (kd : IntKind) (n : Nat) : madeCells (Value.cells (.int kd 0)) (n * 1) = icells kd (List.replicate n 0) := by
  apply Array.ext
  · simp [madeCells, icells]
  · intro i h1 h2
    simp [madeCells, icells, Value.cells, Nat.mod_one]
def Ints (kd : IntKind) (B : Hp) (v : Value) (l : List Int) : Prop := Sl 1 B v (l.map fun n => [Value.int kd n])
theorem Ints.mono {kd : IntKind} {B B' : Hp} {v : Value} {l : List Int} (h : Ints kd B v l) (hs : ∀ x ∈ B, x ∈ B') : Ints kd B' v l := Sl.mono h hs
theorem Ints.nil {kd : IntKind} {B : Hp} : Ints kd B (.slice none 0 0) [] := Sl.nil _ _
theorem Ints.lenS {kd : IntKind} {B : Hp} {v : Value} {l : List Int} (h : Ints kd B v l) {K : Value → Prop} (hk : K (.int .i64 l.length)) : LenS v K := Sl.lenS h (by simpa using hk)
theorem Ints.block {kd : IntKind} {B : Hp} {b cap : Nat} {l : List Int} {T : TypeId} {fz : Nat × Nat} (hm : (b, Obj.cells (icells kd l) T fz) ∈ B) (hc : l.length ≤ cap) : Ints kd B (.slice (some ⟨b, 0, none⟩) l.length cap) l := by
  refine ⟨by simp, .inr ⟨b, 0, cap, _, T, fz, by simp, by simpa using hc, hm, by simp [icells], fun i r hi j v hj => ?_⟩⟩
  rw [List.getElem?_map] at hi
  cases hl : l[i]? with
  | none => rw [hl] at hi; simp at hi
  | some n =>
    rw [hl] at hi
    simp only [Option.map_some, Option.some.injEq] at hi
    subst hi
    cases j with
    | zero =>
      simp only [List.getElem?_cons_zero, Option.some.injEq] at hj
      subst hj
      simp [icells, hl]
    | succ j => simp at hj
theorem Ints.at {kd kd' : IntKind} {B : Hp} {v : Value} {l : List Int} (h : Ints kd B v l) {i : Nat} {n : Int} (hi : l[i]? = some n) {K : Value → Prop} (hk : ∀ p, At B p [.int kd n] → K p) : IAddr 1 v (.int kd' (i : Int)) K :=
  IAddr.sl h (by rw [List.getElem?_map, hi]; rfl) hk
theorem Ints.ld {kd kd' : IntKind} {B : Hp} {v : Value} {l : List Int} (h : Ints kd B v l) {i : Nat} {n : Int} (hi : l[i]? = some n) (hs : ∀ x ∈ B, x ∈ H) {K : Value → Prop} (hk : K (.int kd n)) : IAddr 1 v (.int kd' (i : Int)) (fun p => Ld H p K) :=
  h.at hi fun p hp => Ld.at hp hs hk
theorem MkSlice.ints {T : TypeId} {kd kl : IntKind} {bytes n : Nat} {K : Value → Hp → Prop} (hmax : n ≤ 9223372036854775807) (hb : n * bytes ≤ 281474976710656)
    (h : ∀ b, K (.slice (some ⟨b, 0, none⟩) n n) ((b, .cells (icells kd (List.replicate n 0)) T (0, 0)) :: H)) : MkSlice T 1 bytes (.int kd 0) H (.int kl n) (.int kl n) K :=
  ⟨kl, kl, n, n, rfl, rfl, Nat.le_refl _, by omega, hb, fun b _ => by rw [made_ints]; exact h b⟩
theorem MkSliceC.ints {T : TypeId} {kd kl : IntKind} {bytes n : Nat} {K : Mk → Prop} (hmax : n ≤ 9223372036854775807) (hb : n * bytes ≤ 281474976710656)
    (h : K (.cells (icells kd (List.replicate n 0)) T (0, 0), fun b => .slice (some ⟨b, 0, none⟩) n n)) : MkSliceC T 1 bytes (.int kd 0) (.int kl n) (.int kl n) K :=
  ⟨kl, kl, n, n, rfl, rfl, Nat.le_refl _, by omega, hb, by rw [made_ints]; exact h⟩
theorem St.ints {b i : Nat} {kd : IntKind} {l : List Int} {x : Int} {T : TypeId} {H' : Hp} {K : Hp → Prop} (hu : Upd b (.cells (icells kd l) T (0, 0)) (.cells (icells kd (l.set i x)) T (0, 0)) H H') (hi : i < l.length) (h : K H') :
    St 1 H (.pointer (some ⟨b, 0 + i * 1, none⟩)) (.int kd x) K :=
  St.one (c := icells kd l) (c' := icells kd (l.set i x)) hu rfl (by simpa using hi) (by rw [Nat.zero_add, Nat.mul_one]; exact icells_set kd l i x) h
end
def nAt : List Value → Nat → Nat
  | .int _ q :: _, 0 => q.toNat
  | _ :: r, i + 1 => nAt r i
  | _, _ => 0
structure Tb where
  n : Int
  ws : List Nat
  deriving DecidableEq
def iw (ws : List Nat) : List Int := ws.map (Nat.cast : Nat → Int)
@[simp] theorem iw_length (ws : List Nat) : (iw ws).length = ws.length := by simp [iw]
theorem iw_get {ws : List Nat} {i w : Nat} (h : ws[i]? = some w) : (iw ws)[i]? = some (w : Int) := by simp [iw, h]
def Words (B : Hp) (s : Value) (ws : List Nat) : Prop := Ints .u64 B s (iw ws) ∧ ∀ w ∈ ws, w < 18446744073709551616
theorem Words.mono {B B' : Hp} {v : Value} {ws : List Nat} (h : Words B v ws) (hs : ∀ x ∈ B, x ∈ B') : Words B' v ws := ⟨h.1.mono hs, h.2⟩
theorem Words.block {B : Hp} {b cap : Nat} {ws : List Nat} {T : TypeId} {fz : Nat × Nat} (hm : (b, Obj.cells (icells .u64 (iw ws)) T fz) ∈ B) (hc : ws.length ≤ cap) (hw : ∀ w ∈ ws, w < 18446744073709551616) : Words B (.slice (some ⟨b, 0, none⟩) ws.length cap) ws := by
  have := Ints.block (cap := cap) hm (by simpa using hc)
  rw [iw_length] at this
  exact ⟨this, hw⟩
def Tbl (B : Hp) (v : Value) (t : Tb) : Prop := ∃ s, v = .agg #[.int .i64 t.n, s] ∧ Words B s t.ws
theorem Tbl.mono {B B' : Hp} {v : Value} {t : Tb} (h : Tbl B v t) (hs : ∀ x ∈ B, x ∈ B') : Tbl B' v t := let ⟨s, h1, h2⟩ := h; ⟨s, h1, h2.mono hs⟩
def TRow (B : Hp) (r : List Value) (t : Tb) : Prop := ∃ s, r = [.int .i64 t.n, s] ∧ Words B s t.ws
theorem TRow.tbl {B : Hp} {r : List Value} {t : Tb} (h : TRow B r t) : Tbl B (.agg r.toArray) t := by obtain ⟨s, rfl, h⟩ := h; exact ⟨s, rfl, h⟩
theorem TRow.mono {B B' : Hp} {r : List Value} {t : Tb} (h : TRow B r t) (hs : ∀ x ∈ B, x ∈ B') : TRow B' r t := let ⟨s, h1, h2⟩ := h; ⟨s, h1, h2.mono hs⟩
theorem TRow.len {B : Hp} {r : List Value} {t : Tb} (h : TRow B r t) : r.length = 2 := by obtain ⟨s, rfl, h⟩ := h; rfl
def Each {α : Type} (p : List Value → α → Prop) (rs : List (List Value)) (l : List α) : Prop := rs.length = l.length ∧ ∀ (i : Nat) (r : List Value) (x : α), rs[i]? = some r → l[i]? = some x → p r x
theorem Each.nil {α : Type} {p : List Value → α → Prop} : Each p [] [] := ⟨rfl, by simp⟩
theorem Each.get {α : Type} {p : List Value → α → Prop} {rs : List (List Value)} {l : List α} (h : Each p rs l) {i : Nat} {x : α} (hx : l[i]? = some x) : ∃ r, rs[i]? = some r ∧ p r x := by
  have hlt := (List.getElem?_eq_some_iff.1 hx).1
  have : i < rs.length := by rw [h.1]; exact hlt
  exact ⟨rs[i], List.getElem?_eq_getElem this, h.2 i _ _ (List.getElem?_eq_getElem this) hx⟩
theorem Each.mono {α : Type} {p q : List Value → α → Prop} {rs : List (List Value)} {l : List α} (h : Each p rs l) (hpq : ∀ r x, p r x → q r x) : Each q rs l := ⟨h.1, fun i r x h1 h2 => hpq _ _ (h.2 i r x h1 h2)⟩
theorem Each.snoc {α : Type} {p : List Value → α → Prop} {rs : List (List Value)} {l : List α} (h : Each p rs l) {r : List Value} {x : α} (hx : p r x) : Each p (rs ++ [r]) (l ++ [x]) := by
  refine ⟨by simp [h.1], fun i r' x' h1 h2 => ?_⟩
  by_cases e : i < l.length
  · rw [List.getElem?_append_left e] at h2
    rw [List.getElem?_append_left (by rw [h.1]; exact e)] at h1
    exact h.2 i _ _ h1 h2
  · rw [List.getElem?_append_right (by omega)] at h2
    rw [List.getElem?_append_right (by rw [h.1]; omega), h.1] at h1
    cases hi : i - l.length with
    | zero => rw [hi] at h1 h2; simp at h1 h2; subst h1; subst h2; exact hx
    | succ k => rw [hi] at h2; simp at h2
def Tbls (B : Hp) (v : Value) (ts : List Tb) : Prop := ∃ rs, Sl 2 B v rs ∧ Each (TRow B) rs ts
theorem Tbls.mono {B B' : Hp} {v : Value} {ts : List Tb} (h : Tbls B v ts) (hs : ∀ x ∈ B, x ∈ B') : Tbls B' v ts := let ⟨rs, h1, h2⟩ := h; ⟨rs, h1.mono hs, h2.mono fun _ _ h => h.mono hs⟩
theorem Tbls.lenS {B : Hp} {v : Value} {ts : List Tb} (h : Tbls B v ts) {K : Value → Prop} (hk : K (.int .i64 ts.length)) : LenS v K := by
  obtain ⟨rs, h1, h2⟩ := h; refine h1.lenS ?_; have := h2.1; rw [this]; exact hk
theorem Tbls.ld {B H : Hp} {v : Value} {ts : List Tb} {kd : IntKind} (h : Tbls B v ts) {i : Nat} {t : Tb} (hi : ts[i]? = some t) (hs : ∀ x ∈ B, x ∈ H) {K : Value → Prop} (hk : ∀ s, Words B s t.ws → K (.agg #[.int .i64 t.n, s])) : IAddr 2 v (.int kd (i : Int)) (fun p => LdA 2 H p K) := by
  obtain ⟨rs, h1, h2⟩ := h
  obtain ⟨r, hr, s, rfl, hw⟩ := h2.get hi
  exact IAddr.sl h1 hr fun p hp => LdA.at hp rfl (by decide) hs (hk s hw)
theorem Tbls.ldN {B H : Hp} {v : Value} {ts : List Tb} {kd : IntKind} (h : Tbls B v ts) {i : Nat} {t : Tb} (hi : ts[i]? = some t) (hs : ∀ x ∈ B, x ∈ H) {K : Value → Prop} (hk : K (.int .i64 t.n)) : IAddr 2 v (.int kd (i : Int)) (fun p => FAddr 0 p (fun q => Ld H q K)) := by
  obtain ⟨rs, h1, h2⟩ := h
  obtain ⟨r, hr, s, rfl, hw⟩ := h2.get hi
  exact IAddr.sl h1 hr fun p hp => FAddr.at hp fun q hq => Ld.at hq hs hk
theorem Tbls.one {B : Hp} {b cap : Nat} {t : Tb} {s : Value} {T : TypeId} {fz : Nat × Nat} (hm : (b, Obj.cells #[.int .i64 t.n, s] T fz) ∈ B) (hw : Words B s t.ws) : Tbls B (.slice (some ⟨b, 0, none⟩) 1 (cap + 1)) [t] := by
  refine ⟨[[.int .i64 t.n, s]], ⟨by simp, .inr ⟨b, 0, cap + 1, _, T, fz, rfl, by simp, hm, by simp, fun i r hi j v hj => ?_⟩⟩, rfl, fun i r x h1 h2 => ?_⟩
  · cases i with
    | zero => simp at hi; subst hi; simpa using hj
    | succ i => simp at hi
  · cases i with
    | zero => simp at h1 h2; subst h1; subst h2; exact ⟨s, rfl, hw⟩
    | succ i => simp at h1
def TF (t : Tb) : Prop := 0 ≤ t.n ∧ Tab.Frm t.n.toNat t.ws
instance (t : Tb) : Decidable (TF t) := by unfold TF; infer_instance
end Go.Sx
namespace Go.Sx
open Go Go.RowKit
section
variable {P : Program}
def whole (W : World) : Hp := (List.range W.heap.size).map fun i => (i, W.heap.getD i default)
theorem own_whole (W : World) : Own ⟨W, []⟩ (whole W) W := by
  refine ⟨rfl, rfl, rfl, ?_, ?_⟩
  · have : (whole W).map Prod.fst = List.range W.heap.size := by
      unfold whole
      rw [List.map_map]
      have : (Prod.fst ∘ fun i => (i, W.heap.getD i default)) = id := by funext i; rfl
      rw [this, List.map_id]
    rw [List.append_nil, this]; exact List.nodup_range
  · intro x hx
    rw [List.append_nil] at hx
    obtain ⟨i, hi, rfl⟩ := List.mem_map.1 hx
    have := List.mem_range.1 hi
    simp [Array.getD_eq_getD_getElem?, this]
theorem mem_whole {W : World} {b : Nat} {o : Obj} (h : W.heap[b]? = some o) : (b, o) ∈ whole W := by
  have hlt := (Array.getElem?_eq_some_iff.1 h).1
  exact List.mem_map.2 ⟨b, List.mem_range.2 hlt, by simp [Array.getD_eq_getD_getElem?, h]⟩
theorem whole_cell {W : World} {b off : Nat} {v : Value} (h : W.cell? ⟨b, off, none⟩ = some v) : ∃ c T fz, (b, Obj.cells c T fz) ∈ whole W ∧ c[off]? = some v := by
  unfold World.cell? at h
  split at h
  · rename_i c T fz hb
    exact ⟨c, T, fz, mem_whole hb, by simpa using h⟩
  · simp at h
theorem Own.below {W W' : World} (h : Own ⟨W, []⟩ (whole W) W') : Below W.heap.size W W' := by
  have hb : ∀ k, k < W.heap.size → W'.heap[k]? = W.heap[k]? := fun k hk => by
    have := h.has (k, W.heap.getD k default) (List.mem_map.2 ⟨k, List.mem_range.2 hk, rfl⟩)
    simp only at this
    rw [this]; simp [Array.getD_eq_getD_getElem?, hk]
  refine ⟨h.os, h.tape, h.out, ?_, hb⟩
  rcases Nat.eq_zero_or_pos W.heap.size with h0 | h0
  · omega
  · have := hb (W.heap.size - 1) (by omega)
    rw [show W.heap[W.heap.size - 1]? = some (W.heap[W.heap.size - 1]'(by omega)) from Array.getElem?_eq_getElem (by omega)] at this
    have := (Array.getElem?_eq_some_iff.1 this).1
    omega
theorem law_below {f : FuncId} {args : Array Value} {W : World} (h : SCalls P ⟨W, []⟩ f args (whole W) (fun e H' => e = .returned (.bool true) ∧ Ent H' (whole W))) :
    Calls P f args W fun e W' => e = .returned (.bool true) ∧ Below W.heap.size W W' :=
  (h W (own_whole W)).mono fun e W' ⟨H', ho, he, hent⟩ => ⟨he, (hent _ _ ho).below⟩
theorem law_px {f : FuncId} {args : Array Value} {W : World} (h : Px P f args (whole W) (fun v _ => v = .bool true)) :
    Calls P f args W fun e W' => e = .returned (.bool true) ∧ Below W.heap.size W W' :=
  law_below ((h ⟨W, []⟩).post fun e H' ⟨v, C, he, hent, hg, hv⟩ => ⟨H', .refl _, by rw [he, hv], hent.trans hg.ent⟩)
section
variable {H : Type} {enc : TypeId × Value → H}
open Go.ChangeShapes Go.WideShapes Go.ChangeAt Go.RowKit
theorem trodAll_stays (hl : laidOutB P = true) {W W' : World} {sp : Nat → Bool} (hb : Below W.heap.size W W') : ∀ (ts : List TypeId) (vs : List Value) (ds : List (DataW H)) (ps : List MemPlace),
    (∀ t ∈ ts, P.readableRec t = true ∧ t < P.types.size) → DataW.TrodAll enc P W 0 (fun _ => true) true ts vs ds ps → (∀ x ∈ ps, x.block < W.heap.size) → (∀ x ∈ ps, sp x.block = true) → DataW.TrodAll enc P W' 0 sp true ts vs ds ps
  | [], vs, ds, ps, _, h, _, _ => by
    obtain ⟨rfl, rfl, rfl⟩ := trodAll_nil h; exact trodAll_mk0
  | t :: ts, vs, ds, ps, hr, h, hlt, hsp => by
    obtain ⟨v, vs', d, ds', p, q, rfl, rfl, rfl, h0, h1⟩ := trodAll_cons h
    have ht := hr t (by simp)
    exact trodAll_cons_mk (WideElems.Trod_stays hl ht.1 ht.2 h0 (fun x hx => hb.same (hlt x (by simp [hx]))) (fun x hx => hsp x (by simp [hx])))
      (trodAll_stays hl hb ts vs' ds' q (fun t' h' => hr t' (by simp [h'])) h1 (fun x hx => hlt x (by simp [hx])) (fun x hx => hsp x (by simp [hx])))
theorem law_post {f : Func} {s : ChangeSpec} {W W' : World} {args : Array Value} {ds gs : List (DataW H)} {before : List MemPlace} {tb : TypeId} (hvars : s.vars = [])
    (hW : DataW.Whole enc P f.params.toList s.vars false W args.toList ds gs before) (hs : s.fn H (ds ++ gs) = { results := [.lit (.bool true)], args := ds }) (hb : Below W.heap.size W W')
    (hl : laidOutB P = true) (hr : ∀ t ∈ f.params.toList, P.readableRec t = true ∧ t < P.types.size) (hrt : f.resultTypes = #[tb]) (hbool : P.underlying tb = some .bool) :
    s.post enc P f false true false false W args (.bool true) W' := by
  have hW' := hW
  have hlt := hW.lt
  obtain ⟨p, q, hA, hV, rfl, hfz, hnd⟩ := hW
  rw [hvars] at hV
  obtain ⟨rfl, rfl⟩ := trodVars_none hV
  refine ⟨ds, _, _, [], p, [], hW', ?_, ?_, ?_, World.keptBut_mono (fun p hp => ⟨hp, ?_⟩) (hb.frame (· ∈ p ++ [])), fun h => by cases h⟩
  · rw [hs, hrt]; exact trodAll_cons_mk (shut_bool hbool _) trodAll_mk0
  · rw [hs]
    exact trodAll_stays hl hb _ _ _ _ hr hA (fun x hx => hlt x (by simp [hx])) (fun x hx => by simpa using hlt x (by simp [hx]))
  · rw [hvars, hs]; rfl
  · right; simpa using hp
end
end
end Go.Sx
namespace Go.Sx
open Go
section
variable {P : Program} {g : Gh} {H : Hp}
theorem BuildSl.cell {t e : TypeId} {z x : Value} {K : Value → Hp → Prop} (h1 : P.underlying t = some (.slice e)) (h2 : sizeD P e = some 1) (h3 : zeroD P e = some z) (hx : x.oneCell' = true)
    (h : ∀ b, K (.slice (some ⟨b, 0, Option.none⟩) 1 1) ((b, .cells #[x] e (0, 0)) :: H)) : BuildSl P t 1 [(0, x)] H K := by
  refine ⟨#[x], e, 1, z, h1, h2, h3, by omega, ?_, fun b _ => h b⟩
  have hxc : x.cells = #[x] := by cases x <;> first | rfl | (simp [Value.oneCell'] at hx)
  have : ((Array.range (1 * 1)).map (z.cells[· % z.cells.size]!)) = [z.cells[0 % z.cells.size]!].toArray := by
    rw [show Array.range (1 * 1) = #[0] by decide]; simp
  rw [this]
  refine fillL_fill _ _ _ ?_
  simp only [fillL, hxc]
  rfl
theorem SOwn.cell1 {T : TypeId} {v x : Value} {rs : List (List Value)} {C : Hp} (hs : SOwn T 1 v rs C) {i : Nat} (hi : i < rs.length) (hr : rs[i]? = some [x]) (hC : ∀ y ∈ C, y ∈ H) {K : Value → Prop} (hk : K x) :
    IAddr 1 v (.int .i64 (i : Int)) fun p => Ld H p K := by
  obtain ⟨b', junk, rfl, rfl, hall⟩ := hs.pos (by omega)
  refine IAddr.nat hi ?_
  exact Ld.row1 (l := rs ++ junk) (hC _ (List.Mem.head _)) hall (by rw [List.getElem?_append_left hi]; exact hr) hk
theorem SOwn.put1 {T : TypeId} {v x y : Value} {rs : List (List Value)} {C A B : Hp} (hs : SOwn T 1 v rs C) {i : Nat} (hi : i < rs.length) (hr : rs[i]? = some [y]) (h1 : x.oneCell' = true) {K : Hp → Prop}
    (hk : ∀ C', SOwn T 1 v (rs.set i [x]) C' → K (A ++ (C' ++ B))) : IAddr 1 v (.int .i64 (i : Int)) fun p => St 1 (A ++ (C ++ B)) p x K := by
  obtain ⟨b', junk, rfl, rfl, hall⟩ := hs.pos (by omega)
  refine IAddr.nat hi ?_
  refine St.cell (l := rs ++ junk) (i := i) (k := 1) (j := 0) (r := [y]) (((Upd.head _).append B).prepend A) hall (by rw [List.getElem?_append_left hi]; exact hr) (by omega) h1 ?_
  have e : (rs ++ junk).set i ([y].set 0 x) = rs.set i [x] ++ junk := by rw [List.set_append_left _ _ hi]; rfl
  rw [e]
  refine hk [(b', _)] (SOwn.mk' (junk := junk) (fun r hr' => ?_) (by simp) (by simp))
  rcases List.mem_append.1 hr' with hr' | hr'
  · rcases List.mem_or_eq_of_mem_set hr' with hr' | rfl
    · exact hall r (by simp [hr'])
    · rfl
  · exact hall r (by simp [hr'])
end
end Go.Sx
namespace Go.Sx
open Go
section
variable {κ β : Type} [DecidableEq κ]
structure Ents (ke : κ → Value) (vr : Value → β → Prop) (es : Array MapEntry) (ck : Nat) (m : List (κ × β)) : Prop where
  len : es.size = m.length
  key : ∀ (i : Nat) (e : MapEntry) (x : κ × β), es[i]? = some e → m[i]? = some x → e.key = ke x.1 ∧ vr e.val x.2
  nd : (m.map Prod.fst).Nodup
  born : (es.toList.map MapEntry.born).Nodup
  lt : ∀ e ∈ es.toList, e.born < ck
variable {ke : κ → Value} {vr : Value → β → Prop} {es : Array MapEntry} {ck : Nat} {m : List (κ × β)}
theorem Ents.empty : Ents ke vr #[] 0 [] := ⟨rfl, by simp, by simp, by simp, by simp⟩
theorem Ents.mono {vr' : Value → β → Prop} (h : Ents ke vr es ck m) (hv : ∀ v x, vr v x → vr' v x) : Ents ke vr' es ck m := ⟨h.len, fun i e x h1 h2 => ⟨(h.key i e x h1 h2).1, hv _ _ (h.key i e x h1 h2).2⟩, h.nd, h.born, h.lt⟩
def mset (m : List (κ × β)) (k : κ) (x : β) : List (κ × β) := if k ∈ m.map Prod.fst then m.map (fun y => if y.1 = k then (k, x) else y) else m ++ [(k, x)]
def mget (m : List (κ × β)) (k : κ) : Option β := (m.find? (fun y => y.1 = k)).map Prod.snd
theorem mget_mem {m : List (κ × β)} {k : κ} {x : β} (nd : (m.map Prod.fst).Nodup) : mget m k = some x ↔ (k, x) ∈ m := by
  induction m with
  | nil => simp [mget]
  | cons y r ih =>
    rw [List.map_cons, List.nodup_cons] at nd
    obtain ⟨a, b⟩ := y
    simp only [mget, List.find?_cons] at ih ⊢
    by_cases e : a = k
    · subst e
      simp only [decide_true, Option.map_some, Option.some.injEq, List.mem_cons, Prod.mk.injEq, true_and]
      constructor
      · intro h; exact .inl h.symm
      · rintro (h | h)
        · exact h.symm
        · exact absurd (List.mem_map.2 ⟨_, h, rfl⟩) nd.1
    · simp only [e, decide_false, List.mem_cons, Prod.mk.injEq, Ne.symm e, false_and, false_or]
      exact ih nd.2
theorem mget_none {m : List (κ × β)} {k : κ} : mget m k = none ↔ k ∉ m.map Prod.fst := by
  simp only [mget, Option.map_eq_none_iff, List.find?_eq_none, decide_eq_true_eq, List.mem_map, not_exists, not_and]
theorem Ents.findNow {kd : TypeDesc} (hk : ∀ a b, Instr.sameNow kd (ke a) (ke b) = some (decide (a = b))) (h : Ents ke vr es ck m) (k : κ) :
    (∃ (i : Nat) (x : β) (e : MapEntry), es[i]? = some e ∧ m[i]? = some (k, x) ∧ vr e.val x ∧ Instr.findNow kd (ke k) es.toList 0 = some (some (i, e.val))) ∨ (k ∉ m.map Prod.fst ∧ Instr.findNow kd (ke k) es.toList 0 = some none) := by
  have key : ∀ (l : List MapEntry) (q : List (κ × β)) (j : Nat), l.length = q.length → (∀ (i : Nat) (e : MapEntry) (x : κ × β), l[i]? = some e → q[i]? = some x → e.key = ke x.1 ∧ vr e.val x.2) →
      (∃ (i : Nat) (x : β) (e : MapEntry), l[i]? = some e ∧ q[i]? = some (k, x) ∧ vr e.val x ∧ Instr.findNow kd (ke k) l j = some (some (j + i, e.val))) ∨ (k ∉ q.map Prod.fst ∧ Instr.findNow kd (ke k) l j = some none) := by
    intro l
    induction l with
    | nil => intro q j hl _; cases q with | nil => exact .inr ⟨by simp, rfl⟩ | cons a b => simp at hl
    | cons e r ih =>
      intro q j hl hkey
      cases q with
      | nil => simp at hl
      | cons y q =>
        obtain ⟨h1, h2⟩ := hkey 0 e y rfl rfl
        simp only [Instr.findNow, h1, hk]
        by_cases e0 : k = y.1
        · subst e0
          exact .inl ⟨0, y.2, e, rfl, rfl, h2, by simp⟩
        · rw [decide_eq_false e0]
          rcases ih q (j + 1) (by simpa using hl) (fun i e x h1 h2 => hkey (i + 1) e x (by simpa using h1) (by simpa using h2)) with ⟨i, x, e', g1, g2, g3, g4⟩ | ⟨g1, g2⟩
          · exact .inl ⟨i + 1, x, e', by simpa using g1, by simpa using g2, g3, by simp only [g4]; rw [show j + 1 + i = j + (i + 1) by omega]⟩
          · exact .inr ⟨by rw [List.map_cons, List.mem_cons]; rintro (h | h); exact e0 h; exact g1 h, by simpa using g2⟩
  have := key es.toList m 0 (by simpa using h.len) (fun i e x h1 h2 => h.key i e x (by simpa using h1) h2)
  rcases this with ⟨i, x, e, g1, g2, g3, g4⟩ | h2
  · exact .inl ⟨i, x, e, by simpa using g1, g2, g3, by simpa using g4⟩
  · exact .inr h2
theorem Ents.findS {P : Program} {kt : TypeId} (hk : ∀ a b, EqV P kt (ke a) (ke b) (decide (a = b))) (h : Ents ke vr es ck m) (k : κ) :
    (∃ (i : Nat) (x : β) (e : MapEntry), es[i]? = some e ∧ m[i]? = some (k, x) ∧ vr e.val x ∧ FindS P kt (ke k) es.toList 0 (some (i, e.val))) ∨ (k ∉ m.map Prod.fst ∧ FindS P kt (ke k) es.toList 0 none) := by
  have key : ∀ (l : List MapEntry) (q : List (κ × β)) (j : Nat), l.length = q.length → (∀ (i : Nat) (e : MapEntry) (x : κ × β), l[i]? = some e → q[i]? = some x → e.key = ke x.1 ∧ vr e.val x.2) →
      (∃ (i : Nat) (x : β) (e : MapEntry), l[i]? = some e ∧ q[i]? = some (k, x) ∧ vr e.val x ∧ FindS P kt (ke k) l j (some (j + i, e.val))) ∨ (k ∉ q.map Prod.fst ∧ FindS P kt (ke k) l j none) := by
    intro l
    induction l with
    | nil => intro q j hl _; cases q with | nil => exact .inr ⟨by simp, rfl⟩ | cons a b => simp at hl
    | cons e r ih =>
      intro q j hl hkey
      cases q with
      | nil => simp at hl
      | cons y q =>
        obtain ⟨h1, h2⟩ := hkey 0 e y rfl rfl
        have hb := hk k y.1
        rw [← h1] at hb
        by_cases e0 : k = y.1
        · refine .inl ⟨0, y.2, e, rfl, by rw [e0]; rfl, h2, ?_⟩
          exact ⟨_, hb, fun _ => by simp, fun h => by simp [e0] at h⟩
        · rcases ih q (j + 1) (by simpa using hl) (fun i e x h1 h2 => hkey (i + 1) e x (by simpa using h1) (by simpa using h2)) with ⟨i, x, e', g1, g2, g3, g4⟩ | ⟨g1, g2⟩
          · refine .inl ⟨i + 1, x, e', by simpa using g1, by simpa using g2, g3, _, hb, fun h => by simp [e0] at h, fun _ => ?_⟩
            rw [show j + (i + 1) = j + 1 + i by omega]; exact g4
          · exact .inr ⟨by rw [List.map_cons, List.mem_cons]; rintro (h | h); exact e0 h; exact g1 h, _, hb, fun h => by simp [e0] at h, fun _ => g2⟩
  have := key es.toList m 0 (by simpa using h.len) (fun i e x h1 h2 => h.key i e x (by simpa using h1) h2)
  rcases this with ⟨i, x, e, g1, g2, g3, g4⟩ | h2
  · exact .inl ⟨i, x, e, by simpa using g1, g2, g3, by simpa using g4⟩
  · exact .inr h2
theorem Ents.put (h : Ents ke vr es ck m) {i : Nat} {k : κ} {y x : β} {val : Value} (hi : m[i]? = some (k, y)) (hv : vr val x) : Ents ke vr (es.modify i fun e => { e with key := ke k, val }) ck (mset m k x) := by
  have hmem : k ∈ m.map Prod.fst := List.mem_map.2 ⟨_, List.mem_of_getElem? hi, rfl⟩
  have hlt := (List.getElem?_eq_some_iff.1 hi).1
  have huniq : ∀ j z, m[j]? = some z → z.1 = k → j = i := fun j z hj hz => by
    have hj' := (List.getElem?_eq_some_iff.1 hj).1
    have e1 : (m.map Prod.fst)[j]? = some k := by rw [List.getElem?_map, hj]; simp [hz]
    have e2 : (m.map Prod.fst)[i]? = some k := by rw [List.getElem?_map, hi]; rfl
    exact (List.getElem?_inj (by simpa using hj') h.nd).1 (e1.trans e2.symm)
  have hb : ((es.modify i fun e => { e with key := ke k, val }).toList.map MapEntry.born) = es.toList.map MapEntry.born := by
    apply List.ext_getElem?; intro j
    simp only [List.getElem?_map, Array.getElem?_toList, Array.getElem?_modify]
    split
    · cases es[j]? <;> rfl
    · rfl
  refine ⟨by simp [mset, hmem, h.len], fun j e z he hz => ?_, ?_, by rw [hb]; exact h.born, fun e he => ?_⟩
  · simp only [mset, hmem, if_true, List.getElem?_map] at hz
    rw [Array.getElem?_modify] at he
    cases hm : m[j]? with
    | none => rw [hm] at hz; simp at hz
    | some z0 =>
      rw [hm] at hz
      simp only [Option.map_some, Option.some.injEq] at hz
      cases hes : es[j]? with
      | none => rw [hes] at he; split at he <;> simp at he
      | some e0 =>
        rw [hes] at he
        by_cases ek : z0.1 = k
        · have := huniq j z0 hm ek
          subst this
          rw [if_pos ek] at hz; subst hz
          simp only [if_true, Option.map_some, Option.some.injEq] at he
          subst he; exact ⟨rfl, hv⟩
        · rw [if_neg ek] at hz; subst hz
          rw [if_neg (fun e => by subst e; rw [hi] at hm; cases hm; exact ek rfl)] at he
          simp only [Option.some.injEq] at he
          subst he; exact h.key j _ _ hes hm
  · have : (mset m k x).map Prod.fst = m.map Prod.fst := by
      simp only [mset, hmem, if_true, List.map_map]
      apply List.map_congr_left
      intro z _
      simp only [Function.comp]
      split
      · rename_i hz; exact hz.symm
      · rfl
    rw [this]; exact h.nd
  · have : e.born ∈ (es.modify i fun e => { e with key := ke k, val }).toList.map MapEntry.born := List.mem_map_of_mem he
    rw [hb] at this
    obtain ⟨e0, h1, h2⟩ := List.mem_map.1 this
    rw [← h2]; exact h.lt e0 h1
theorem Ents.more (h : Ents ke vr es ck m) {k : κ} {x : β} {val : Value} (hk : k ∉ m.map Prod.fst) (hv : vr val x) : Ents ke vr (es.push { key := ke k, val, born := ck }) (ck + 1) (mset m k x) := by
  have hs : mset m k x = m ++ [(k, x)] := by unfold mset; rw [if_neg hk]
  rw [hs]
  refine ⟨by simp [h.len], fun j e z he hz => ?_, ?_, ?_, fun e he => ?_⟩
  · by_cases hj : j < m.length
    · rw [List.getElem?_append_left hj] at hz
      rw [Array.getElem?_push, if_neg (by rw [h.len]; omega)] at he
      exact h.key j _ _ he hz
    · have hj2 := (List.getElem?_eq_some_iff.1 hz).1
      simp only [List.length_append, List.length_cons, List.length_nil] at hj2
      have : j = m.length := by omega
      subst this
      rw [List.getElem?_append_right (Nat.le_refl _)] at hz
      simp at hz; subst hz
      rw [Array.getElem?_push, if_pos h.len.symm] at he
      simp at he; subst he
      exact ⟨rfl, hv⟩
  · rw [List.map_append, List.nodup_append]
    refine ⟨h.nd, by simp, fun a ha b hb => ?_⟩
    simp at hb; subst hb; rintro rfl; exact hk ha
  · rw [Array.toList_push, List.map_append, List.nodup_append]
    refine ⟨h.born, by simp, fun a ha b hb => ?_⟩
    simp at hb; subst hb
    obtain ⟨e, he, rfl⟩ := List.mem_map.1 ha
    have := h.lt e he; omega
  · rw [Array.toList_push, List.mem_append] at he
    rcases he with he | he
    · have := h.lt e he; omega
    · simp at he; subst he; simp
variable {H : Hp} {b : Nat}
theorem Ents.hit {kd : TypeDesc} {zero : Value} {ok : Bool} {k : κ} {x : β} {K : Value → Prop} (hk : ∀ a b, Instr.sameNow kd (ke a) (ke b) = some (decide (a = b))) (h : Ents ke vr es ck m) (hm : (b, Obj.map es ck) ∈ H) (hx : mget m k = some x)
    (h1 : ∀ v, vr v x → K (cond ok (.tuple #[v, .bool true]) v)) : Look kd zero ok H (.map (some b)) (ke k) K := by
  rcases h.findNow hk k with ⟨i, y, e, g1, g2, g3, g4⟩ | ⟨g1, g2⟩
  · have : mget m k = some y := (mget_mem h.nd).2 (List.mem_of_getElem? g2)
    rw [hx] at this; cases this
    exact ⟨es, _, .inr ⟨b, ck, rfl, hm⟩, g4, h1 _ g3⟩
  · rw [mget_none.2 g1] at hx; cases hx
theorem Ents.miss {kd : TypeDesc} {zero : Value} {ok : Bool} {k : κ} {K : Value → Prop} (hk : ∀ a b, Instr.sameNow kd (ke a) (ke b) = some (decide (a = b))) (h : Ents ke vr es ck m) (hm : (b, Obj.map es ck) ∈ H) (hx : mget m k = none)
    (h1 : K (cond ok (.tuple #[zero, .bool false]) zero)) : Look kd zero ok H (.map (some b)) (ke k) K := by
  rcases h.findNow hk k with ⟨i, y, e, g1, g2, g3, g4⟩ | ⟨g1, g2⟩
  · exact absurd (List.mem_map.2 ⟨_, List.mem_of_getElem? g2, rfl⟩) (mget_none.1 hx)
  · exact ⟨es, _, .inr ⟨b, ck, rfl, hm⟩, g2, h1⟩
theorem Ents.upd {kd : TypeDesc} {k : κ} {x : β} {val : Value} {K : Hp → Prop} (hk : ∀ a b, Instr.sameNow kd (ke a) (ke b) = some (decide (a = b))) (hb : ∀ a, Instr.sameBits 10000 (ke a) (ke a) = true) (h : Ents ke vr es ck m) (hv : vr val x)
    (h1 : ∀ es' ck', Ents ke vr es' ck' (mset m k x) → ∃ H', Upd b (.map es ck) (.map es' ck') H H' ∧ K H') : MapUpd kd H (.map (some b)) (ke k) val K := by
  rcases h.findNow hk k with ⟨i, y, e, g1, g2, g3, g4⟩ | ⟨g1, g2⟩
  · refine ⟨b, es, ck, _, rfl, g4, fun e' he' => ?_, by rw [h.len]; exact (List.getElem?_eq_some_iff.1 g2).1, h1 _ _ (h.put g2 hv)⟩
    rw [(h.key i e' _ he' g2).1]; exact hb k
  · exact ⟨b, es, ck, _, rfl, g2, h1 _ _ (h.more g1 hv)⟩
theorem Ents.hitS {P : Program} {kt : TypeId} {zero : Value} {ok : Bool} {k : κ} {x : β} {K : Value → Prop} (hk : ∀ a b, EqV P kt (ke a) (ke b) (decide (a = b))) (hc : ∀ a, ChkV P kt (ke a)) (h : Ents ke vr es ck m) (hm : (b, Obj.map es ck) ∈ H) (hx : mget m k = some x)
    (h1 : ∀ v, vr v x → K (cond ok (.tuple #[v, .bool true]) v)) : LookS P kt zero ok H (.map (some b)) (ke k) K := by
  rcases h.findS hk k with ⟨i, y, e, g1, g2, g3, g4⟩ | ⟨g1, g2⟩
  · have : mget m k = some y := (mget_mem h.nd).2 (List.mem_of_getElem? g2)
    rw [hx] at this; cases this
    exact ⟨es, _, .inr ⟨b, ck, rfl, hm⟩, hc k, g4, h1 _ g3⟩
  · rw [mget_none.2 g1] at hx; cases hx
theorem Ents.missS {P : Program} {kt : TypeId} {zero : Value} {ok : Bool} {k : κ} {K : Value → Prop} (hk : ∀ a b, EqV P kt (ke a) (ke b) (decide (a = b))) (hc : ∀ a, ChkV P kt (ke a)) (h : Ents ke vr es ck m) (hm : (b, Obj.map es ck) ∈ H) (hx : mget m k = none)
    (h1 : K (cond ok (.tuple #[zero, .bool false]) zero)) : LookS P kt zero ok H (.map (some b)) (ke k) K := by
  rcases h.findS hk k with ⟨i, y, e, g1, g2, g3, g4⟩ | ⟨g1, g2⟩
  · exact absurd (List.mem_map.2 ⟨_, List.mem_of_getElem? g2, rfl⟩) (mget_none.1 hx)
  · exact ⟨es, _, .inr ⟨b, ck, rfl, hm⟩, hc k, g2, h1⟩
theorem Ents.updS {P : Program} {kt : TypeId} {k : κ} {x : β} {val : Value} {K : Hp → Prop} (hk : ∀ a b, EqV P kt (ke a) (ke b) (decide (a = b))) (hc : ∀ a, ChkV P kt (ke a)) (hb : ∀ a, Instr.sameBits 10000 (ke a) (ke a) = true) (h : Ents ke vr es ck m) (hv : vr val x)
    (h1 : ∀ es' ck', Ents ke vr es' ck' (mset m k x) → ∃ H', Upd b (.map es ck) (.map es' ck') H H' ∧ K H') : MapUpdS P kt H (.map (some b)) (ke k) val K := by
  rcases h.findS hk k with ⟨i, y, e, g1, g2, g3, g4⟩ | ⟨g1, g2⟩
  · refine ⟨b, es, ck, _, rfl, hc k, g4, fun e' he' => ?_, by rw [h.len]; exact (List.getElem?_eq_some_iff.1 g2).1, h1 _ _ (h.put g2 hv)⟩
    rw [(h.key i e' _ he' g2).1]; exact hb k
  · exact ⟨b, es, ck, _, rfl, hc k, g2, h1 _ _ (h.more g1 hv)⟩
theorem Ents.len_ok (h : Ents ke vr es ck m) (hm : (b, Obj.map es ck) ∈ H) {K : Value → Prop} (hk : K (.int .i64 m.length)) : LenM H (.map (some b)) K := ⟨_, rfl, .inr ⟨b, es, ck, rfl, hm, by rw [h.len]; exact hk⟩⟩
def unseen (es : Array MapEntry) (m : List (κ × β)) (seen : Array Nat) : List (κ × β) := ((es.toList.zip m).filter fun p => !seen.contains p.1.born).map Prod.snd
omit [DecidableEq κ] in
theorem unseen_all (h : Ents ke vr es ck m) : unseen es m #[] = m := by
  unfold unseen
  rw [List.filter_eq_self.2 (by simp), ← List.unzip_snd, List.unzip_zip]
  simpa using h.len
omit [DecidableEq κ] in
theorem unseen_step (h : Ents ke vr es ck m) {seen : Array Nat} {i : Nat} {e : MapEntry} {x : κ × β} (he : es[i]? = some e) (hx : m[i]? = some x) (hs : e.born ∉ seen) : (unseen es m seen).Perm (x :: unseen es m (seen.push e.born)) := by
  unfold unseen
  have hz : (es.toList.zip m)[i]? = some (e, x) := by rw [List.getElem?_zip_eq_some]; exact ⟨by simpa using he, hx⟩
  obtain ⟨A, C, hAC, hlen⟩ : ∃ A C, es.toList.zip m = A ++ (e, x) :: C ∧ A.length = i := by
    obtain ⟨hlt, hg⟩ := List.getElem?_eq_some_iff.1 hz
    exact ⟨(es.toList.zip m).take i, (es.toList.zip m).drop (i + 1), by rw [← hg, List.getElem_cons_drop, List.take_append_drop], by simp only [List.length_take]; omega⟩
  have hfst : (es.toList.zip m).map (fun p => p.1.born) = es.toList.map MapEntry.born := by
    have : (es.toList.zip m).map Prod.fst = es.toList := by rw [← List.unzip_fst, List.unzip_zip]; simpa using h.len
    rw [show (fun p : MapEntry × (κ × β) => p.1.born) = MapEntry.born ∘ Prod.fst from rfl, ← List.map_map, this]
  have hnd := h.born
  rw [← hfst, hAC, List.map_append, List.map_cons] at hnd
  have hnd' := List.perm_middle.nodup_iff.1 hnd
  rw [List.nodup_cons, ← List.map_append] at hnd'
  have hne : ∀ p ∈ A ++ C, p.1.born ≠ e.born := fun p hp e0 => hnd'.1 (List.mem_map.2 ⟨p, hp, e0⟩)
  have hcong : ∀ L : List (MapEntry × (κ × β)), (∀ p ∈ L, p.1.born ≠ e.born) → (L.filter fun p => !(seen.push e.born).contains p.1.born) = L.filter fun p => !seen.contains p.1.born := fun L hL => by
    apply List.filter_congr
    intro p hp
    have := hL p hp
    simp [Array.mem_push, this]
  rw [hAC, List.filter_append, List.filter_append, List.filter_cons, List.filter_cons]
  rw [if_pos (by simpa using hs), if_neg (by simp), hcong A fun p hp => hne p (List.mem_append_left _ hp), hcong C fun p hp => hne p (List.mem_append_right _ hp)]
  rw [List.map_append, List.map_append, List.map_cons]
  exact List.perm_middle
omit [DecidableEq κ] in
theorem Ents.next {bi bm : Nat} {seen : Array Nat} {K : Value → Hp → Prop} (h : Ents ke vr es ck m) (hm : (bm, Obj.map es ck) ∈ H) (hi : (bi, Obj.mapIter (some bm) ck seen ck) ∈ H)
    (h1 : ∀ e x seen', e ∈ es.toList → e.key = ke x.1 → vr e.val x.2 → (unseen es m seen).Perm (x :: unseen es m seen') → seen'.back? = some e.born → es.find? (·.born == e.born) = some e →
      ∃ H', Upd bi (.mapIter (some bm) ck seen ck) (.mapIter (some bm) ck seen' ck) H H' ∧ K (.tuple #[.bool true, e.key, e.val]) H')
    (h2 : unseen es m seen = [] → K (.tuple #[.bool false]) H) : Nxt H (.pointer (some ⟨bi, 0, none⟩)) K := by
  refine ⟨bi, some bm, ck, seen, ck, rfl, hi, es, ck, hm, fun e he => ⟨h.lt e he, h.lt e he⟩, fun e he hs => ?_, fun hall => h2 ?_⟩
  · obtain ⟨i, hi', rfl⟩ := List.mem_iff_getElem.1 he
    have hi2 : i < m.length := by rw [← h.len]; simpa using hi'
    have g1 : es[i]? = some es.toList[i] := by rw [← Array.getElem?_toList]; exact List.getElem?_eq_getElem hi'
    have g2 : m[i]? = some m[i] := List.getElem?_eq_getElem hi2
    obtain ⟨k1, k2⟩ := h.key i _ _ g1 g2
    refine h1 _ m[i] _ he k1 k2 (unseen_step h g1 g2 hs) (by simp) ?_
    rw [← Array.find?_toList]
    have hnd := h.born
    rw [List.find?_eq_some_iff_append]
    refine ⟨by simp, es.toList.take i, es.toList.drop (i + 1), by rw [List.getElem_cons_drop, List.take_append_drop], fun a ha => ?_⟩
    simp only [Bool.not_eq_true', beq_eq_false_iff_ne, ne_eq]
    intro e0
    obtain ⟨j, hj, rfl⟩ := List.mem_iff_getElem.1 ha
    simp only [List.length_take] at hj
    rw [List.getElem_take] at e0
    have := (List.getElem_inj (by simpa using h.born) (xs := es.toList.map MapEntry.born) (i := j) (j := i) (h₀ := by rw [List.length_map]; omega) (h₁ := by rw [List.length_map]; exact hi')).1 (by simpa using e0)
    omega
  · unfold unseen
    rw [List.filter_eq_nil_iff.2, List.map_nil]
    intro p hp
    have := hall p.1 (List.of_mem_zip hp).1
    simpa using this
end
end Go.Sx
namespace Tab
def bytesW (w : Nat) : List UInt8 := (List.range 8).map fun i => UInt8.ofNat (w >>> (8 * i))
def keyB (ws : List Nat) : List UInt8 := ws.flatMap bytesW
theorem bytesW_length (w : Nat) : (bytesW w).length = 8 := by simp [bytesW]
theorem keyB_length : ∀ l : List Nat, (keyB l).length = 8 * l.length
  | [] => rfl
  | x :: l => by rw [keyB, List.flatMap_cons, List.length_append, bytesW_length]; have := keyB_length l; unfold keyB at this; rw [this, List.length_cons]; omega
theorem bytesW_inj {a b : Nat} (ha : a < 18446744073709551616) (hb : b < 18446744073709551616) (h : bytesW a = bytesW b) : a = b := by
  apply Nat.eq_of_testBit_eq
  intro j
  by_cases hj : j < 64
  · have hi : j / 8 < 8 := by omega
    have h1 := congrArg (fun l => l[j / 8]?) h
    simp only [bytesW, List.getElem?_map, List.getElem?_range hi, Option.map_some, Option.some.injEq] at h1
    have h2 := congrArg UInt8.toNat h1
    simp only [UInt8.toNat_ofNat'] at h2
    have h3 := congrArg (fun x => x.testBit (j % 8)) h2
    simp only [Nat.testBit_mod_two_pow, Nat.testBit_shiftRight] at h3
    rw [show 8 * (j / 8) + j % 8 = j by omega] at h3
    have : decide (j % 8 < 8) = true := by simp; omega
    simpa [this] using h3
  · rw [Nat.testBit_lt_two_pow (Nat.lt_of_lt_of_le ha (Nat.pow_le_pow_right (n := 2) (by decide) (by omega : 64 ≤ j))), Nat.testBit_lt_two_pow (Nat.lt_of_lt_of_le hb (Nat.pow_le_pow_right (n := 2) (by decide) (by omega : 64 ≤ j)))]
theorem keyB_inj : ∀ {a b : List Nat}, (∀ w ∈ a, w < 18446744073709551616) → (∀ w ∈ b, w < 18446744073709551616) → keyB a = keyB b → a = b
  | [], [], _, _, _ => rfl
  | [], y :: b, _, _, h => by have := congrArg List.length h; simp [keyB, bytesW_length] at this; omega
  | x :: a, [], _, _, h => by have := congrArg List.length h; simp [keyB, bytesW_length] at this
  | x :: a, y :: b, ha, hb, h => by
    simp only [keyB, List.flatMap_cons] at h
    obtain ⟨h1, h2⟩ := List.append_inj h (by rw [bytesW_length, bytesW_length])
    rw [bytesW_inj (ha x (by simp)) (hb y (by simp)) h1, keyB_inj (fun w hw => ha w (by simp [hw])) (fun w hw => hb w (by simp [hw])) h2]
theorem Frm.key_inj {n : Nat} {a b : List Nat} (ha : Frm n a) (hb : Frm n b) (h : keyB a = keyB b) : a = b := keyB_inj (fun w hw => ha.lt hw) (fun w hw => hb.lt hw) h
abbrev Fs := List (List Nat)
def add (l : Fs) (t : List Nat) : Fs := if t ∈ l then l else l ++ [t]
def unlike (L : Fs) : Fs := L.foldl add []
def given (n : Nat) (l : Fs) (v : Nat) : Fs := l.foldl (fun acc t => add (add acc (cof n t v false)) (cof n t v true)) []
def nodes (n : Nat) (l : Fs) (v : Nat) : Fs := l.filter fun t => dep n t v
def st (n : Nat) (L : Fs) (A : Nat) : Nat → Fs
  | 0 => unlike L
  | k + 1 => if A.testBit k then given n (st n L A k) k else st n L A k
def lvl (n : Nat) (L : Fs) (A v : Nat) : Nat := (nodes n (st n L A n) v).length
theorem mem_add {l : Fs} {t x : List Nat} : x ∈ add l t ↔ x ∈ l ∨ x = t := by
  unfold add
  split
  · constructor
    · exact .inl
    · rintro (h | rfl) <;> assumption
  · simp
theorem add_nodup {l : Fs} {t : List Nat} (h : l.Nodup) : (add l t).Nodup := by
  unfold add
  split
  · exact h
  · rename_i hn
    rw [List.nodup_append]
    exact ⟨h, by simp, fun a ha b hb => by simp at hb; subst hb; rintro rfl; exact hn ha⟩
theorem foldl_add_mem {α : Type} (f : α → Fs → Fs) (g : α → List Nat → Prop) (hf : ∀ a l x, x ∈ f a l ↔ x ∈ l ∨ g a x) : ∀ (L : List α) (acc : Fs) (x : List Nat), x ∈ L.foldl (fun acc a => f a acc) acc ↔ x ∈ acc ∨ ∃ a ∈ L, g a x
  | [], acc, x => by simp
  | a :: L, acc, x => by
    rw [List.foldl_cons, foldl_add_mem f g hf L, hf]
    simp only [List.mem_cons, exists_eq_or_imp, or_assoc]
theorem foldl_add_nodup {α : Type} (f : α → Fs → Fs) (hf : ∀ a l, l.Nodup → (f a l).Nodup) : ∀ (L : List α) (acc : Fs), acc.Nodup → (L.foldl (fun acc a => f a acc) acc).Nodup
  | [], acc, h => h
  | a :: L, acc, h => foldl_add_nodup f hf L _ (hf a acc h)
theorem mem_unlike {L : Fs} {x : List Nat} : x ∈ unlike L ↔ x ∈ L := by
  unfold unlike
  have := foldl_add_mem (fun a l => add l a) (fun a x => x = a) (fun a l x => mem_add) L [] x
  rw [this]; simp
theorem unlike_nodup (L : Fs) : (unlike L).Nodup := foldl_add_nodup (fun a l => add l a) (fun a l h => add_nodup h) L [] (by simp)
theorem mem_given {n v : Nat} {l : Fs} {x : List Nat} : x ∈ given n l v ↔ ∃ t ∈ l, ∃ b, x = cof n t v b := by
  unfold given
  have := foldl_add_mem (fun t acc => add (add acc (cof n t v false)) (cof n t v true)) (fun t x => ∃ b, x = cof n t v b) (fun t l x => by
    rw [mem_add, mem_add]
    constructor
    · rintro ((h | h) | h)
      · exact .inl h
      · exact .inr ⟨false, h⟩
      · exact .inr ⟨true, h⟩
    · rintro (h | ⟨b, h⟩)
      · exact .inl (.inl h)
      · cases b
        · exact .inl (.inr h)
        · exact .inr h) l [] x
  rw [this]; simp
theorem given_nodup (n : Nat) (l : Fs) (v : Nat) : (given n l v).Nodup := foldl_add_nodup (fun t acc => add (add acc (cof n t v false)) (cof n t v true)) (fun a l h => add_nodup (add_nodup h)) l [] (by simp)
theorem st_nodup (n : Nat) (L : Fs) (A : Nat) : ∀ k, (st n L A k).Nodup
  | 0 => unlike_nodup L
  | k + 1 => by
    rw [st]; split
    · exact given_nodup _ _ _
    · exact st_nodup n L A k
theorem perm_of_same {a b : Fs} (ha : a.Nodup) (hb : b.Nodup) (h : ∀ x, x ∈ a ↔ x ∈ b) : a.Perm b := (List.perm_ext_iff_of_nodup ha hb).2 h
theorem nodes_perm {n v : Nat} {a b : Fs} (h : a.Perm b) : (nodes n a v).length = (nodes n b v).length := (h.filter _).length_eq
theorem st_frm {n : Nat} {L : Fs} {A : Nat} (hL : ∀ t ∈ L, Frm n t) (hn : n ≤ 16) : ∀ k, ∀ t ∈ st n L A k, Frm n t
  | 0, t, h => hL t (mem_unlike.1 h)
  | k + 1, t, h => by
    rw [st] at h
    split at h
    · obtain ⟨u, _, b, rfl⟩ := mem_given.1 h; exact frm_cof hn
    · exact st_frm hL hn k t h
theorem add_length (l : Fs) (t : List Nat) : (add l t).length ≤ l.length + 1 := by unfold add; split <;> simp
theorem foldl_add_length {α : Type} (f : α → Fs → Fs) (c : Nat) (hf : ∀ a l, (f a l).length ≤ l.length + c) : ∀ (L : List α) (acc : Fs), (L.foldl (fun acc a => f a acc) acc).length ≤ acc.length + c * L.length
  | [], acc => by simp
  | a :: L, acc => by
    have h1 := foldl_add_length f c hf L (f a acc)
    have h2 := hf a acc
    rw [List.foldl_cons, List.length_cons, Nat.mul_succ]; omega
theorem st_length (n : Nat) (L : Fs) (A : Nat) : ∀ k, (st n L A k).length ≤ 2 ^ k * L.length
  | 0 => by have := foldl_add_length (fun a l => add l a) 1 (fun a l => add_length l a) L []; simpa [st, unlike] using this
  | k + 1 => by
    have ih := st_length n L A k
    rw [st, Nat.pow_succ]
    split
    · have h := foldl_add_length (fun t acc => add (add acc (cof n t k false)) (cof n t k true)) 2 (fun a l => by have h1 := add_length (add l (cof n a k false)) (cof n a k true); have h2 := add_length l (cof n a k false); omega) (st n L A k) []
      have h' : (given n (st n L A k) k).length ≤ 2 * (st n L A k).length := by simpa [given] using h
      have : 2 * (st n L A k).length ≤ 2 * (2 ^ k * L.length) := Nat.mul_le_mul_left _ ih
      rw [Nat.mul_comm (2 ^ k) 2, Nat.mul_assoc]; omega
    · have : 2 ^ k * L.length ≤ 2 ^ k * 2 * L.length := Nat.mul_le_mul_right _ (by omega)
      omega
def suppP (n : Nat) (ws : List Nat) : Nat → Nat
  | 0 => 0
  | v + 1 => if dep n ws v then suppP n ws v ||| 2 ^ v else suppP n ws v
def supp (n : Nat) (ws : List Nat) : Nat := suppP n ws n
theorem testBit_suppP (n : Nat) (ws : List Nat) (u : Nat) : ∀ k, (suppP n ws k).testBit u = (decide (u < k) && dep n ws u)
  | 0 => by simp [suppP]
  | v + 1 => by
    rw [suppP]
    by_cases e : u = v
    · subst e
      split
      · rename_i h; rw [Nat.testBit_or, Nat.testBit_two_pow_self]; simp [h]
      · rename_i h; rw [testBit_suppP n ws u u]; simp [h]
    · have h1 : decide (u < v + 1) = decide (u < v) := by simp; omega
      rw [h1]
      split
      · rw [Nat.testBit_or, Nat.testBit_two_pow, testBit_suppP n ws u v]; simp [Ne.symm e]
      · exact testBit_suppP n ws u v
theorem suppP_lt (n : Nat) (ws : List Nat) : ∀ k, suppP n ws k < 2 ^ k
  | 0 => by simp [suppP]
  | v + 1 => by
    have h1 := suppP_lt n ws v
    have h2 : 2 ^ v < 2 ^ (v + 1) := Nat.pow_lt_pow_right (by decide) (by omega)
    rw [suppP]; split
    · exact Nat.or_lt_two_pow (by omega) h2
    · omega
theorem bit_one (A u : Nat) : (A >>> u &&& 1 = 1) ↔ A.testBit u = true := by
  rw [and_one_eq, Nat.testBit_shiftRight, Nat.add_zero]; cases A.testBit u <;> simp
theorem bit_mod (A u : Nat) : ((A >>> u) % 2 = 1) ↔ A.testBit u = true := by
  rw [← bit_one, Nat.and_one_is_mod]
def wordP (bs : List Bool) (i : Nat) : Nat → Nat
  | 0 => 0
  | j + 1 => if bs.getD (64 * i + j) false then wordP bs i j ||| 2 ^ j else wordP bs i j
theorem testBit_wordP (bs : List Bool) (i k : Nat) : ∀ J, (wordP bs i J).testBit k = (decide (k < J) && bs.getD (64 * i + k) false)
  | 0 => by simp [wordP]
  | j + 1 => by
    rw [wordP]
    by_cases e : k = j
    · subst e
      split
      · rename_i h; rw [Nat.testBit_or, Nat.testBit_two_pow_self, h]; simp
      · rename_i h; rw [testBit_wordP bs i k k]; simp at h ⊢; exact h
    · have h1 : decide (k < j + 1) = decide (k < j) := by simp; omega
      rw [h1]
      split
      · rw [Nat.testBit_or, Nat.testBit_two_pow, testBit_wordP bs i k j]; simp [Ne.symm e]
      · exact testBit_wordP bs i k j
theorem wordP_lt (bs : List Bool) (i : Nat) : ∀ J, wordP bs i J < 2 ^ J
  | 0 => by simp [wordP]
  | j + 1 => by
    have h1 := wordP_lt bs i j
    have h2 : 2 ^ j < 2 ^ (j + 1) := Nat.pow_lt_pow_right (by decide) (by omega)
    rw [wordP]; split
    · exact Nat.or_lt_two_pow (by omega) h2
    · omega
theorem wordP_add {bs : List Bool} {i j : Nat} (h : bs.getD (64 * i + j) false = true) : wordP bs i j + 2 ^ j = wordP bs i (j + 1) := by
  rw [wordP, if_pos h]
  have := Nat.two_pow_add_eq_or_of_lt (wordP_lt bs i j) 1
  rw [Nat.mul_one] at this
  rw [Nat.or_comm, ← this, Nat.add_comm]
def fillW (n : Nat) (bs : List Bool) : List Nat := (List.range (wN n)).map fun i => wordP bs i 64
theorem mask_fill (v : Nat) : wordP ((List.range 64).map fun x => x.testBit v) 0 64 = mask v := by
  apply Nat.eq_of_testBit_eq; intro k
  rw [testBit_wordP, testBit_mask]
  by_cases hk : k < 64
  · simp [hk]
  · simp [hk]
theorem halfW_full {n v i : Nat} {ws : List Nat} {b : Bool} (hf : Frm n ws) (hv : v < n) (hi : i < wN n) : halfW ws v b i &&& fullN n = halfW ws v b i := by
  have hwi : ∀ k, ws.getD k 0 < 2 ^ 64 := fun k => by
    rw [List.getD_eq_getElem?_getD]
    rcases Nat.lt_or_ge k ws.length with h | h
    · rw [List.getElem?_eq_getElem h]; exact hf.lt (List.getElem_mem h)
    · rw [List.getElem?_eq_none h]; decide
  have hlt : halfW ws v b i < 2 ^ 64 := by
    unfold halfW
    split
    · exact hwi _
    · split
      · exact Nat.or_lt_two_pow (Nat.lt_of_le_of_lt Nat.and_le_left (hwi i)) (Nat.lt_of_le_of_lt (Nat.shiftRight_le _ _) (Nat.lt_of_le_of_lt Nat.and_le_left (hwi i)))
      · exact Nat.or_lt_two_pow (Nat.lt_of_le_of_lt (Go.Sx.andn_le _ _) (hwi i)) (Nat.mod_lt _ (by decide))
  by_cases h6 : 6 ≤ n
  · exact and_full (by unfold fullN; rw [if_pos h6]; have : (2:Nat) ^ 64 = 18446744073709551616 := rfl; omega)
  · have hv6 : ¬ 6 ≤ v := by omega
    apply Nat.eq_of_testBit_eq; intro j
    rw [Nat.testBit_and, testBit_full, if_neg h6]
    by_cases hj : j < 2 ^ n
    · simp [hj]
    · have hz : (halfW ws v b i).testBit j = false := by
        have hw0 : ws.getD i 0 ≤ fullN n := by
          rw [List.getD_eq_getElem?_getD, List.getElem?_eq_getElem (by rw [hf.len]; exact hi)]; exact hf.full _ (List.getElem_mem _)
        have hbit : ∀ k, 2 ^ n ≤ k → (ws.getD i 0).testBit k = false := fun k hk => by
          have := congrArg (fun x => x.testBit k) (and_full hw0)
          simp only [Nat.testBit_and, testBit_full, if_neg h6] at this
          rw [← this]; simp; omega
        unfold halfW
        rw [if_neg hv6]
        cases b
        · simp only [Bool.false_eq_true, if_false]
          rw [show (18446744073709551616 : Nat) = 2 ^ 64 by rfl, Nat.testBit_or, Nat.testBit_mod_two_pow, Nat.testBit_shiftLeft, Go.Sx.testBit_andn, Go.Sx.testBit_andn, hbit j (by omega), testBit_mask, testBit_mask]
          by_cases hle : 2 ^ v ≤ j
          · by_cases h64 : j < 64
            · obtain ⟨s1, s2⟩ := small6 ⟨v, by omega⟩ ⟨j, h64⟩
              simp only at s1 s2
              cases hb : j.testBit v
              · have := (s2 hb).2.2.2.2 hle
                have h3 : j - 2 ^ v < 64 := Nat.lt_of_le_of_lt (Nat.sub_le _ _) h64
                simp [this, h3]
              · have h5 := s1 hb
                have : ¬ (j - 2 ^ v < 2 ^ n) := fun hlt => by
                  have h6' := setb_lt (b := true) hlt hv
                  have h7 := (small6 ⟨v, by omega⟩ ⟨j - 2 ^ v, Nat.lt_of_le_of_lt (Nat.sub_le _ _) h64⟩).2 h5.2.2.2.2
                  simp only at h7
                  rw [h7.1] at h6'; omega
                rw [hbit (j - 2 ^ v) (by omega)]; simp
            · simp [h64]
          · simp [hle]
        · simp only [if_true]
          rw [Nat.testBit_or, Nat.testBit_and, Nat.testBit_shiftRight, Nat.testBit_and, hbit j (Nat.le_of_not_lt hj), hbit (2 ^ v + j) (Nat.le_trans (Nat.le_of_not_lt hj) (Nat.le_add_left _ _))]; simp
      rw [hz]; rfl
theorem setb_div (i k : Nat) : i - i / 2 ^ k % 2 * 2 ^ k = setb i k false ∧ (i - i / 2 ^ k % 2 * 2 ^ k) + 2 ^ k = setb i k true := by
  have hp := Nat.two_pow_pos k
  have hdm := Nat.div_add_mod i (2 ^ k)
  have hm := Nat.mod_lt i hp
  generalize hq : i / 2 ^ k = q at *
  generalize hr : i % 2 ^ k = r at *
  have hle : q % 2 * 2 ^ k ≤ 2 ^ k * q := by rw [Nat.mul_comm]; exact Nat.mul_le_mul_left _ (Nat.mod_le _ _)
  have e1 : i - q % 2 * 2 ^ k = 2 ^ k * (2 * (q / 2)) + r := by
    have : 2 ^ k * q = 2 ^ k * (2 * (q / 2)) + q % 2 * 2 ^ k := by
      rw [Nat.mul_comm (q % 2), ← Nat.mul_add]; congr 1; omega
    omega
  have tb : ∀ j, i.testBit j = if j < k then r.testBit j else q.testBit (j - k) := fun j => by rw [← hdm]; exact Nat.testBit_two_pow_mul_add q hm j
  have e2 : (2 ^ k * (2 * (q / 2)) + r) + 2 ^ k = 2 ^ k * (2 * (q / 2) + 1) + r := by rw [Nat.mul_succ]; omega
  rw [e1]
  refine ⟨?_, ?_⟩
  · apply Nat.eq_of_testBit_eq; intro j
    rw [Nat.testBit_two_pow_mul_add _ hm, testBit_setb, tb]
    by_cases hj : j < k
    · rw [if_pos hj, if_neg (by omega), if_pos hj]
    · rw [if_neg hj, if_neg hj]
      by_cases e : j = k
      · subst e; simp
      · rw [if_neg e]
        obtain ⟨d, hd⟩ : ∃ d, j - k = d + 1 := ⟨j - k - 1, by omega⟩
        rw [hd, Nat.testBit_succ, Nat.testBit_succ]; congr 1; omega
  · rw [e2]
    apply Nat.eq_of_testBit_eq; intro j
    rw [Nat.testBit_two_pow_mul_add _ hm, testBit_setb, tb]
    by_cases hj : j < k
    · rw [if_pos hj, if_neg (by omega), if_pos hj]
    · rw [if_neg hj, if_neg hj]
      by_cases e : j = k
      · subst e; simp
      · rw [if_neg e]
        obtain ⟨d, hd⟩ : ∃ d, j - k = d + 1 := ⟨j - k - 1, by omega⟩
        rw [hd, Nat.testBit_succ, Nat.testBit_succ]; congr 1; omega
end Tab
namespace Go.Sx
open Go
section
variable {P : Program} {H : Hp}
theorem BuildSl.int {t e : Nat} {kd : IntKind} {x : Int} {K : Value → Hp → Prop} (h1 : P.underlying t = some (.slice e)) (h2 : sizeD P e = some 1) (h3 : zeroD P e = some (.int kd 0))
    (h : ∀ b, K (.slice (some ⟨b, 0, none⟩) 1 1) ((b, .cells (icells kd [x]) e (0, 0)) :: H)) : BuildSl P t 1 [(0, .int kd x)] H K := by
  refine ⟨icells kd [x], e, 1, _, h1, h2, h3, by decide, ?_, fun b _ => h b⟩
  have e1 : Array.range 1 = #[0] := rfl
  simp [Instr.fill, Value.cells, icells, e1]
theorem BuildSl.none {t e k : Nat} {z : Value} {K : Value → Hp → Prop} (h1 : P.underlying t = some (.slice e)) (h2 : sizeD P e = some k) (h3 : zeroD P e = some z)
    (h : ∀ b, K (.slice (some ⟨b, 0, none⟩) 0 0) ((b, .cells #[] e (0, 0)) :: H)) : BuildSl P t 0 [] H K := by
  refine ⟨_, e, k, z, h1, h2, h3, by simp, rfl, fun b _ => ?_⟩
  have : ((Array.range (0 * k)).map fun i => z.cells[i % z.cells.size]!) = #[] := by simp
  rw [this]; exact h b
def TOwn (T : TypeId) (v : Value) (ts : List Tb) (C B : Hp) : Prop := ∃ rs, SOwn T 2 v rs C ∧ Each (TRow B) rs ts
theorem TOwn.nil {T : TypeId} {B : Hp} : TOwn T (.slice none 0 0) [] [] B := ⟨[], SOwn.nil _ _, Each.nil⟩
theorem TOwn.mono {T : TypeId} {v : Value} {ts : List Tb} {C B B' : Hp} (h : TOwn T v ts C B) (hs : ∀ x ∈ B, x ∈ B') : TOwn T v ts C B' := let ⟨rs, h1, h2⟩ := h; ⟨rs, h1, h2.mono fun _ _ h => h.mono hs⟩
theorem TOwn.tbls {T : TypeId} {v : Value} {ts : List Tb} {C B B' : Hp} (h : TOwn T v ts C B) (hc : ∀ x ∈ C, x ∈ B') (hb : ∀ x ∈ B, x ∈ B') : Tbls B' v ts := by
  obtain ⟨rs, h1, h2⟩ := h; exact ⟨rs, (Sl.ofOwn h1 (by decide)).mono hc, h2.mono fun _ _ h => h.mono hb⟩
theorem TOwn.app {T : TypeId} {v : Value} {ts : List Tb} {C B0 A B : Hp} (h : TOwn T v ts C B0) {xb xc : Nat} {t : Tb} {s : Value} {xT : TypeId} {fz : Nat × Nat} (hx : (xb, Obj.cells #[.int .i64 t.n, s] xT fz) ∈ A ++ (C ++ B)) (hw : Words B0 s t.ws)
    (hl : ts.length < 4398046511103) {K : Value → Hp → Prop} (hk : ∀ v' C', TOwn T v' (ts ++ [t]) C' B0 → K v' (A ++ (C' ++ B))) : App P T 2 32 (.agg #[.int .i64 0, .slice none 0 0]) (A ++ (C ++ B)) v (.slice (some ⟨xb, 0, none⟩) 1 xc) K := by
  obtain ⟨rs, h1, h2⟩ := h
  have hs : s.oneCell' = true := by obtain ⟨a, c, rfl, _⟩ := hw.1.shape; rfl
  have hrl := h2.1
  refine h1.app' (r := [.int .i64 t.n, s]) hx rfl (fun u hu => by simp only [List.mem_cons, List.not_mem_nil, or_false] at hu; rcases hu with rfl | rfl; rfl; exact hs) ⟨[.int .i64 0, .slice none 0 0], rfl, rfl⟩ (by omega) (by omega) fun v' C' ho => hk v' C' ⟨_, ho, h2.snoc ⟨s, rfl, hw⟩⟩
def brow (l : List UInt8) : List (List Value) := l.map fun b => [Value.int .u8 b.toNat]
theorem rows_brow (l : List UInt8) : rows (brow l) = (l.map fun b => Value.int .u8 b.toNat).toArray := by
  unfold rows brow
  congr 1
  induction l with
  | nil => rfl
  | cons b r ih => simp [ih]
theorem BytesS.own {T : TypeId} {v : Value} {l : List UInt8} {C : Hp} (h : SOwn T 1 v (brow l) C) (hs : ∀ x ∈ C, x ∈ H) {K : Value → Prop} (hk : K (.string ⟨l.toArray⟩)) : BytesS H v K := by
  obtain ⟨a, cap, h1, h2⟩ := ((Sl.ofOwn h (by decide)).mono hs).cells
  refine ⟨a, _, cap, l, h1, ?_, by simp [brow], hk⟩
  rw [rows_brow, Nat.mul_one] at h2; exact h2
def strV (l : List UInt8) : Value := .string ⟨l.toArray⟩
theorem strV_beq (a b : List UInt8) : ((⟨a.toArray⟩ : ByteArray) == ⟨b.toArray⟩) = decide (a = b) := by
  rw [beq_toListBytes, ByteArray.toList_eq, ByteArray.toList_eq]
  simp only [List.toList_toArray]
  rw [Bool.eq_iff_iff]; simp
theorem strV_law (a b : List UInt8) : Instr.sameNow .string (strV a) (strV b) = some (decide (a = b)) := by
  show some _ = some _
  rw [strV_beq]
theorem strV_bits (a : List UInt8) : Instr.sameBits 10000 (strV a) (strV a) = true := by
  show ((⟨a.toArray⟩ : ByteArray) == ⟨a.toArray⟩) = true
  rw [strV_beq]; simp
theorem Bin.strNe {a b : List UInt8} {k : Value → Prop} (h : k (.bool (decide (a ≠ b)))) : Bin .str .neq (strV a) (strV b) k := by
  refine ⟨_, rfl, ?_⟩
  have : (!((⟨a.toArray⟩ : ByteArray).toList == (⟨b.toArray⟩ : ByteArray).toList)) = decide (a ≠ b) := by
    rw [← beq_toListBytes, strV_beq]; simp
  rw [this]; exact h
def TEnts (n : Nat) (B : Hp) (es : Array MapEntry) (ck : Nat) (m : List (List UInt8 × List Nat)) : Prop :=
  Ents strV (fun v ws => Tbl B v ⟨n, ws⟩) es ck m ∧ ∀ x ∈ m, x.1 = Tab.keyB x.2 ∧ Tab.Frm n x.2
theorem TEnts.mono {n : Nat} {B B' : Hp} {es : Array MapEntry} {ck : Nat} {m : List (List UInt8 × List Nat)} (h : TEnts n B es ck m) (hs : ∀ x ∈ B, x ∈ B') : TEnts n B' es ck m := ⟨h.1.mono fun _ _ h => h.mono hs, h.2⟩
theorem TEnts.empty (n : Nat) (B : Hp) : TEnts n B #[] 0 [] := ⟨Ents.empty, by simp⟩
def tset (m : List (List UInt8 × List Nat)) (ws : List Nat) : List (List UInt8 × List Nat) := mset m (Tab.keyB ws) ws
theorem TEnts.nodup {n : Nat} {B : Hp} {es : Array MapEntry} {ck : Nat} {m : List (List UInt8 × List Nat)} (h : TEnts n B es ck m) : (m.map Prod.snd).Nodup := by
  have h1 := h.1.nd
  have e : m.map Prod.fst = (m.map Prod.snd).map Tab.keyB := by
    rw [List.map_map]; apply List.map_congr_left; intro x hx; exact (h.2 x hx).1
  rw [e] at h1
  exact List.Pairwise.of_map Tab.keyB (fun a b hne e => hne (by rw [e])) h1
theorem tset_same {n : Nat} {m : List (List UInt8 × List Nat)} {ws : List Nat} (hm : ∀ x ∈ m, x.1 = Tab.keyB x.2 ∧ Tab.Frm n x.2) (hf : Tab.Frm n ws) : ∀ x, x ∈ (tset m ws).map Prod.snd ↔ x ∈ m.map Prod.snd ∨ x = ws := by
  intro x
  unfold tset mset
  split
  · rename_i hk
    obtain ⟨y, hy, hky⟩ := List.mem_map.1 hk
    have hyw : y.2 = ws := (hm y hy).2.key_inj hf (by rw [← (hm y hy).1, hky])
    have : (m.map fun y => if y.1 = Tab.keyB ws then (Tab.keyB ws, ws) else y) = m := by
      conv => rhs; rw [← List.map_id m]
      apply List.map_congr_left
      intro z hz
      split
      · rename_i hzk
        have : z.2 = ws := (hm z hz).2.key_inj hf (by rw [← (hm z hz).1, hzk])
        simp only [id]; rw [← hzk, ← this]
      · rfl
    rw [this]
    constructor
    · exact .inl
    · rintro (h | rfl)
      · exact h
      · exact List.mem_map.2 ⟨y, hy, hyw⟩
  · simp
theorem tset_ok {n : Nat} {m : List (List UInt8 × List Nat)} {ws : List Nat} (hm : ∀ x ∈ m, x.1 = Tab.keyB x.2 ∧ Tab.Frm n x.2) (hf : Tab.Frm n ws) : ∀ x ∈ tset m ws, x.1 = Tab.keyB x.2 ∧ Tab.Frm n x.2 := by
  intro x hx
  unfold tset mset at hx
  split at hx
  · obtain ⟨y, hy, rfl⟩ := List.mem_map.1 hx
    split
    · exact ⟨rfl, hf⟩
    · exact hm y hy
  · rcases List.mem_append.1 hx with hx | hx
    · exact hm x hx
    · simp at hx; subst hx; exact ⟨rfl, hf⟩
theorem TEnts.upd {n : Nat} {B : Hp} {es : Array MapEntry} {ck b : Nat} {m : List (List UInt8 × List Nat)} {ws : List Nat} {val : Value} {K : Hp → Prop} (h : TEnts n B es ck m) (hv : Tbl B val ⟨n, ws⟩) (hf : Tab.Frm n ws)
    (h1 : ∀ es' ck', TEnts n B es' ck' (tset m ws) → ∃ H', Upd b (.map es ck) (.map es' ck') H H' ∧ K H') : MapUpd .string H (.map (some b)) (strV (Tab.keyB ws)) val K :=
  Ents.upd strV_law strV_bits h.1 hv fun es' ck' he => h1 es' ck' ⟨he, tset_ok h.2 hf⟩
end
end Go.Sx
namespace Go.Sx
open Go
section
variable {P : Program} {g : Gh} {H : Hp}
theorem SOwn.apps {elem k bytes : Nat} {zero : Value} {v : Value} {rs : List (List Value)} {C A B : Hp} (h : SOwn elem k v rs C) {xa : Option Addr} {xc : Nat} {r2 : List (List Value)}
    (hx : Cells (A ++ (C ++ B)) xa (r2.length * k) (rows r2)) (hr : ∀ r ∈ r2, r.length = k) (h1 : ∀ r ∈ r2, ∀ u ∈ r, u.oneCell' = true) (hz : ∃ z : List Value, zero.cells = z.toArray ∧ z.length = k)
    (hb : (rs.length + r2.length) * bytes ≤ 140737488355328) (hmax : rs.length + r2.length ≤ 9223372036854775807) {K : Value → Hp → Prop}
    (hk : ∀ v' C', SOwn elem k v' (rs ++ r2) C' → K v' (A ++ (C' ++ B))) : App P elem k bytes zero (A ++ (C ++ B)) v (.slice xa r2.length xc) K := by
  obtain ⟨z, hz1, hz2⟩ := hz
  have hnone : ∀ u ∈ (rows r2).toList, u.oneCell' = true := by
    intro u hu
    simp only [rows, List.mem_flatten] at hu
    obtain ⟨r, h2, h3⟩ := hu
    exact h1 r h2 u h3
  rcases h with ⟨rfl, rfl, rfl⟩ | ⟨b, junk, rfl, rfl, hall⟩
  · refine ⟨none, 0, 0, xa, r2.length, xc, #[], rows r2, rfl, rfl, rfl, hx, rows_size hr, by simp, hnone, fun h => ?_, fun _ => ⟨by simpa using hb, by simpa using hmax, fun newcap hn b hbf => ?_⟩⟩
    · have : r2 = [] := List.eq_nil_of_length_eq_zero (by omega)
      subst this
      exact hk _ [] (.inl ⟨rfl, rfl, rfl⟩)
    · rw [show (#[] : Array Value) ++ rows r2 ++ Builtin.zeroCells zero.cells (newcap - (0 + r2.length)) = rows ([] ++ r2 ++ List.replicate (newcap - r2.length) z) by rw [hz1, zeroRows z hz2]; simp only [Nat.zero_add, Array.empty_append, List.nil_append]; rw [rows_append]]
      refine ⟨_, Ent.swap3 [(b, _)] A B, hk _ [(b, _)] (.inr ⟨b, List.replicate (newcap - r2.length) z, ?_, rfl, ?_⟩)⟩
      · simp; omega
      · intro x hx
        rcases List.mem_append.1 hx with hx | hx
        · exact hr x hx
        · rw [List.eq_of_mem_replicate hx, hz2]
  · have hsz := rows_size hall
    have hallr : ∀ x ∈ rs, x.length = k := fun x hx => hall x (by simp [hx])
    have hold : rows rs = (rows (rs ++ junk)).extract 0 (0 + rs.length * k) := by
      rw [← rows_append]
      apply Array.ext'
      have := rows_size hallr
      have h2 : (rows rs).toList.length = rs.length * k := by rw [Array.length_toList]; exact this
      rw [Array.toList_extract, Array.toList_append, List.extract_eq_take_drop, List.drop_zero, Nat.zero_add, Nat.sub_zero, ← h2, List.take_left]
    refine ⟨some ⟨b, 0, none⟩, rs.length, rs.length + junk.length, xa, r2.length, xc, rows rs, rows r2, rfl, rfl, .inr ⟨rfl, _, elem, (0, 0), by simp, ?_, hold⟩, hx, rows_size hr, rows_size hallr, hnone, fun hfit => ?_, fun hgrow => ⟨hb, by omega, fun newcap hn b' hbf => ?_⟩⟩
    · rw [hsz]; simp only [List.length_append, Nat.zero_add]; exact Nat.mul_le_mul_right _ (by omega)
    · obtain ⟨j1, j2, rfl, hj⟩ : ∃ j1 j2, junk = j1 ++ j2 ∧ j1.length = r2.length := ⟨junk.take r2.length, junk.drop r2.length, (List.take_append_drop _ _).symm, by rw [List.length_take]; omega⟩
      have hallj : ∀ x ∈ j1, x.length = k := fun x hx => hall x (by simp [hx])
      refine ⟨_, elem, _, rfl, ?_, ((Upd.head _).append B).prepend A, hk _ [(b, _)] (.inr ⟨b, j2, ?_, ?_, ?_⟩)⟩
      · rw [hsz, List.length_append, List.length_append, hj, Nat.add_mul, Nat.add_mul]
        show 0 + rs.length * k + r2.length * k ≤ _
        omega
      · simp; omega
      · have e : (⟨b, 0, none⟩ : Addr).off + rs.length * k = rs.length * k := by simp
        have l1 := flatten_length rs hallr
        have l2 := flatten_length j1 hallj
        have l3 := flatten_length r2 hr
        have e2 : over (rows (rs ++ (j1 ++ j2))) (rs.length * k) (rows r2).toList = rows (rs ++ r2 ++ j2) := by
          unfold rows
          rw [List.flatten_append, List.flatten_append, List.toList_toArray, over_eq _ _ _ (by rw [List.length_append, List.length_append, l1, l2, l3, hj]; omega)]
          congr 1
          rw [List.flatten_append, List.flatten_append, ← l1, List.take_left, l3, ← hj, ← l2, List.drop_append, ← List.append_assoc]
          simp [List.drop_append]
        rw [e, e2]
      · intro x hx
        simp only [List.append_assoc, List.mem_append] at hx
        rcases hx with hx | hx | hx
        · exact hallr x hx
        · exact hr x hx
        · exact hall x (by simp [hx])
    · refine ⟨A ++ ([(b', _)] ++ B), ?_, hk _ [(b', _)] (.inr ⟨b', List.replicate (newcap - (rs.length + r2.length)) z, ?_, rfl, ?_⟩)⟩
      · rw [hz1, zeroRows z hz2, rows_append, rows_append]
        exact fun g w h => (Ent.segs [[_], A, [_], B] [[_], A, [_], B] ((List.perm_append_comm (l₁ := [_, A]) (l₂ := [_])).append_right [B] |>.trans (.cons _ (.swap _ _ _)) ) g w h).tail
      · simp; omega
      · intro x hx
        rcases List.mem_append.1 hx with hx | hx
        · rcases List.mem_append.1 hx with hx | hx
          · exact hallr x hx
          · exact hr x hx
        · rw [List.eq_of_mem_replicate hx, hz2]
def IOwn (T : TypeId) (kd : IntKind) (v : Value) (l : List Int) (C : Hp) : Prop := SOwn T 1 v (l.map fun n => [Value.int kd n]) C
theorem IOwn.nil {T : TypeId} {kd : IntKind} : IOwn T kd (.slice none 0 0) [] [] := SOwn.nil _ _
theorem IOwn.lenS {T : TypeId} {kd : IntKind} {v : Value} {l : List Int} {C : Hp} (h : IOwn T kd v l C) {K : Value → Prop} (hk : K (.int .i64 l.length)) : LenS v K := SOwn.lenS h (by simpa using hk)
theorem IOwn.ints {T : TypeId} {kd : IntKind} {v : Value} {l : List Int} {C : Hp} (h : IOwn T kd v l C) : Ints kd C v l := Sl.ofOwn h (by decide)
theorem IOwn.app {T : TypeId} {kd : IntKind} {v : Value} {l : List Int} {C A B : Hp} {bytes : Nat} (h : IOwn T kd v l C) {xb xc : Nat} {x : Int} {xT : TypeId} {fz : Nat × Nat} (hx : (xb, Obj.cells (icells kd [x]) xT fz) ∈ A ++ (C ++ B))
    (hb : (l.length + 1) * bytes ≤ 140737488355328) (hm : l.length + 1 ≤ 9223372036854775807) {K : Value → Hp → Prop} (hk : ∀ v' C', IOwn T kd v' (l ++ [x]) C' → K v' (A ++ (C' ++ B))) : App P T 1 bytes (.int kd 0) (A ++ (C ++ B)) v (.slice (some ⟨xb, 0, none⟩) 1 xc) K :=
  SOwn.app' (r := [.int kd x]) h hx rfl (by simp [Value.oneCell']) ⟨[.int kd 0], rfl, rfl⟩ (by simpa using hb) (by simpa using hm) fun v' C' ho => hk v' C' (by unfold IOwn; simpa using ho)
theorem IOwn.apps {T : TypeId} {kd : IntKind} {v x : Value} {l l2 : List Int} {C A B : Hp} {bytes : Nat} (h : IOwn T kd v l C) (hx : Ints kd (A ++ (C ++ B)) x l2)
    (hb : (l.length + l2.length) * bytes ≤ 140737488355328) (hm : l.length + l2.length ≤ 9223372036854775807) {K : Value → Hp → Prop} (hk : ∀ v' C', IOwn T kd v' (l ++ l2) C' → K v' (A ++ (C' ++ B))) : App P T 1 bytes (.int kd 0) (A ++ (C ++ B)) v x K := by
  obtain ⟨a, cap, rfl, hc⟩ := Sl.cells hx
  exact SOwn.apps h hc (by simp) (by simp [Value.oneCell']) ⟨[.int kd 0], rfl, rfl⟩ (by simpa using hb) (by simpa using hm) fun v' C' ho => hk v' C' (by unfold IOwn; rw [List.map_append]; exact ho)
theorem BuildSl.ints3 {t e : Nat} {kd : IntKind} {x y z : Int} {K : Value → Hp → Prop} (h1 : P.underlying t = some (.slice e)) (h2 : sizeD P e = some 1) (h3 : zeroD P e = some (.int kd 0))
    (h : ∀ b, K (.slice (some ⟨b, 0, Option.none⟩) 3 3) ((b, .cells (icells kd [x, y, z]) e (0, 0)) :: H)) : BuildSl P t 3 [(0, .int kd x), (1, .int kd y), (2, .int kd z)] H K := by
  refine ⟨icells kd [x, y, z], e, 1, _, h1, h2, h3, by decide, ?_, fun b _ => h b⟩
  have e1 : Array.range (3 * 1) = #[0, 1, 2] := rfl
  simp [Instr.fill, Value.cells, icells, e1]
end
end Go.Sx
namespace Go.Sx
open Go
section
variable {P : Program}
theorem cellsOf_one {e : TypeId} {i : TypeInfo} (hi : P.info? e = some i) (hs : i.size = 1) : P.cellsOf e = 1 := by simp [Program.cellsOf, hi, hs]
theorem part_int {e : TypeId} {q : IntKind} (hu : P.underlying e = some (.int q)) {l : List Int} {j : Nat} {x : Int} (h : l[j]? = some x) (w : World) : (part e (icells q l) j).run P w = .ok (.int q x) w := by
  simp [part, isAgg, run_underlying hu, icells, h]
theorem eqItems_ints {e : TypeId} {q : IntKind} (hu : P.underlying e = some (.int q)) (hc : P.cellsOf e = 1) (d : Nat) (l l' : List Int) (w : World) : ∀ is : List Nat, (∀ i ∈ is, i < l.length ∧ i < l'.length) →
    (Op.eqItems (d + 1) e (P.cellsOf e) (icells q l) (icells q l') is).run P w = .ok (is.all fun i => l[i]? == l'[i]?) w
  | [], _ => by simp [Op.eqItems]
  | i :: is, h => by
    obtain ⟨h1, h2⟩ := h i (by simp)
    have g1 : l[i]? = some l[i] := List.getElem?_eq_getElem h1
    have g2 : l'[i]? = some l'[i] := List.getElem?_eq_getElem h2
    have p1 := part_int (P := P) hu g1 w
    have p2 := part_int (P := P) hu g2 w
    have p3 : (Op.equalIn (d + 1) e (.int q l[i]) (.int q l'[i])).run P w = .ok (l[i] == l'[i]) w := by
      simp only [Op.equalIn, Sem.run_bind, run_underlying hu, Result.andThen_ok, if_true, Sem.run_pure]
    have ih := eqItems_ints hu hc d l l' w is fun j hj => h j (by simp [hj])
    simp only [Op.eqItems, hc, Nat.mul_one, Sem.run_bind, p1, p2, p3, Result.andThen_ok] at ih ⊢
    rw [List.all_cons, g1, g2]
    cases hb : (l[i] == l'[i])
    · simp [hb]
    · simp [hb, ih]
theorem EqV.array {t e : TypeId} {q : IntKind} {n : Nat} (ht : P.underlying t = some (.array n e)) (hu : P.underlying e = some (.int q)) (hz : sizeD P e = some 1) (l l' : List Int) (h1 : l.length = n) (h2 : l'.length = n) :
    EqV P t (.agg (icells q l)) (.agg (icells q l')) (decide (l = l')) := by
  obtain ⟨i, hi, hs⟩ := sizeD_spec hz
  have hc := cellsOf_one hi hs
  intro w
  show (Op.equalIn (9998 + 1 + 1) t _ _).run P w = _
  rw [run_equalIn_array w (9998 + 1) _ _ ht hi, eqItems_ints hu hc 9998 l l' w _ (fun j hj => by have := List.mem_range.1 hj; omega)]
  congr 1
  rw [Bool.eq_iff_iff]
  simp only [List.all_eq_true, List.mem_range, decide_eq_true_eq, beq_iff_eq]
  constructor
  · intro h
    apply List.ext_getElem?
    intro j
    by_cases hj : j < n
    · exact h j hj
    · rw [List.getElem?_eq_none (by omega), List.getElem?_eq_none (by omega)]
  · rintro rfl j _; rfl
theorem ChkV.array {t e : TypeId} {q : IntKind} {n : Nat} (ht : P.underlying t = some (.array n e)) (hu : P.underlying e = some (.int q)) (hz : sizeD P e = some 1) (l : List Int) (h1 : l.length = n) : ChkV P t (.agg (icells q l)) := by
  obtain ⟨i, hi, hs⟩ := sizeD_spec hz
  intro b w
  have gen : ∀ d, (Instr.checkKey b (d + 1 + 1) t (.agg (icells q l))).run P w = .ok () w := by
    intro d
    have p2 : ∀ x : Int, (Instr.checkKey b (d + 1) e (.int q x)).run P w = .ok () w := fun x => by
      simp only [Instr.checkKey, Sem.run_bind, run_underlying hu, Result.andThen_ok, Sem.run_pure]
    unfold Instr.checkKey
    simp only [Sem.run_bind, run_underlying ht, Result.andThen_ok]
    simp only [Std.Legacy.Range.forIn_eq_forIn_range', Std.Legacy.Range.size, Nat.sub_zero, Nat.add_one_sub_one, Nat.div_one]
    have key : ∀ is : List Nat, (∀ j ∈ is, j < l.length) → (forIn is PUnit.unit fun j (_ : PUnit) => (do
          Instr.checkKey b (d + 1) e (← part e (icells q l) (j * (← sizeOf e)))
          pure (ForInStep.yield PUnit.unit) : Sem (ForInStep PUnit))).run P w = .ok PUnit.unit w := by
      intro is
      induction is with
      | nil => intro _; simp
      | cons j is ih =>
        intro h
        have p1 := part_int (P := P) hu (List.getElem?_eq_getElem (h j (by simp))) w
        simp only [List.forIn_cons, Sem.run_bind, run_sizeOf hi, Result.andThen_ok, hs, Nat.mul_one, p1, p2, Sem.run_pure]
        exact ih fun k hk => h k (by simp [hk])
    have := key (List.range' 0 n) (fun j hj => by have := List.mem_range'_1.1 hj; omega)
    rw [this]; rfl
  exact gen 9998
theorem Build.two {t e : TypeId} {q : IntKind} {x y : Int} {K : Value → Prop} (ht : P.underlying t = some (.array 2 e)) (hz : sizeD P e = some 1) (h0 : zeroD P t = some (.agg (icells q [0, 0]))) (h : K (.agg (icells q [x, y]))) :
    Build P t [(0, .int q x), (1, .int q y)] K := by
  refine ⟨_, fun w => ?_, h⟩
  obtain ⟨i, hi, hs⟩ := sizeD_spec hz
  obtain ⟨i0, hi0, hz0⟩ := zeroD_spec h0
  simp only [Instr.build, Sem.run_bind, run_zero hi0 hz0, Result.andThen_ok, run_underlying ht, run_sizeOf hi, hs]
  simp [Instr.fill, Value.cells, icells]
end
end Go.Sx
namespace Go.Sx
open Go
section
variable {P : Program} {g : Gh} {H : Hp}
theorem RunP.struct {o : Oper} {ρ : Operand → Value} {k : Value → Prop} {neq : Bool} {t yt : TypeId} {x y : Operand} {xs ys : Array Value} {b : Bool} (ho : o.op = .binOp (cond neq .neq .eql) t x y yt) (hx : ρ x = .agg xs) (hy : ρ y = .agg ys)
    (hg : P.eqGuardType P.depth t = false) (hu : P.underlying t = some (.struct (P.fieldsOf t))) (hp : P.stoodInHeld t = false)
    (he : ∀ w, (Op.eqFields 9999 xs ys (P.fieldsOf t).toList).run P w = .ok b w) (hk : k (.bool (cond neq (!b) b))) : RunP P g o ρ H k := by
  obtain ⟨dst, op, type, pos, after, guard⟩ := o
  simp only at ho
  subst ho
  obtain ⟨v, h1, h2⟩ := Reads.mk (P := P) (g := g) (H := H) (o := ⟨dst, .binOp (cond neq .neq .eql) t x y yt, type, pos, after, guard⟩) (ρ := ρ) (k := k) (s := do eqGuard (cond neq .neq .eql) t x y (ρ x) (ρ y); binOp (cond neq .neq .eql) t (ρ x) (ρ y)) rfl
    ⟨.bool (cond neq (!b) b), hk, fun w _ => by
      rw [hx, hy]
      simp only [Sem.run_bind, run_eqGuard_agg w _ t x y xs ys hg, Result.andThen_ok]
      cases neq
      · simp only [cond_false]; rw [run_eql_struct, show (10000 : Nat) = 9999 + 1 from rfl, run_equalIn_struct w 9999 t xs ys hu hp, he]; rfl
      · simp only [cond_true]; rw [run_neq_struct, show (10000 : Nat) = 9999 + 1 from rfl, run_equalIn_struct w 9999 t xs ys hu hp, he]; rfl⟩
  exact ⟨v, h2, h1⟩
end
end Go.Sx
namespace Go.Sx
open Go
section
variable {P : Program} {g : Gh} {H : Hp}
def Plain2 (P : Program) (t : TypeId) (x y : Value) : Prop :=
  (∃ q a b, P.underlying t = some (.int q) ∧ x = .int q a ∧ y = .int q b) ∨ (∃ a b, P.underlying t = some .bool ∧ x = .bool a ∧ y = .bool b)
theorem Plain2.eq {t : TypeId} {x y : Value} (h : Plain2 P t x y) (d : Nat) (w : World) : ∃ b, (Op.equalIn (d + 1) t x y).run P w = .ok b w ∧ (b = true ↔ x = y) := by
  rcases h with ⟨q, a, b, hu, rfl, rfl⟩ | ⟨a, b, hu, rfl, rfl⟩
  · exact ⟨a == b, by simp [Op.equalIn, run_underlying hu], by simp⟩
  · exact ⟨a == b, by simp [Op.equalIn, run_underlying hu], by simp⟩
theorem part_plain {t : TypeId} {xs : Array Value} {o : Nat} {x : Value} (hu : (∃ q, P.underlying t = some (.int q)) ∨ P.underlying t = some .bool) (h : xs[o]? = some x) (w : World) : (part t xs o).run P w = .ok x w := by
  rcases hu with ⟨q, hu⟩ | hu <;> simp [part, isAgg, run_underlying hu, h]
theorem eqFields_flat (d : Nat) (xs ys : Array Value) (w : World) : ∀ fs : List Field, (∀ f ∈ fs, f.name ≠ "_" ∧ ∃ x y, xs[f.offset]? = some x ∧ ys[f.offset]? = some y ∧ Plain2 P f.type x y) →
    ∃ b, (Op.eqFields (d + 1) xs ys fs).run P w = .ok b w ∧ (b = true ↔ ∀ f ∈ fs, xs[f.offset]? = ys[f.offset]?)
  | [], _ => ⟨true, by simp [Op.eqFields], by simp⟩
  | f :: fs, h => by
    obtain ⟨hn, x, y, hx, hy, hp⟩ := h f (by simp)
    obtain ⟨b', ih, hb'⟩ := eqFields_flat d xs ys w fs fun g hg => h g (by simp [hg])
    have hu : (∃ q, P.underlying f.type = some (.int q)) ∨ P.underlying f.type = some .bool := by
      rcases hp with ⟨q, _, _, hu, _⟩ | ⟨_, _, hu, _⟩
      · exact .inl ⟨q, hu⟩
      · exact .inr hu
    obtain ⟨b, hr, hb⟩ := hp.eq d w
    have p1 := part_plain hu hx w
    have p2 := part_plain hu hy w
    cases b with
    | false =>
      refine ⟨false, by simp [Op.eqFields, hn, p1, p2, hr], ?_⟩
      simp only [Bool.false_eq_true, List.mem_cons, forall_eq_or_imp, false_iff, hx, hy, Option.some.injEq]
      exact fun hh => absurd (hb.2 hh.1) (by decide)
    | true =>
      refine ⟨b', by simp [Op.eqFields, hn, p1, p2, hr, ih], ?_⟩
      rw [hb']
      simp only [List.mem_cons, forall_eq_or_imp, hx, hy, Option.some.injEq, hb.1 rfl, true_and]
theorem EqV.flat {t : TypeId} {fs : Array Field} (ht : P.underlying t = some (.struct fs)) (hp : P.stoodInHeld t = false) {xs ys : Array Value} {p : Prop} [Decidable p]
    (h : ∀ f ∈ fs.toList, f.name ≠ "_" ∧ ∃ x y, xs[f.offset]? = some x ∧ ys[f.offset]? = some y ∧ Plain2 P f.type x y) (he : (∀ f ∈ fs.toList, xs[f.offset]? = ys[f.offset]?) ↔ p) : EqV P t (.agg xs) (.agg ys) (decide p) := by
  have e : P.fieldsOf t = fs := by simp [Program.fieldsOf, ht]
  intro w
  show (Op.equalIn (9998 + 1 + 1) t _ _).run P w = _
  rw [run_equalIn_struct w (9998 + 1) t xs ys (by rw [e]; exact ht) hp, e]
  obtain ⟨b, hr, hb⟩ := eqFields_flat (P := P) 9998 xs ys w fs.toList h
  rw [hr]
  congr 1
  rw [Bool.eq_iff_iff, hb, he, decide_eq_true_eq]
theorem ChkV.flat {t : TypeId} {fs : Array Field} (ht : P.underlying t = some (.struct fs)) {xs : Array Value}
    (h : ∀ f ∈ fs.toList, f.name ≠ "_" ∧ ∃ x, xs[f.offset]? = some x ∧ Plain2 P f.type x x) : ChkV P t (.agg xs) := by
  intro b w
  have gen : ∀ d, (Instr.checkKey b (d + 1 + 1) t (.agg xs)).run P w = .ok () w := by
    intro d
    unfold Instr.checkKey
    simp only [Sem.run_bind, run_underlying ht, Result.andThen_ok]
    rw [← Array.forIn_toList]
    clear ht
    generalize fs.toList = l at h
    induction l with
    | nil => simp
    | cons f l ih =>
      obtain ⟨hn, x, hx, hp⟩ := h f (by simp)
      have hu : (∃ q, P.underlying f.type = some (.int q)) ∨ P.underlying f.type = some .bool := by
        rcases hp with ⟨q, _, _, hu, _⟩ | ⟨_, _, hu, _⟩
        · exact .inl ⟨q, hu⟩
        · exact .inr hu
      have p1 := part_plain hu hx w
      have p2 : (Instr.checkKey b (d + 1) f.type x).run P w = .ok () w := by
        rcases hp with ⟨q, a, _, hu, rfl, _⟩ | ⟨a, _, hu, rfl, _⟩
        · simp only [Instr.checkKey, Sem.run_bind, run_underlying hu, Result.andThen_ok, Sem.run_pure]
        · simp only [Instr.checkKey, Sem.run_bind, run_underlying hu, Result.andThen_ok, Sem.run_pure]
      have := ih fun g hg => h g (by simp [hg])
      simp only [List.forIn_cons, Sem.run_bind]
      simp [hn, p1, p2]
      simpa using this
  exact gen 9998
theorem RunP.flat {o : Oper} {ρ : Operand → Value} {k : Value → Prop} {neq : Bool} {t yt : TypeId} {x y : Operand} {xs ys : Array Value} {fs : Array Field} (ho : o.op = .binOp (cond neq .neq .eql) t x y yt) (hx : ρ x = .agg xs) (hy : ρ y = .agg ys)
    (hg : P.eqGuardType P.depth t = false) (ht : P.underlying t = some (.struct fs)) (hp : P.stoodInHeld t = false)
    (h : ∀ f ∈ fs.toList, f.name ≠ "_" ∧ ∃ x y, xs[f.offset]? = some x ∧ ys[f.offset]? = some y ∧ Plain2 P f.type x y)
    (hk : ∀ b : Bool, (b = true ↔ ∀ f ∈ fs.toList, xs[f.offset]? = ys[f.offset]?) → k (.bool (cond neq (!b) b))) : RunP P g o ρ H k := by
  have e : P.fieldsOf t = fs := by simp [Program.fieldsOf, ht]
  obtain ⟨b, hr, hb⟩ := eqFields_flat (P := P) 9998 xs ys default fs.toList h
  refine RunP.struct ho hx hy hg (by rw [e]; exact ht) hp (b := b) (fun w => ?_) (hk b hb)
  obtain ⟨b', hr', hb'⟩ := eqFields_flat (P := P) 9998 xs ys w fs.toList h
  rw [e, hr']
  congr 1
  rw [Bool.eq_iff_iff, hb, hb']
theorem sameBits_flat (n : Nat) {xs : Array Value} (h : ∀ x ∈ xs.toList, (∃ q a, x = .int q a) ∨ ∃ a, x = .bool a) : Instr.sameBits (n + 1 + 1) (.agg xs) (.agg xs) = true := by
  simp only [Instr.sameBits, beq_self_eq_true, Bool.true_and, List.all_eq_true]
  intro x hx
  obtain ⟨a, b⟩ := x
  have h1 := List.of_mem_zip hx
  have e : a = b := by
    obtain ⟨i, hi, he⟩ := List.mem_iff_getElem.1 hx
    simp at he
    exact he.1.symm.trans he.2
  subst e
  rcases h a h1.1 with ⟨q, z, rfl⟩ | ⟨z, rfl⟩ <;> simp [Instr.sameBits]
end
section
variable {κ : Type} [DecidableEq κ] {β : Type} {ke : κ → Value} {vr : Value → β → Prop} {es : Array MapEntry} {ck b : Nat} {m : List (κ × β)} {P : Program} {H : Hp}
def mdel (m : List (κ × β)) (k : κ) : List (κ × β) := m.filter fun y => ¬ y.1 = k
theorem mget_mdel {k k' : κ} : mget (mdel m k) k' = if k' = k then none else mget m k' := by
  unfold mget mdel
  rw [List.find?_filter]
  by_cases e : k' = k
  · rw [if_pos e]
    rw [List.find?_eq_none.2]
    · rfl
    · intro x _; simp; intro h1 h2; exact h1 (h2.trans e)
  · rw [if_neg e]
    congr 1
    congr 1
    funext y
    by_cases e2 : y.1 = k'
    · have : ¬ y.1 = k := fun e3 => e (e2.symm.trans e3)
      simp [e2, this, e]
    · simp [e2]
theorem mget_mset {k k' : κ} {x : β} : mget (mset m k x) k' = if k' = k then some x else mget m k' := by
  unfold mget mset
  by_cases hk : k ∈ m.map Prod.fst
  · rw [if_pos hk]
    by_cases e : k' = k
    · subst e
      rw [if_pos rfl]
      induction m with
      | nil => simp at hk
      | cons y m ih =>
        rw [List.map_cons, List.find?_cons]
        by_cases ey : y.1 = k'
        · simp [ey]
        · rw [if_neg ey]
          simp only [ey, decide_false]
          rw [ih]
          rw [List.map_cons] at hk
          rcases List.mem_cons.1 hk with h | h
          · exact absurd h.symm ey
          · simpa using h
    · rw [if_neg e]
      have : ∀ l : List (κ × β), (List.find? (fun y => decide (y.1 = k')) (l.map fun y => if y.1 = k then (k, x) else y)).map Prod.snd = (List.find? (fun y => decide (y.1 = k')) l).map Prod.snd := by
        intro l
        induction l with
        | nil => rfl
        | cons y l ih =>
          rw [List.map_cons, List.find?_cons, List.find?_cons]
          by_cases ey : y.1 = k
          · have h1 : decide (k = k') = false := by simpa using fun h => e h.symm
            have h2 : decide (y.1 = k') = false := by rw [ey]; exact h1
            simp only [if_pos ey, h1, h2]
            exact ih
          · simp only [if_neg ey]
            cases decide (y.1 = k') with
            | true => rfl
            | false => exact ih
      exact this m
  · rw [if_neg hk]
    rw [List.find?_append]
    by_cases e : k' = k
    · subst e
      have : List.find? (fun y => decide (y.1 = k')) m = none := by
        rw [List.find?_eq_none]; intro y hy; simp; intro h; exact hk (List.mem_map.2 ⟨y, hy, h⟩)
      simp [this]
    · have : ¬ k = k' := fun h => e h.symm
      rw [if_neg e]
      cases List.find? (fun y => decide (y.1 = k')) m <;> simp [this]
omit [DecidableEq κ] in
theorem nodup_getElem_ne {α : Type} {l : List α} (h : l.Nodup) {i j : Nat} {x : α} (hi : l[i]? = some x) (hj : l[j]? = some x) : i = j := by
  have h1 := (List.getElem?_eq_some_iff.1 hi).1
  exact (List.getElem?_inj h1 h).1 (hi.trans hj.symm)
theorem mdel_erase (nd : (m.map Prod.fst).Nodup) {i : Nat} {k : κ} {y : β} (hi : m[i]? = some (k, y)) : mdel m k = m.eraseIdx i := by
  unfold mdel
  induction m generalizing i with
  | nil => simp at hi
  | cons z m ih =>
    rw [List.map_cons, List.nodup_cons] at nd
    cases i with
    | zero =>
      simp at hi; subst hi
      rw [List.eraseIdx_cons_zero, List.filter_cons_of_neg (by simp)]
      rw [List.filter_eq_self]
      intro w hw
      simp only [decide_not, Bool.not_eq_true', decide_eq_false_iff_not]
      intro e
      exact nd.1 (List.mem_map.2 ⟨w, hw, e⟩)
    | succ i =>
      simp at hi
      have hz : ¬ z.1 = k := fun e => nd.1 (List.mem_map.2 ⟨_, List.mem_of_getElem? hi, e.symm⟩)
      rw [List.eraseIdx_cons_succ, List.filter_cons_of_pos (by simpa using hz), ih nd.2 hi]
omit [DecidableEq κ] in
theorem Ents.less (h : Ents ke vr es ck m) (i : Nat) : Ents ke vr (es.eraseIdxIfInBounds i) ck (m.eraseIdx i) := by
  have hl : (es.eraseIdxIfInBounds i).toList = es.toList.eraseIdx i := by
    unfold Array.eraseIdxIfInBounds
    split
    · simp
    · rename_i hh; rw [List.eraseIdx_of_length_le (by simpa using hh)]
  refine ⟨?_, fun j e x he hx => ?_, ?_, ?_, fun e he => ?_⟩
  · have := congrArg List.length hl
    rw [Array.length_toList, List.length_eraseIdx] at this
    rw [this, List.length_eraseIdx, Array.length_toList, h.len]
  · rw [← Array.getElem?_toList, hl, List.getElem?_eraseIdx] at he
    rw [List.getElem?_eraseIdx] at hx
    split at he
    · rename_i hh; rw [if_pos hh] at hx; exact h.key j e x (by simpa using he) hx
    · rename_i hh; rw [if_neg hh] at hx; exact h.key (j + 1) e x (by simpa using he) hx
  · rw [← eraseIdx_map]; exact h.nd.sublist (List.eraseIdx_sublist _ _)
  · rw [hl, ← eraseIdx_map]; exact h.born.sublist (List.eraseIdx_sublist _ _)
  · rw [hl] at he; exact h.lt e (List.mem_of_mem_eraseIdx he)
theorem Ents.delS {P : Program} {kt : TypeId} {k : κ} {K : Hp → Prop} (hk : ∀ a b, EqV P kt (ke a) (ke b) (decide (a = b))) (hc : ∀ a, ChkV P kt (ke a)) (h : Ents ke vr es ck m) (hm : (b, Obj.map es ck) ∈ H)
    (h1 : ∀ es', Ents ke vr es' ck (mdel m k) → ∃ H', Upd b (.map es ck) (.map es' ck) H H' ∧ K H') : MapDelS P kt H (.map (some b)) (ke k) K := by
  refine ⟨hc k, .inr ?_⟩
  rcases h.findS hk k with ⟨i, y, e, g1, g2, g3, g4⟩ | ⟨g1, g2⟩
  · refine ⟨b, es, ck, _, rfl, g4, ?_⟩
    have := h.less i
    rw [← mdel_erase h.nd g2] at this
    exact h1 _ this
  · refine ⟨b, es, ck, _, rfl, g2, hm, ?_⟩
    have e : mdel m k = m := by
      unfold mdel
      rw [List.filter_eq_self]
      intro w hw
      simp only [decide_not, Bool.not_eq_true', decide_eq_false_iff_not]
      intro e
      exact g1 (List.mem_map.2 ⟨w, hw, e⟩)
    obtain ⟨H', hu, hK⟩ := h1 es (by rw [e]; exact h)
    have : ∀ {H H' : Hp} , Upd b (.map es ck) (.map es ck) H H' → H' = H := by
      intro H H' hu
      generalize ho : Obj.map es ck = o at hu
      induction hu with
      | head R => rfl
      | tail _ ih => rw [ih]
    rw [this hu] at hK; exact hK
end
section
variable {P : Program} {H : Hp}
theorem SOwn.len' {T : TypeId} {k : Nat} {v : Value} {rs : List (List Value)} {C : Hp} (h : SOwn T k v rs C) (hp : 0 < rs.length) : ∀ r ∈ rs, r.length = k := by
  obtain ⟨b', junk, rfl, rfl, hall⟩ := h.pos hp
  exact fun r hr => hall r (List.mem_append_left _ hr)
theorem SOwn.ldRow {T : TypeId} {k : Nat} {v : Value} {rs : List (List Value)} {C : Hp} (hs : SOwn T k v rs C) {i : Nat} {kd : IntKind} {r : List Value} (hr : rs[i]? = some r) (hC : ∀ y ∈ C, y ∈ H) {K : Value → Prop} (hk : K (.agg r.toArray)) :
    IAddr k v (.int kd (i : Int)) fun p => LdA k H p K := by
  have hi := (List.getElem?_eq_some_iff.1 hr).1
  obtain ⟨b', junk, rfl, rfl, hall⟩ := hs.pos (by omega)
  exact IAddr.nat hi (LdA.row (hC _ (List.Mem.head _)) hall (by rw [List.getElem?_append_left hi]; exact hr) hk)
theorem SOwn.ldCell {T : TypeId} {k : Nat} {v x : Value} {rs : List (List Value)} {C : Hp} (hs : SOwn T k v rs C) {i j : Nat} {kd : IntKind} {r : List Value} (hr : rs[i]? = some r) (hj : r[j]? = some x) (hC : ∀ y ∈ C, y ∈ H) {K : Value → Prop} (hk : K x) :
    IAddr k v (.int kd (i : Int)) fun p => FAddr j p fun q => Ld H q K := by
  have hi := (List.getElem?_eq_some_iff.1 hr).1
  obtain ⟨b', junk, rfl, rfl, hall⟩ := hs.pos (by omega)
  exact IAddr.nat hi (FAddr.mk (Ld.row (hC _ (List.Mem.head _)) hall (by rw [List.getElem?_append_left hi]; exact hr) hj hk))
theorem SOwn.ld1 {T : TypeId} {v x : Value} {rs : List (List Value)} {C : Hp} (hs : SOwn T 1 v rs C) {i : Nat} {kd : IntKind} (hr : rs[i]? = some [x]) (hC : ∀ y ∈ C, y ∈ H) {K : Value → Prop} (hk : K x) :
    IAddr 1 v (.int kd (i : Int)) fun p => Ld H p K := by
  have hi := (List.getElem?_eq_some_iff.1 hr).1
  obtain ⟨b', junk, rfl, rfl, hall⟩ := hs.pos (by omega)
  exact IAddr.nat hi (Ld.row1 (l := rs ++ junk) (hC _ (List.Mem.head _)) hall (by rw [List.getElem?_append_left hi]; exact hr) hk)
theorem SOwn.ldPart {T : TypeId} {k n : Nat} {v : Value} {rs : List (List Value)} {C : Hp} (hs : SOwn T k v rs C) {i : Nat} {kd : IntKind} {r : List Value} (hr : rs[i]? = some r) (hn : 0 < n ∧ n ≤ k) (hC : ∀ y ∈ C, y ∈ H) {K : Value → Prop} (hk : K (.agg (r.take n).toArray)) :
    IAddr k v (.int kd (i : Int)) fun p => FAddr 0 p fun q => LdA n H q K := by
  have hi := (List.getElem?_eq_some_iff.1 hr).1
  obtain ⟨b', junk, rfl, rfl, hall⟩ := hs.pos (by omega)
  have hrl : r.length = k := hall r (List.mem_append_left _ (List.mem_of_getElem? hr))
  refine IAddr.nat hi (FAddr.mk ?_)
  have hat : At H (.pointer (some ⟨b', 0 + i * k + 0, none⟩)) (r.take n) := ⟨b', _, _, _, _, rfl, hC _ (List.Mem.head _), fun j x hj => by
    have hjn : j < n := by have := (List.getElem?_eq_some_iff.1 hj).1; simp at this; omega
    rw [List.getElem?_take, if_pos hjn] at hj
    rw [Nat.add_zero, Nat.zero_add, rows_get hall (by omega), List.getElem?_append_left hi, hr]; exact hj⟩
  exact LdA.at hat (by simp; omega) hn.1 (fun _ h => h) hk
theorem rows_over {k : Nat} {l : List (List Value)} (h : ∀ r ∈ l, r.length = k) {i : Nat} {r xs : List Value} (hi : l[i]? = some r) (hx : xs.length ≤ k) : over (rows l) (i * k) xs = rows (l.set i (xs ++ r.drop xs.length)) := by
  have hlt := (List.getElem?_eq_some_iff.1 hi).1
  have hr := h r (List.mem_of_getElem? hi)
  have key : ∀ (xs : List Value) (j : Nat) (l : List (List Value)) (r : List Value), (∀ r ∈ l, r.length = k) → l[i]? = some r → j + xs.length ≤ k → over (rows l) (i * k + j) xs = rows (l.set i (r.take j ++ xs ++ r.drop (j + xs.length))) := by
    intro xs
    induction xs with
    | nil =>
      intro j l r h hi _
      have hlt := (List.getElem?_eq_some_iff.1 hi).1
      simp only [over, List.append_nil, List.length_nil, Nat.add_zero, List.take_append_drop]
      congr 1
      apply List.ext_getElem?
      intro m
      rw [List.getElem?_set]
      by_cases e : i = m
      · subst e; rw [if_pos rfl, hi, if_pos hlt]
      · rw [if_neg e]
    | cons x xs ih =>
      intro j l r h hi hj
      have hr := h r (List.mem_of_getElem? hi)
      have hlt := (List.getElem?_eq_some_iff.1 hi).1
      simp only [List.length_cons] at hj
      rw [over, rows_set_cell h hi (by omega), Nat.add_assoc]
      rw [ih (j + 1) (l.set i (r.set j x)) (r.set j x) (fun y hy => by
        rcases List.mem_or_eq_of_mem_set hy with hy | rfl
        · exact h y hy
        · simpa using hr) (by simp [hlt]) (by omega)]
      rw [List.set_set]
      congr 2
      have e1 : (r.set j x).take (j + 1) = r.take j ++ [x] := by
        rw [List.set_eq_take_append_cons_drop, if_pos (by omega), List.take_append]
        simp [List.take_take, show min (j + 1) j = j by omega, show j + 1 - min j r.length = 1 by omega]
      have e2 : (r.set j x).drop (j + 1 + xs.length) = r.drop (j + (x :: xs).length) := by
        rw [List.drop_set, if_pos (by omega)]
        congr 1
        simp; omega
      rw [e1, e2]
      simp
  have := key xs 0 l r h hi (by omega)
  simpa using this
theorem SOwn.putPart {T : TypeId} {k n : Nat} {v : Value} {rs : List (List Value)} {C A B : Hp} (hs : SOwn T k v rs C) {i : Nat} {kd : IntKind} {r xs : List Value} (hr : rs[i]? = some r) (hx : xs.length = n ∧ n ≤ k) (h1 : ∀ x ∈ xs, x.oneCell' = true) {K : Hp → Prop}
    (hk : ∀ C', SOwn T k v (rs.set i (xs ++ r.drop n)) C' → K (A ++ (C' ++ B))) : IAddr k v (.int kd (i : Int)) fun p => FAddr 0 p fun q => St n (A ++ (C ++ B)) q (.agg xs.toArray) K := by
  have hi := (List.getElem?_eq_some_iff.1 hr).1
  obtain ⟨b', junk, rfl, rfl, hall⟩ := hs.pos (by omega)
  refine IAddr.nat hi (FAddr.mk ?_)
  have hg : (rs ++ junk)[i]? = some r := by rw [List.getElem?_append_left hi]; exact hr
  have e : (rs ++ junk).set i (xs ++ r.drop xs.length) = rs.set i (xs ++ r.drop n) ++ junk := by rw [List.set_append_left _ _ hi, hx.1]
  refine St.mk (c' := rows (rs.set i (xs ++ r.drop n) ++ junk)) (H' := A ++ ([(b', .cells (rows (rs.set i (xs ++ r.drop n) ++ junk)) T (0, 0))] ++ B)) (((Upd.head _).append B).prepend A) (by simpa [Value.cells] using hx.1) ?_ (by simpa [Value.cells] using h1) ?_ ?_
  · rw [rows_size hall, Nat.zero_add, Nat.add_zero, List.length_append]
    have := Nat.mul_le_mul_right k (Nat.succ_le_of_lt hi)
    rw [Nat.succ_mul] at this
    have h2 : rs.length * k ≤ (rs.length + junk.length) * k := Nat.mul_le_mul_right k (by omega)
    omega
  · simp only [Value.cells, Nat.zero_add, Nat.add_zero]
    rw [rows_over hall hg (by omega), e]
  · have hrl : r.length = k := hall r (List.mem_append_left _ (List.mem_of_getElem? hr))
    refine hk _ (SOwn.mk' (junk := junk) (fun y hy => ?_) (by simp) (by simp))
    rcases List.mem_append.1 hy with hy | hy
    · rcases List.mem_or_eq_of_mem_set hy with hy | rfl
      · exact hall y (List.mem_append_left _ hy)
      · simp; omega
    · exact hall y (List.mem_append_right _ hy)
theorem SOwn.putRow {T : TypeId} {k : Nat} {v : Value} {rs : List (List Value)} {C A B : Hp} (hs : SOwn T k v rs C) {i : Nat} {kd : IntKind} {xs : List Value} (hi : i < rs.length) (hx : xs.length = k) (h1 : ∀ x ∈ xs, x.oneCell' = true) {K : Hp → Prop}
    (hk : ∀ C', SOwn T k v (rs.set i xs) C' → K (A ++ (C' ++ B))) : IAddr k v (.int kd (i : Int)) fun p => St k (A ++ (C ++ B)) p (.agg xs.toArray) K := by
  obtain ⟨b', junk, rfl, rfl, hall⟩ := hs.pos (by omega)
  refine IAddr.nat hi (St.row (l := rs ++ junk) (((Upd.head _).append B).prepend A) hall (by simp; omega) hx h1 ?_)
  have e : (rs ++ junk).set i xs = rs.set i xs ++ junk := by rw [List.set_append_left _ _ hi]
  rw [e]
  refine hk [(b', _)] (SOwn.mk' (junk := junk) (fun y hy => ?_) (by simp) (by simp))
  rcases List.mem_append.1 hy with hy | hy
  · rcases List.mem_or_eq_of_mem_set hy with hy | rfl
    · exact hall y (List.mem_append_left _ hy)
    · exact hx
  · exact hall y (List.mem_append_right _ hy)
theorem IOwn.ld {T : TypeId} {kd kd' : IntKind} {v : Value} {l : List Int} {C : Hp} (hs : IOwn T kd v l C) {i : Nat} {x : Int} (hx : l[i]? = some x) (hC : ∀ y ∈ C, y ∈ H) {K : Value → Prop} (hk : K (.int kd x)) : IAddr 1 v (.int kd' (i : Int)) fun p => Ld H p K :=
  SOwn.ld1 hs (x := .int kd x) (by simp [hx]) hC hk
theorem IOwn.put {T : TypeId} {kd kd' : IntKind} {v : Value} {l : List Int} {C A B : Hp} (hs : IOwn T kd v l C) {i : Nat} {x : Int} (hi : i < l.length) {K : Hp → Prop}
    (hk : ∀ C', IOwn T kd v (l.set i x) C' → K (A ++ (C' ++ B))) : IAddr 1 v (.int kd' (i : Int)) fun p => St 1 (A ++ (C ++ B)) p (.int kd x) K := by
  have hi' : i < (l.map fun n => [Value.int kd n]).length := by simpa using hi
  obtain ⟨b', junk, rfl, rfl, hall⟩ := SOwn.pos hs (by omega)
  refine IAddr.nat hi' ?_
  refine St.cell (l := l.map (fun n => [Value.int kd n]) ++ junk) (i := i) (k := 1) (j := 0) (r := [.int kd l[i]]) (((Upd.head _).append B).prepend A) hall (by rw [List.getElem?_append_left hi']; simp [hi]) (by omega) rfl ?_
  have e : (l.map (fun n => [Value.int kd n]) ++ junk).set i ([Value.int kd l[i]].set 0 (.int kd x)) = (l.set i x).map (fun n => [Value.int kd n]) ++ junk := by
    rw [List.set_append_left _ _ hi', List.map_set]; rfl
  rw [e]
  refine hk [(b', _)] (SOwn.mk' (junk := junk) (fun r hr' => ?_) (by simp) (by simp))
  rcases List.mem_append.1 hr' with hr' | hr'
  · obtain ⟨y, _, rfl⟩ := List.mem_map.1 hr'; rfl
  · exact hall r (List.mem_append_right _ hr')
theorem Ent.nil {H : Hp} : Ent H [] := fun _ _ h => h.right0
theorem SOwn.cut {T : TypeId} {k i : Nat} {v : Value} {rs : List (List Value)} {C : Hp} (hs : SOwn T k v rs C) (hi : i ≤ rs.length) {kd : IntKind} {K : Value → Prop} (hk : ∀ v', SOwn T k v' (rs.take i) C → K v') :
    SliceE k v none (some (.int kd (i : Int))) K := by
  by_cases hp : 0 < rs.length
  · obtain ⟨b', junk, rfl, rfl, hall⟩ := hs.pos hp
    refine SliceE.upto (by omega) (hk _ ?_)
    have e : rs ++ junk = rs.take i ++ (rs.drop i ++ junk) := by rw [← List.append_assoc, List.take_append_drop]
    rw [e] at hall ⊢
    exact SOwn.mk' hall (by simp; omega) (by simp; omega)
  · obtain rfl : rs = [] := List.eq_nil_of_length_eq_zero (by omega)
    obtain rfl : i = 0 := by simpa using hi
    obtain ⟨a, c, rfl⟩ := hs.len
    exact SliceE.upto (Nat.zero_le _) (hk _ (by simpa using hs))
theorem IOwn.cut {T : TypeId} {kd kd' : IntKind} {i : Nat} {v : Value} {l : List Int} {C : Hp} (hs : IOwn T kd v l C) (hi : i ≤ l.length) {K : Value → Prop} (hk : ∀ v', IOwn T kd v' (l.take i) C → K v') :
    SliceE 1 v none (some (.int kd' (i : Int))) K :=
  SOwn.cut hs (by simpa using hi) fun v' h => hk v' (by unfold IOwn; rw [List.map_take]; exact h)
end
end Go.Sx
namespace Go.Sx
open Go
section
variable {P : Program} {H C : Hp} {c : Hp → Hp}
theorem Hole.split (h : Hole C H c) : ∃ A B, ∀ X, c X = A ++ (X ++ B) := by
  induction h with
  | here => exact ⟨[], [], fun X => by simp⟩
  | @left A => exact ⟨[], A, fun X => rfl⟩
  | @cons x H c h ih =>
    obtain ⟨A, B, e⟩ := ih
    exact ⟨x :: A, B, fun X => by show x :: c X = _; rw [e]; rfl⟩
  | @app A' H c h ih =>
    obtain ⟨A, B, e⟩ := ih
    exact ⟨A' ++ A, B, fun X => by show A' ++ c X = _; rw [e, List.append_assoc]⟩
theorem Hole.sub (h : Hole C H c) : ∀ x ∈ C, x ∈ H := fun x hx => by
  obtain ⟨A, B, e⟩ := h.split
  rw [h.spec.1, e]
  exact List.mem_append_right _ (List.mem_append_left _ hx)
theorem Hole.upd {b : Nat} {o o' : Obj} {C' : Hp} (h : Hole C H c) (u : Upd b o o' C C') : Upd b o o' H (c C') := by
  obtain ⟨A, B, e⟩ := h.split
  rw [h.spec.1, e, e]
  exact (u.append B).prepend A
theorem SOwn.appH {elem k bytes : Nat} {zero : Value} {v : Value} {rs : List (List Value)} (h : SOwn elem k v rs C) (hh : Hole C H c) {xb : Nat} {r : List Value} {xT : TypeId} {fz : Nat × Nat} {xc : Nat}
    (hx : (xb, Obj.cells r.toArray xT fz) ∈ H) (hr : r.length = k) (h1 : ∀ u ∈ r, u.oneCell' = true) (hz : ∃ z : List Value, zero.cells = z.toArray ∧ z.length = k)
    (hb : (rs.length + 1) * bytes ≤ 140737488355328) (hmax : rs.length + 1 ≤ 9223372036854775807) {K : Value → Hp → Prop}
    (hk : ∀ v' C', SOwn elem k v' (rs ++ [r]) C' → K v' (c C')) : App P elem k bytes zero H v (.slice (some ⟨xb, 0, none⟩) 1 xc) K := by
  obtain ⟨A, B, e⟩ := hh.split
  have e2 := hh.spec.1
  rw [e] at e2
  subst e2
  exact h.app' hx hr h1 hz hb hmax fun v' C' ho => by have := hk v' C' ho; rwa [e] at this
theorem SOwn.putRowH {T : TypeId} {k : Nat} {v : Value} {rs : List (List Value)} (hs : SOwn T k v rs C) (hh : Hole C H c) {i : Nat} {kd : IntKind} {xs : List Value} (hi : i < rs.length) (hx : xs.length = k) (h1 : ∀ x ∈ xs, x.oneCell' = true) {K : Hp → Prop}
    (hk : ∀ C', SOwn T k v (rs.set i xs) C' → K (c C')) : IAddr k v (.int kd (i : Int)) fun p => St k H p (.agg xs.toArray) K := by
  obtain ⟨A, B, e⟩ := hh.split
  have e2 := hh.spec.1
  rw [e] at e2
  subst e2
  exact hs.putRow hi hx h1 fun C' ho => by have := hk C' ho; rwa [e] at this
theorem IOwn.appH {T : TypeId} {kd : IntKind} {v : Value} {l : List Int} {bytes : Nat} (h : IOwn T kd v l C) (hh : Hole C H c) {xb xc : Nat} {x : Int} {xT : TypeId} {fz : Nat × Nat} (hx : (xb, Obj.cells (icells kd [x]) xT fz) ∈ H)
    (hb : (l.length + 1) * bytes ≤ 140737488355328) (hm : l.length + 1 ≤ 9223372036854775807) {K : Value → Hp → Prop} (hk : ∀ v' C', IOwn T kd v' (l ++ [x]) C' → K v' (c C')) : App P T 1 bytes (.int kd 0) H v (.slice (some ⟨xb, 0, none⟩) 1 xc) K := by
  obtain ⟨A, B, e⟩ := hh.split
  have e2 := hh.spec.1
  rw [e] at e2
  subst e2
  exact h.app hx hb hm fun v' C' ho => by have := hk v' C' ho; rwa [e] at this
theorem IOwn.appsH {T : TypeId} {kd : IntKind} {v x : Value} {l l2 : List Int} {bytes : Nat} (h : IOwn T kd v l C) (hh : Hole C H c) (hx : Ints kd H x l2)
    (hb : (l.length + l2.length) * bytes ≤ 140737488355328) (hm : l.length + l2.length ≤ 9223372036854775807) {K : Value → Hp → Prop} (hk : ∀ v' C', IOwn T kd v' (l ++ l2) C' → K v' (c C')) : App P T 1 bytes (.int kd 0) H v x K := by
  obtain ⟨A, B, e⟩ := hh.split
  have e2 := hh.spec.1
  rw [e] at e2
  subst e2
  exact h.apps hx hb hm fun v' C' ho => by have := hk v' C' ho; rwa [e] at this
theorem IOwn.putH {T : TypeId} {kd kd' : IntKind} {v : Value} {l : List Int} (hs : IOwn T kd v l C) (hh : Hole C H c) {i : Nat} {x : Int} (hi : i < l.length) {K : Hp → Prop}
    (hk : ∀ C', IOwn T kd v (l.set i x) C' → K (c C')) : IAddr 1 v (.int kd' (i : Int)) fun p => St 1 H p (.int kd x) K := by
  obtain ⟨A, B, e⟩ := hh.split
  have e2 := hh.spec.1
  rw [e] at e2
  subst e2
  exact hs.put hi fun C' ho => by have := hk C' ho; rwa [e] at this
theorem IOwn.one {T : TypeId} {kd : IntKind} {v : Value} {l : List Int} (h : IOwn T kd v l C) : v.oneCell' = true := by obtain ⟨a, c, e⟩ := SOwn.len h; rw [e]; rfl
theorem iw_set (l : List Nat) (i x : Nat) : (iw l).set i (x : Int) = iw (l.set i x) := by unfold iw; rw [List.map_set]
theorem iw_append (a b : List Nat) : iw (a ++ b) = iw a ++ iw b := by unfold iw; rw [List.map_append]
theorem iw_getD {l : List Nat} {i : Nat} (h : i < l.length) : (iw l)[i]? = some ((l.getD i 0 : Nat) : Int) := by
  rw [iw_get (List.getElem?_eq_getElem h)]; simp [List.getD, List.getElem?_eq_getElem h]
theorem Bin.addI {kd : IntKind} {a b : Nat} {k : Value → Prop} (hr : a + b < lim kd) (h : k (.int kd ((a + b : Nat) : Int))) : Bin .num .add (.int kd (a : Int)) (.int kd (b : Int)) k := Bin.addN hr h
end
end Go.Sx
namespace Go.Sx
open Go
theorem least_of {p : Nat → Prop} (h : ∃ k, p k) : ∃ k, p k ∧ ∀ j, p j → k ≤ j := by
  obtain ⟨k, hk⟩ := h
  induction k using Nat.strongRecOn with
  | _ k ih =>
    by_cases e : ∃ j, j < k ∧ p j
    · obtain ⟨j, hj, hp⟩ := e; exact ih j hj hp
    · exact ⟨k, hk, fun j hp => Nat.le_of_not_lt fun hlt => e ⟨j, hlt, hp⟩⟩
open Classical in
noncomputable def leastK (J : Nat → List Value → Hp → Prop) (vs : List Value) (H : Hp) : Nat := if h : ∃ k, J k vs H then Classical.choose (least_of h) else 0
theorem leastK_le {J : Nat → List Value → Hp → Prop} {vs : List Value} {H : Hp} {k : Nat} (h : J k vs H) : leastK J vs H ≤ k := by
  unfold leastK
  rw [dif_pos ⟨k, h⟩]
  exact (Classical.choose_spec (least_of ⟨k, h⟩)).2 k h
theorem leastK_spec {J : Nat → List Value → Hp → Prop} {vs : List Value} {H : Hp} (h : ∃ k, J k vs H) : J (leastK J vs H) vs H := by
  unfold leastK
  rw [dif_pos h]
  exact (Classical.choose_spec (least_of h)).1
def SomeJ (J : Nat → List Value → Hp → Prop) : List Value → Hp → Prop := fun vs H => ∃ k, J k vs H
theorem SomeJ.open {J : Nat → List Value → Hp → Prop} {vs : List Value} {H : Hp} (h : SomeJ J vs H) : ∃ k, J k vs H ∧ k = leastK J vs H := ⟨_, leastK_spec h, rfl⟩
theorem SomeJ.mk {J : Nat → List Value → Hp → Prop} {vs : List Value} {H : Hp} (k : Nat) (h : J k vs H) : JE (SomeJ J) vs H := JE.mk ⟨k, h⟩
theorem SomeJ.of {J : Nat → List Value → Hp → Prop} {vs : List Value} {H H' : Hp} (e : Ent H H') (k : Nat) (h : J k vs H') : JE (SomeJ J) vs H := JE.of e ⟨k, h⟩
theorem SomeJ.back {J : Nat → List Value → Hp → Prop} {vs vs' : List Value} {H H' H0 : Hp} {k : Nat} (e : Ent H H') (hk : k = leastK J vs H0) (k' : Nat) (h : J k' vs' H') (hlt : k' < k) : Back (SomeJ J) (leastK J) vs' H vs H0 :=
  Back.of e ⟨k', h⟩ (Nat.lt_of_le_of_lt (leastK_le h) (by omega))
theorem loopJ {vs : List Value} {H : Hp} {Q : (List Value → Hp → Prop) → (List Value → Hp → Nat) → Prop} (J : Nat → List Value → Hp → Prop) (k : Nat) (h : J k vs H) (hq : Q (SomeJ J) (leastK J)) :
    ∃ (I : List Value → Hp → Prop) (m : List Value → Hp → Nat), JE I vs H ∧ Q I m := ⟨_, _, SomeJ.mk k h, hq⟩
section
variable {P : Program} {H : Hp}
theorem BuildSl.ints2 {t e : Nat} {kd : IntKind} {x y : Int} {K : Value → Hp → Prop} (h1 : P.underlying t = some (.slice e)) (h2 : sizeD P e = some 1) (h3 : zeroD P e = some (.int kd 0))
    (h : ∀ b, K (.slice (some ⟨b, 0, Option.none⟩) 2 2) ((b, .cells (icells kd [x, y]) e (0, 0)) :: H)) : BuildSl P t 2 [(0, .int kd x), (1, .int kd y)] H K := by
  refine ⟨icells kd [x, y], e, 1, _, h1, h2, h3, by decide, ?_, fun b _ => h b⟩
  have e1 : Array.range (2 * 1) = #[0, 1] := rfl
  simp [Instr.fill, Value.cells, icells, e1]
theorem rows_ints (kd : IntKind) (l : List Int) : rows (l.map fun n => [Value.int kd n]) = icells kd l := by
  unfold rows icells
  congr 1
  induction l with
  | nil => rfl
  | cons x l ih => rw [List.map_cons, List.flatten_cons, ih]; rfl
theorem IOwn.made {T : TypeId} {kd : IntKind} {b : Nat} (l : List Int) : IOwn T kd (.slice (some ⟨b, 0, none⟩) l.length l.length) l [(b, .cells (icells kd l) T (0, 0))] := by
  have := SOwn.mk' (T := T) (k := 1) (b := b) (n := l.length) (c := l.length) (rs := l.map fun n => [Value.int kd n]) (junk := []) (fun r hr => by
    rw [List.append_nil] at hr
    obtain ⟨x, _, rfl⟩ := List.mem_map.1 hr; rfl) (by simp) (by simp)
  rw [List.append_nil, rows_ints] at this
  exact this
end
end Go.Sx
