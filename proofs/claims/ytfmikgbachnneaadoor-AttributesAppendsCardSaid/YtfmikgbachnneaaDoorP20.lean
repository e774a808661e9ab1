/- Plain laws: masks, bits, permissions. -/
import Derived.Test.YtfmikgbachnneaaDoorAm14
import Derived.IntWalk
set_option linter.unusedSimpArgs false
set_option linter.unusedVariables false
namespace Go.Am
theorem ofInt_wrap (b : BitVec 64) : BitVec.ofInt 64 (IntKind.i64.wrap b.toNat) = b := by
  rw [IntKind.wrap_i64]
  apply BitVec.eq_of_toNat_eq
  have := b.isLt
  simp only [BitVec.toNat_ofInt]
  omega
theorem iand_iand (x y z : Int) : iand .i64 (iand .i64 x y) z = IntKind.i64.wrap (BitVec.ofInt 64 x &&& (BitVec.ofInt 64 y &&& BitVec.ofInt 64 z)).toNat := by
  unfold iand
  show IntKind.i64.wrap (BitVec.ofInt 64 (IntKind.i64.wrap (BitVec.ofInt 64 x &&& BitVec.ofInt 64 y).toNat) &&& BitVec.ofInt 64 z).toNat = _
  rw [ofInt_wrap, BitVec.and_assoc]
theorem and_mask (x : Int) (k : Nat) (hk : k ≤ 62) : iand .i64 x ((2 ^ k - 1 : Nat) : Int) = x % (2 ^ k : Nat) := by
  unfold iand
  show IntKind.i64.wrap ((BitVec.ofInt 64 x &&& BitVec.ofInt 64 ((2 ^ k - 1 : Nat) : Int)).toNat : Int) = _
  have hp : 2 ^ k ≤ 2 ^ 62 := Nat.pow_le_pow_right (by decide) hk
  have hpos : 0 < 2 ^ k := Nat.pow_pos (by decide)
  have e1 : (BitVec.ofInt 64 ((2 ^ k - 1 : Nat) : Int)).toNat = 2 ^ k - 1 := by
    rw [BitVec.toNat_ofInt]
    have : (2:Nat)^62 = 4611686018427387904 := by decide
    omega
  rw [BitVec.toNat_and, e1, Nat.and_two_pow_sub_one_eq_mod, BitVec.toNat_ofInt]
  have hdvd : (2 ^ k : Nat) ∣ 2 ^ 64 := Nat.pow_dvd_pow 2 (by omega)
  have e2 : (((x % ((2 ^ 64 : Nat) : Int)).toNat % 2 ^ k : Nat) : Int) = x % ((2 ^ k : Nat) : Int) := by
    rw [Int.natCast_emod, Int.toNat_of_nonneg (Int.emod_nonneg _ (by decide)), Int.emod_emod_of_dvd _ (Int.natCast_dvd_natCast.2 hdvd)]
  rw [e2]
  have h0 : 0 ≤ x % ((2 ^ k : Nat) : Int) := Int.emod_nonneg _ (by omega)
  have h1 : x % ((2 ^ k : Nat) : Int) < ((2 ^ k : Nat) : Int) := Int.emod_lt_of_pos _ (by omega)
  have : (2:Nat)^62 = 4611686018427387904 := by decide
  exact IntWalk.i64_in _ (by omega)
theorem and_7 (x : Int) : iand .i64 x 7 = x % 8 := and_mask x 3 (by decide)
theorem and_4095 (x : Int) : iand .i64 x 4095 = x % 4096 := and_mask x 12 (by decide)
theorem and_73 (x : Int) : iand .i64 (x % 4096) 73 = iand .i64 x 73 := by
  rw [← and_4095, iand_iand]
  rfl
/-- The access bits of three permission bits. -/
def step1 (c p acc per : Int) : Int := if iand .i64 c per = 0 then p else ior .i64 p acc
def permOf (c : Int) : Int := step1 c (step1 c (step1 c 0 1 4) 2 2) 4 1
def bitsOk (w b : Int) : Bool := (iand .i64 w 1 == 0 || iand .i64 b 4 != 0) && ((iand .i64 w 2 == 0 || iand .i64 b 2 != 0) && (iand .i64 w 4 == 0 || iand .i64 b 1 != 0))
theorem bits_perm : ∀ w c : Fin 8, (iandNot .i64 (w.val : Int) (permOf (c.val : Int)) == 0) = bitsOk (w.val : Int) (c.val : Int) := by decide +kernel
theorem bits_perm' (w c : Int) (hw : 0 ≤ w ∧ w ≤ 7) (hc : 0 ≤ c ∧ c ≤ 7) : (iandNot .i64 w (permOf c) == 0) = bitsOk w c := by
  have := bits_perm ⟨w.toNat, by omega⟩ ⟨c.toNat, by omega⟩
  simpa [Int.toNat_of_nonneg hw.1, Int.toNat_of_nonneg hc.1] using this
theorem root_ok : ∀ w : Fin 8, (iandNot .i64 (w.val : Int) (ior .i64 3 4) == 0) = true := by decide +kernel
theorem root_not : ∀ w : Fin 8, (iandNot .i64 (w.val : Int) 3 == 0) = (iand .i64 (w.val : Int) 4 == 0) := by decide +kernel
theorem root_ok' (w : Int) (hw : 0 ≤ w ∧ w ≤ 7) : (iandNot .i64 w (ior .i64 3 4) == 0) = true := by
  have := root_ok ⟨w.toNat, by omega⟩
  simpa [Int.toNat_of_nonneg hw.1] using this
theorem root_not' (w : Int) (hw : 0 ≤ w ∧ w ≤ 7) : (iandNot .i64 w 3 == 0) = (iand .i64 w 4 == 0) := by
  have := root_not ⟨w.toNat, by omega⟩
  simpa [Int.toNat_of_nonneg hw.1] using this
end Go.Am
