/- Comparisons with nil, and small facts for walks. -/
import Derived.Test.YtfmikgbachnneaaDoorAm18
set_option linter.unusedSimpArgs false
set_option linter.unusedVariables false
namespace Go.Am
section
variable {P : Program} {t : TypeId} {a b : Operand} {h : H}
theorem vB_ptr_eq_nil {e : TypeId} {x : Addr} (hu : P.underlying t = some (.pointer e)) : vB P .eql t a b (.pointer (some x)) (.pointer none) h = some (.bool false) := by
  unfold vB cEq
  simp only [af, afc, Bool.false_and, Bool.false_eq_true, if_false, hu]
  rfl
theorem vB_ptr_ne_nil {e : TypeId} {x : Addr} (hu : P.underlying t = some (.pointer e)) : vB P .neq t a b (.pointer (some x)) (.pointer none) h = some (.bool true) := by
  unfold vB cEq
  simp only [af, afc, Bool.false_and, Bool.false_eq_true, if_false, hu]
  rfl
theorem vP_min2 {k k' : IntKind} {x y : Int} {ats : Array TypeId} {ty : TypeId} : vP P (.call ⟨.builtin .min, #[.const (.int k x), .const (.int k' y)], ats⟩) ty = some (.int k (min x y)) := by
  have : (if y < x then y else x) = min x y := by omega
  simp only [vP, evPure, opr, List.map_toArray, List.map_cons, List.map_nil, evalConst, Builtin.min_, List.foldlM_cons, List.foldlM_nil, quiet_bind, Builtin.min2, this]
  simp [af, afc, keepAf, quiet, pure]
theorem vP_max2 {k k' : IntKind} {x y : Int} {ats : Array TypeId} {ty : TypeId} : vP P (.call ⟨.builtin .max, #[.const (.int k x), .const (.int k' y)], ats⟩) ty = some (.int k (max x y)) := by
  have : (if y > x then y else x) = max x y := by omega
  simp only [vP, evPure, opr, List.map_toArray, List.map_cons, List.map_nil, evalConst, Builtin.max_, List.foldlM_cons, List.foldlM_nil, quiet_bind, Builtin.max2, this]
  simp [af, afc, keepAf, quiet, pure]
theorem vP_min3 {k k' k'' : IntKind} {x y z : Int} {ats : Array TypeId} {ty : TypeId} : vP P (.call ⟨.builtin .min, #[.const (.int k x), .const (.int k' y), .const (.int k'' z)], ats⟩) ty = some (.int k (min (min x y) z)) := by
  have : ∀ x y : Int, (if y < x then y else x) = min x y := by intro x y; omega
  simp only [vP, evPure, opr, List.map_toArray, List.map_cons, List.map_nil, evalConst, Builtin.min_, List.foldlM_cons, List.foldlM_nil, quiet_bind, Builtin.min2, this]
  simp [af, afc, keepAf, quiet, pure, Builtin.min2, this]
end

section
variable {R : Type} {K : Option R}
theorem same_int {k : IntKind} {n : Int} : same (some (.int k n)) (.int k n) K = K := same_self rfl
theorem same_bool {b : Bool} : same (some (.bool b)) (.bool b) K = K := same_self rfl
theorem same_str {s : ByteArray} : same (some (.string s)) (.string s) K = K := same_self rfl
theorem same_ptr {a : Option Addr} : same (some (.pointer a)) (.pointer a) K = K := same_self rfl
theorem same_slice {a : Option Addr} {l c : Nat} : same (some (.slice a l c)) (.slice a l c) K = K := same_self rfl
theorem same_map {a : Option Nat} : same (some (.map a)) (.map a) K = K := same_self rfl
theorem same_agg {l : List Value} (h : l.all gvc = true) : same (some (.agg l.toArray)) (.agg l.toArray) K = K := same_self (show gv (.agg l.toArray) = true from h)
theorem same_tuple {l : List Value} (h : l.all gvc = true) : same (some (.tuple l.toArray)) (.tuple l.toArray) K = K := same_self (show gv (.tuple l.toArray) = true from h)
end

theorem putL_app : ∀ (vs : List Value) (cs : Array Value) (o : Nat), o + vs.length ≤ cs.size → (putL cs o vs).toList = cs.toList.take o ++ vs ++ cs.toList.drop (o + vs.length)
  | [], cs, o, _ => by simp [putL]
  | v :: vs, cs, o, h => by
    simp only [List.length_cons] at h
    rw [putL, putL_app vs _ _ (by simp; omega)]
    simp only [Array.toList_setIfInBounds, List.length_cons]
    rw [List.take_set, List.drop_set_of_lt (by omega), List.take_succ_eq_append_getElem (by simp; omega)]
    rw [List.set_append_right _ _ (by simp; omega)]
    simp only [List.length_take, Array.length_toList]
    rw [show o - min o cs.size = 0 by omega]
    simp [Nat.add_assoc, Nat.add_comm 1]
theorem putL_all {cs : Array Value} {vs : List Value} (h : cs.size = vs.length) : putL cs 0 vs = vs.toArray := by
  apply Array.ext'
  rw [putL_app vs cs 0 (by omega)]
  simp
  omega
/-- A store of all of a block. -/
theorem stA_all {h : H} {b : Nat} {vs : List Value} {cs : Array Value} {T : TypeId} {k : Kind} (hb : h[b]? = some (.cells cs T k)) (hk : k ≠ .ro) (hl : cs.size = vs.length) :
    stA h b 0 vs = some (undef, h.setIfInBounds b (.cells vs.toArray T k)) := by
  rw [stA_some hb hk (by omega), putL_all hl]

/-! ### closedness -/
theorem clo_ptr {n b o : Nat} (h : b < n) : Clo n (.pointer (some ⟨b, o, none⟩)) := .ptr b o _ h (fun e he => by cases he)
theorem clo_slice {n b o l c : Nat} (h : b < n) : Clo n (.slice (some ⟨b, o, none⟩) l c) := .slice b o l c _ c h (fun e he => by cases he)
theorem clo_map {n b : Nat} (h : b < n) : Clo n (.map (some b)) := .map b b h (fun e he => by cases he)
theorem clo_tuple {n : Nat} {l : List Value} (h : ∀ v ∈ l, Clo n v) : Clo n (.tuple l.toArray) := by
  refine .tuple _ _ ?_
  show VRL noB (· < n) l l
  induction l with
  | nil => exact .nil
  | cons a l ih => exact .cons _ _ _ _ (h a (by simp)) (ih fun v hv => h v (by simp [hv]))
theorem clo_agg {n : Nat} {l : List Value} (h : ∀ v ∈ l, Clo n v) : Clo n (.agg l.toArray) := by
  refine .agg _ _ ?_
  show VRL noB (· < n) l l
  induction l with
  | nil => exact .nil
  | cons a l ih => exact .cons _ _ _ _ (h a (by simp)) (ih fun v hv => h v (by simp [hv]))
theorem clo_cons {n : Nat} {a : Value} {l : List Value} (h1 : Clo n a) (h2 : ∀ v ∈ l, Clo n v) : ∀ v ∈ a :: l, Clo n v := by
  intro v hv
  rcases List.mem_cons.1 hv with rfl | hv
  · exact h1
  · exact h2 v hv
theorem clo_nil {n : Nat} : ∀ v ∈ ([] : List Value), Clo n v := by simp
end Go.Am
