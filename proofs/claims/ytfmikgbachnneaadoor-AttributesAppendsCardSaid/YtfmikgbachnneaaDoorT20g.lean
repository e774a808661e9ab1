/- This program's functions are in order, and awake runs to true. -/
import Derived.Test.YtfmikgbachnneaaDoorChecked
import Derived.Test.YtfmikgbachnneaaDoorAm17
set_option linter.unusedSimpArgs false
set_option linter.unusedVariables false
namespace Go.Proofs.YtfmikgbachnneaaDoor
open Go Go.Am
set_option maxRecDepth 100000

noncomputable abbrev P := Tryd.prog
def bitsCells : Array Value := #[.int .i64 4, .int .i64 1, .int .i64 2, .int .i64 2, .int .i64 1, .int .i64 4]
def globs : List (Nat × TypeId × Array Value) := [(0, 65, bitsCells)]
def okAll : FuncId → Bool := fun _ => true
def noHooks : Hooks := fun _ => none
/-- Calls that leave nothing behind. -/
def nu20 : FuncId → Bool := fun f => [9, 10, 15, 21, 22, 23, 24, 27, 28, 30, 31, 34, 36, 59, 60, 61, 62, 63, 65, 67, 70, 71, 74].contains f
theorem allOk : (P.funcs.toList.all fun fn => match fn.body with | some c => codeOk P c | none => true) = true := by kernel_rfl
theorem codes (f : FuncId) (fn : Func) (c : Code) (_ : okAll f = true) (hf : P.funcs[f]? = some fn) (hb : fn.body = some c) : codeOk P c = true := by
  have h1 := List.all_eq_true.1 allOk fn (by simpa using Array.mem_of_getElem? hf)
  rw [hb] at h1
  exact h1
theorem sound0 : Sound P okAll noHooks := ⟨by kernel_rfl, codes, fun _ _ h => by cases h⟩
theorem awakeRun : outTrue (evCall P okAll noHooks 100 8 #[] (heapOf P.globals.size globs)) = true := by kernel_rfl
/-- Without the hooks of sorted. -/
def X0 : Hooks := fun f => match f with
  | 8 => some (trueHook globs)
  | _ => none
theorem soundX0 : Sound P okAll X0 := ⟨by kernel_rfl, codes, fun f g h => by
  unfold X0 at h
  split at h
  · cases h
    exact trueHook_ok sound0 (by kernel_rfl) awakeRun
  · cases h⟩
end Go.Proofs.YtfmikgbachnneaaDoor
