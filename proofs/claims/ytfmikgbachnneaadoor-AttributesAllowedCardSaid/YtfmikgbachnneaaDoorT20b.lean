/- The hooks of this program, and that they are sound. -/
import Derived.Test.YtfmikgbachnneaaDoorT20a
import Derived.Test.YtfmikgbachnneaaDoorAm14
namespace Go.Proofs.YtfmikgbachnneaaDoor
open Go Go.Am
set_option maxRecDepth 100000

def bitsCells : Array Value := #[.int .i64 4, .int .i64 1, .int .i64 2, .int .i64 2, .int .i64 1, .int .i64 4]
def globs : List (Nat × TypeId × Array Value) := [(0, 65, bitsCells)]
def okAll : FuncId → Bool := fun _ => true
def noHooks : Hooks := fun _ => none
def X20 : Hooks := fun f => match f with
  | 8 => some (trueHook globs)
  | _ => none
theorem allOk : (Tryd.prog.funcs.toList.all fun fn => match fn.body with | some c => codeOk Tryd.prog c | none => true) = true := by kernel_rfl
theorem codes (f : FuncId) (fn : Func) (c : Code) (_ : okAll f = true) (hf : Tryd.prog.funcs[f]? = some fn) (hb : fn.body = some c) : codeOk Tryd.prog c = true := by
  have h1 := List.all_eq_true.1 allOk fn (by simpa using Array.mem_of_getElem? hf)
  rw [hb] at h1
  exact h1
theorem sound0 : Sound Tryd.prog okAll noHooks := ⟨by kernel_rfl, codes, fun _ _ h => by cases h⟩
theorem awakeRun : outTrue (evCall Tryd.prog okAll noHooks 100 8 #[] (heapOf Tryd.prog.globals.size globs)) = true := by kernel_rfl
theorem sound : Sound Tryd.prog okAll X20 := ⟨by kernel_rfl, codes, fun f g h => by
  unfold X20 at h
  split at h
  · cases h
    exact trueHook_ok sound0 (by kernel_rfl) awakeRun
  · cases h⟩
noncomputable abbrev C : CallF := evC Tryd.prog okAll X20
theorem into {f : FuncId} {args tmps : Array Value} {h : H} {Q : Value → H → Prop} (hX : X20 f = none) (hb : ((Tryd.prog.funcs[f]?).bind (·.body)).isSome = true)
    (ht : tmps = args ++ Array.replicate (tmpsOf Tryd.prog f - args.size) undef) (he : Run (kCode Tryd.prog C (bodyOf Tryd.prog f) ⟨tmps, []⟩ h (kEnd Tryd.prog f)) Q) : Run (C f args h) Q := by
  obtain ⟨v, g, h1, h2⟩ := he
  exact ⟨v, g, enter hX rfl hb ht h1, h2⟩
/-- The awake function. -/
theorem awake {h : H} (hg : hasGlobals h globs = true) : C 8 #[] h = some (.bool true, h) := by
  refine kFun_some ?_
  have : kFun Tryd.prog okAll X20 8 #[] h = trueHook globs #[] h := rfl
  rw [this]
  simp [trueHook, hg]
end Go.Proofs.YtfmikgbachnneaaDoor
