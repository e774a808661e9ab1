/- What printed texts name: bodies, places in them, and what stands behind a place. -/
import Derived.Test.YtfmikgbachnneaaDoorAm12
import Derived.KernelRfl
set_option linter.unusedSimpArgs false
set_option linter.unusedVariables false
namespace Go.Am

def bodyOf (P : Program) (f : FuncId) : Code := match (P.funcs[f]?).bind (·.body) with
  | some c => c
  | none => .skip
def resOf (P : Program) (f : FuncId) : List ResultVar := match P.funcs[f]? with
  | some fn => fn.results.toList
  | none => []
def tmpsOf (P : Program) (f : FuncId) : Nat := match P.funcs[f]? with
  | some fn => fn.ntmps
  | none => 0
def codeAt : Code → List Nat → Code
  | .seq x _, 0 :: p => codeAt x p
  | .seq _ y, _ :: p => codeAt y p
  | .cond _ x _, 0 :: p => codeAt x p
  | .cond _ _ y, _ :: p => codeAt y p
  | .block _ c, _ :: p => codeAt c p
  | .scope c, _ :: p => codeAt c p
  | .loop c, _ :: p => codeAt c p
  | c, _ => c
def vL (P : Program) (t : TypeId) (v : Value) (h : H) : Option Value := cLoad P t v h
def kEnd (P : Program) (f : FuncId) : Exit → Act → H → Option (Value × H) := fun e a h => match e with
  | .normal => kRes P a.tmps h (resOf P f) []
  | .ret => kRes P a.tmps h (resOf P f) []
  | _ => none
noncomputable def again {R : Type} (P : Program) (call : CallF) (c : Code) (k : Exit → Act → H → Option R) : Exit → Act → H → Option R := fun e a h => match e with
  | .normal => kCode P call (.loop c) a h k
  | e => k e a h
noncomputable def kPath {R : Type} (P : Program) (call : CallF) : Code → List Nat → (Exit → Act → H → Option R) → (Exit → Act → H → Option R)
  | .seq x y, 0 :: p, k => kPath P call x p fun e a1 h1 => match e with
    | .normal => kCode P call y a1 h1 k
    | e => k e a1 h1
  | .seq _ y, _ :: p, k => kPath P call y p k
  | .cond _ x _, 0 :: p, k => kPath P call x p k
  | .cond _ _ y, _ :: p, k => kPath P call y p k
  | .block id c, _ :: p, k => kPath P call c p fun e a1 h1 => match e with
    | .exit i => match Nat.beq i id with
      | true => k .normal a1 h1
      | false => k (.exit i) a1 h1
    | e => k e a1 h1
  | .scope c, _ :: p, k => kPath P call c p k
  | _, _, k => k

theorem enter {P : Program} {ok : FuncId → Bool} {X : Hooks} {f : FuncId} {args : Array Value} {tmps : Array Value} {h : H} {r : Value × H} (hX : X f = none) (hok : ok f = true) (hb : ((P.funcs[f]?).bind (·.body)).isSome = true)
    (ht : tmps = args ++ Array.replicate (tmpsOf P f - args.size) undef) (he : kCode P (evC P ok X) (bodyOf P f) ⟨tmps, []⟩ h (kEnd P f) = some r) : evC P ok X f args h = some r := by
  refine kFun_some ?_
  unfold kFun
  simp only [hX, hok]
  subst ht
  cases hfn : P.funcs[f]? with
  | none => rw [hfn] at hb; simp at hb
  | some fn =>
    cases hc : fn.body with
    | none => rw [hfn] at hb; simp [hc] at hb
    | some c =>
      have hk : kEnd P f = fun e a h1 => match e with
          | .normal => kRes P a.tmps h1 fn.results.toList []
          | .ret => kRes P a.tmps h1 fn.results.toList []
          | _ => none := by
        funext e a h1
        unfold kEnd resOf
        rw [hfn]
      rw [hk] at he
      simp only [bodyOf, tmpsOf, hfn, Option.bind_some, hc] at he
      simp only [hc]
      exact he
theorem loop_again {R : Type} {P : Program} {call : CallF} {c : Code} {a : Act} {h : H} {k : Exit → Act → H → Option R} {r : R} (he : kCode P call c a h (again P call c k) = some r) : kCode P call (.loop c) a h k = some r := loop_step he
end Go.Am
