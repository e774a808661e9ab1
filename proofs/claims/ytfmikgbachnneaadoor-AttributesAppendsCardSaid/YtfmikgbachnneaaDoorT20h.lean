/- The hooks of this program, and how a function is entered. -/
import Derived.Test.YtfmikgbachnneaaDoorT20t1
import Derived.Test.YtfmikgbachnneaaDoorT20g
import Derived.Test.YtfmikgbachnneaaDoorT20i
import Derived.Test.YtfmikgbachnneaaDoorT20m
import Derived.IntWalk
set_option linter.unusedSimpArgs false
set_option linter.unusedVariables false
namespace Go.Proofs.YtfmikgbachnneaaDoor
open Go Go.Am Go.Tab20
set_option maxRecDepth 100000

noncomputable abbrev CX (X : Hooks) : CallF := evCG P okAll nu20 X

section
variable {X : Hooks}
/-- A call that leaves nothing behind. -/
theorem intoN {f : FuncId} {args tmps : Array Value} {h : H} {v : Value} (hX : X f = none) (hn : nu20 f = true) (hb : ((P.funcs[f]?).bind (·.body)).isSome = true)
    (ht : tmps = args ++ Array.replicate (tmpsOf P f - args.size) undef) (hv : Clo h.size v) (he : Run (kCode P (CX X) (bodyOf P f) ⟨tmps, []⟩ h (kEnd P f)) fun v' h1 => v' = v ∧ Ext h h1) : CX X f args h = some (v, h) := by
  obtain ⟨v', h1, q1, rfl, q3⟩ := he
  have := enterG (nu := nu20) hX rfl hb ht q1
  rw [hn] at this
  refine this.trans ?_
  show some (v', gc h h1 v') = _
  rw [gc_same q3 hv]
theorem intoM {f : FuncId} {args tmps : Array Value} {h : H} {Q : Value → H → Prop} (hX : X f = none) (hn : nu20 f = false) (hb : ((P.funcs[f]?).bind (·.body)).isSome = true)
    (ht : tmps = args ++ Array.replicate (tmpsOf P f - args.size) undef) (he : Run (kCode P (CX X) (bodyOf P f) ⟨tmps, []⟩ h (kEnd P f)) Q) : Run (CX X f args h) Q := by
  obtain ⟨v', h1, q1, q2⟩ := he
  have := enterG (nu := nu20) hX rfl hb ht q1
  rw [hn] at this
  exact ⟨v', h1, this, q2⟩
end

/-! ### cells -/
def atC (a : At) : Array Value := #[.int .i64 a.m, .int .i64 a.u, .int .i64 a.g, .int .i64 a.s, .int .i64 a.n, .bool a.d]
def bkC (b : Bk) : Array Value := #[.int .i64 b.ob, .int .i64 b.ac, .int .i64 b.de, .bool b.ap, .int .i64 b.off, .int .i64 b.re]

/-- A thing with its identifier, its block and its birth. -/
structure It (α : Type) where
  id : Int
  x : α
  ad : Nat
  bo : Nat
abbrev pn (b : Nat) : Value := .pointer (some ⟨b, 0, none⟩)
def It.ent {α : Type} (i : It α) : Ent := (i.id, pn i.ad, i.bo)
def It.p {α : Type} (i : It α) : Int × α := (i.id, i.x)
/-- The things of a register lie in the heap. -/
structure Reg {α : Type} (h : H) (T : TypeId) (cs : α → Array Value) (l : List (It α)) : Prop where
  mem : ∀ i ∈ l, h[i.ad]? = some (.cells (cs i.x) T .own)
  nd : l.Pairwise fun i j => i.ad ≠ j.ad
/-- Births are below a clock, and no two are one. -/
structure BoOk {α : Type} (l : List (It α)) (c : Nat) : Prop where
  lt : ∀ i ∈ l, i.bo < c
  ne : l.Pairwise fun i j => i.bo ≠ j.bo
structure TabP (h : H) (t : Nat) (T : Tb) (mB mO : Nat) (lB : List (It Bk)) (lO : List (It At)) (cB cO : Nat) : Prop where
  tab : h[t]? = some (.cells #[.map (some mB), .int .i64 T.lb, .map (some mO), .int .i64 T.lo] 78 .own)
  mapB : h[mB]? = some (.map (mkE (lB.map It.ent)) cB .own)
  mapO : h[mO]? = some (.map (mkE (lO.map It.ent)) cO .own)
  ne : mB ≠ mO
  regB : Reg h 39 bkC lB
  regO : Reg h 23 atC lO
  bs : T.bs = lB.map It.p
  os : T.os = lO.map It.p
  boB : BoOk lB cB
  boO : BoOk lO cO

theorem lget_ent {α : Type} (l : List (It α)) (n : Int) : lget (l.map It.ent) n = (l.find? fun i => i.id == n).map fun i => pn i.ad := by
  unfold lget
  rw [List.find?_map]
  simp only [Option.map_map]
  rfl
theorem get_p {α : Type} (l : List (It α)) (n : Int) : Tab20.get (l.map It.p) n = (l.find? fun i => i.id == n).map (·.x) := by
  unfold Tab20.get
  rw [List.find?_map]
  simp only [Option.map_map]
  rfl
theorem get_item {α : Type} {l : List (It α)} {n : Int} {x : α} (h : Tab20.get (l.map It.p) n = some x) : ∃ i ∈ l, i.id = n ∧ i.x = x ∧ lget (l.map It.ent) n = some (pn i.ad) := by
  rw [get_p] at h
  simp only [Option.map_eq_some_iff] at h
  obtain ⟨i, h1, rfl⟩ := h
  refine ⟨i, List.mem_of_find?_eq_some h1, by simpa using List.find?_some h1, rfl, ?_⟩
  rw [lget_ent, h1]; rfl
theorem get_noitem {α : Type} {l : List (It α)} {n : Int} (h : Tab20.get (l.map It.p) n = none) : lget (l.map It.ent) n = none := by
  rw [get_p] at h
  rw [lget_ent]
  simpa using h
theorem u69 : P.underlying 69 = some (.map 3 83) := by kernel_rfl
theorem u74 : P.underlying 74 = some (.map 3 80) := by kernel_rfl
theorem u3 : P.underlying 3 = some (.int .i64) := by kernel_rfl
theorem z83 : zeroAf P 83 = true := by kernel_rfl
theorem z80 : zeroAf P 80 = true := by kernel_rfl
theorem zv83 : ((P.info? 83).bind (·.zero)) = some (.pointer none) := by kernel_rfl
theorem zv80 : ((P.info? 80).bind (·.zero)) = some (.pointer none) := by kernel_rfl
end Go.Proofs.YtfmikgbachnneaaDoor
