/- Proved: for every input the function AttributesAllowed answers true and its arguments read behind the call as before; the condition is the card of the row: the table attributes.bits holds what the program text lays. -/
import Derived.Test.YtfmikgbachnneaaDoorT20e
import Derived.Lib.LaidTab
import Derived.SevenTiedAt
import Derived.LaidLaws
namespace Go.Proofs.YtfmikgbachnneaaDoor
open Go Go.Am Go.ChangeShapes Go.WideShapes Go.ChangeAt Go.RowKit
set_option maxRecDepth 100000

theorem trodAll_stays {H : Type} {enc : TypeId × Value → H} {P : Program} {W W' : World} {sp : Nat → Bool} (hl : laidOutB P = true) (hsame : ∀ p : MemPlace, p.block < W.heap.size → W.sameAt W' p) :
    ∀ {ts : List TypeId} {vs : List Value} {ds : List (DataW H)} {ps : List MemPlace}, (ts.all fun t => P.readableRec t && decide (t < P.types.size)) = true → DataW.TrodAll enc P W 0 (fun _ => true) true ts vs ds ps →
      (∀ p ∈ ps, p.block < W.heap.size) → (∀ p ∈ ps, sp p.block = true) → DataW.TrodAll enc P W' 0 sp true ts vs ds ps
  | [], vs, ds, ps, _, h, _, _ => by
    obtain ⟨rfl, rfl, rfl⟩ := trodAll_nil h
    exact trodAll_mk0
  | t :: ts, vs, ds, ps, hr, h, hlt, hsp => by
    obtain ⟨v, vs', d, ds', p, q, rfl, rfl, rfl, h1, h2⟩ := trodAll_cons h
    simp only [List.all_cons, Bool.and_eq_true, decide_eq_true_eq] at hr
    exact trodAll_cons_mk (WideElems.Trod_stays hl hr.1.1 hr.1.2 h1 (fun x hx => hsame x (hlt x (by simp [hx]))) (fun x hx => hsp x (by simp [hx])))
      (trodAll_stays hl hsame hr.2 h2 (fun x hx => hlt x (by simp [hx])) (fun x hx => hsp x (by simp [hx])))

/-- What a walk to 'true' with all old blocks as they were gives a row that says so. -/
theorem post_true {H : Type} {enc : TypeId × Value → H} {P : Program} {fn : Func} {s : ChangeSpec} {W W' : World} {args : Array Value} {ds gs : List (DataW H)} {before : List MemPlace} (hl : laidOutB P = true) {u : TypeId} (hu : P.underlying u = some .bool) (hres : fn.resultTypes = #[u])
    (hr : (fn.params.toList.all fun t => P.readableRec t && decide (t < P.types.size)) = true) (hvars : s.vars = []) (hfn : s.fn H ds = { results := [.lit (.bool true)], args := ds })
    (hW : DataW.Whole enc P fn.params.toList s.vars false W args.toList ds gs before) (hb : Below W.heap.size W W') : s.post enc P fn false true false false W args (.bool true) W' := by
  have hW' := hW
  obtain ⟨p, q, hA, hV, rfl, hfz, hnd⟩ := hW
  rw [hvars] at hV
  obtain ⟨rfl, rfl⟩ := trodVars_none hV
  have hlt := hW'.lt
  have hold : ∀ x ∈ p ++ [], (fun b => decide (b < W.heap.size)) x.block = true := fun x hx => by simpa using hlt x hx
  refine ⟨ds, [], p ++ [], [], p, [], hW', ?_, ?_, ?_, World.keptBut_mono (fun x hx => ⟨hx, Or.inr (by simpa using hx)⟩) (hb.frame _), fun h => by cases h⟩
  · rw [List.append_nil, hfn, hres]
    exact trodAll_mk1 (shut_bool hu _)
  · rw [List.append_nil, hfn]
    exact trodAll_stays hl (fun p hp => hb.same hp) hr hA (fun x hx => hlt x (by simp [hx])) (fun x hx => hold x (by simp [hx]))
  · rw [List.append_nil, hfn, hvars]; rfl

namespace Allowed
theorem ct23 : Tryd.prog.cellTypes Tryd.prog.depth 23 = some [3, 3, 3, 2, 3, 4] := by kernel_rfl
theorem ct26 : Tryd.prog.cellTypes Tryd.prog.depth 26 = some [3, 3, 24] := by kernel_rfl
/-- A struct of attributes. -/
theorem attr_open {W : World} {base : Nat} {v : Value} (h : Value.okWide Tryd.prog W .any base 23 v) : ∃ m u g s n d, v = attrV m u g s n d := by
  obtain ⟨cs, rfl, hsz, hc⟩ := val_struct Tryd.underlying23 ct23 h
  rw [show Tryd.prog.cellsOf 23 = 6 by kernel_rfl] at hsz
  obtain ⟨l⟩ := cs
  match l, hsz with
  | [c0, c1, c2, c3, c4, c5], _ =>
    obtain ⟨u0, e0, k0⟩ := hc 0 c0 rfl
    obtain ⟨u1, e1, k1⟩ := hc 1 c1 rfl
    obtain ⟨u2, e2, k2⟩ := hc 2 c2 rfl
    obtain ⟨u3, e3, k3⟩ := hc 3 c3 rfl
    obtain ⟨u4, e4, k4⟩ := hc 4 c4 rfl
    obtain ⟨u5, e5, k5⟩ := hc 5 c5 rfl
    cases e0; cases e1; cases e2; cases e3; cases e4; cases e5
    obtain ⟨m, rfl, _⟩ := cell_int Tryd.underlying3 k0
    obtain ⟨u, rfl, _⟩ := cell_int Tryd.underlying3 k1
    obtain ⟨g, rfl, _⟩ := cell_int Tryd.underlying3 k2
    obtain ⟨s, rfl, _⟩ := cell_int Tryd.underlying2 k3
    obtain ⟨n, rfl, _⟩ := cell_int Tryd.underlying3 k4
    obtain ⟨d, rfl⟩ := cell_bool Tryd.underlying4 k5
    exact ⟨m, u, g, s, n, d, rfl⟩
theorem cred_open {H₀ : Type} {enc : TypeId × Value → H₀} {W : World} {base : Nat} {v : Value} {d : DataW H₀} {p : List MemPlace} (h : Value.okWide Tryd.prog W .any base 26 v) (ht : DataW.Trod enc Tryd.prog W 0 (fun _ => true) true 26 v d p) :
    ∃ u g gs l, v = .agg #[.int .i64 u, .int .i64 g, gs] ∧ Ints (canonH Tryd.prog W) (canonC (hsz Tryd.prog W) gs) l := by
  obtain ⟨cs, rfl, hsz, hc⟩ := val_struct Tryd.underlying26 ct26 h
  rw [show Tryd.prog.cellsOf 26 = 3 by kernel_rfl] at hsz
  obtain ⟨l⟩ := cs
  match l, hsz with
  | [c0, c1, c2], _ =>
    obtain ⟨u0, e0, k0⟩ := hc 0 c0 rfl
    obtain ⟨u1, e1, k1⟩ := hc 1 c1 rfl
    obtain ⟨u2, e2, k2⟩ := hc 2 c2 rfl
    cases e0; cases e1; cases e2
    obtain ⟨u, rfl, _⟩ := cell_int Tryd.underlying3 k0
    obtain ⟨g, rfl, _⟩ := cell_int Tryd.underlying3 k1
    obtain ⟨fuel, hf⟩ := ht
    obtain ⟨xs, n, _, _, _, hlen, hg⟩ := DataW.trod_struct Tryd.underlying26 hf
    have h2 : DataW.trod enc Tryd.prog W 0 (fun _ => true) true n 24 ((([.int .i64 u, .int .i64 g, c2] : List Value).drop 2).take (Tryd.prog.cellsOf 24)) = xs[2]? := hg 2 _ rfl
    rw [show Tryd.prog.cellsOf 24 = 1 by kernel_rfl] at h2
    match xs, hlen with
    | [x0, x1, x2], _ =>
      obtain ⟨l, hl, _⟩ := ints_open Tryd.underlying24 Tryd.underlying3 (by kernel_rfl) k2 (show DataW.trod enc Tryd.prog W 0 (fun _ => true) true n 24 [c2] = some x2 from h2)
      exact ⟨u, g, c2, l, rfl, hl⟩

theorem walk {H₀ : Type} {enc : TypeId × Value → H₀} {W : World} {base : Nat} {v0 v1 v2 : Value} {d1 : DataW H₀} {p1 : List MemPlace} (h0 : Value.okWide Tryd.prog W .any base 23 v0) (h1 : Value.okWide Tryd.prog W .any base 26 v1) (h2 : Value.okWide Tryd.prog W .any base 3 v2)
    (ht : DataW.Trod enc Tryd.prog W 0 (fun _ => true) true 26 v1 d1 p1) (hL : laidMetH Tryd.prog [("orpiment/attributes.bits", Rows.laid_orpiment_attributes_bits)] W) (hS : W.ShapedOpen Tryd.prog) :
    Calls Tryd.prog 3 #[v0, v1, v2] W fun e W' => e = .returned (.bool true) ∧ Below W.heap.size W W' := by
  obtain ⟨m, u, g, s, n, d, rfl⟩ := attr_open h0
  obtain ⟨cu, cg, gs, l, rfl, hI⟩ := cred_open h1 ht
  obtain ⟨w, rfl, _⟩ := cell_int Tryd.underlying3 (val_cell h2 (fun fs => by rw [Tryd.underlying3]; simp) (fun n e => by rw [Tryd.underlying3]; simp))
  obtain ⟨v, h', hrun, rfl⟩ := law_allowed (m := m) (u := u) (g := g) (s := s) (n := n) (d := d) (cu := cu) (cg := cg) (w := w) (bits_of hL hS) hI
  refine law_run' sound (v := .bool true) rfl (h1 := h') ?_
  rw [← hrun]
  congr 1
  simp [attrV, credV, canonV, canonC_int, canonC_bool]

theorem contract (H : Type) (enc : TypeId × Value → H) (W : World) (base : Nat) (args : Array Value) (ds gs : List (DataW H)) (before : List MemPlace)
    (hval : ∀ (j : Nat) t v, Tryd.f3.params[j]? = some t → args[j]? = some v → Value.okWide Tryd.prog W .any base t v)
    (hW : DataW.Whole enc Tryd.prog Tryd.f3.params.toList Rows.attributesAllowedSpec.vars false W args.toList ds gs before) (hL : laidMetH Tryd.prog Rows.attributesAllowedRow.laid W) (hS : W.ShapedOpen Tryd.prog) :
    Calls Tryd.prog 3 args W fun e W' => ∃ v, e = .returned v ∧ Rows.attributesAllowedSpec.post enc Tryd.prog Tryd.f3 false true false false W args v W' := by
  have hW' := hW
  obtain ⟨p, q, hA0, hV, rfl, hfz, hnd⟩ := hW
  have hA : DataW.TrodAll enc Tryd.prog W 0 (fun _ => true) true Tryd.f3.params.toList args.toList ds p := hA0
  rw [Tryd.params3] at hA hval
  obtain ⟨v0, v1, v2, d0, d1, d2, p0, p1, p2, rfl, rfl, rfl, h0, h1, h2⟩ := trodAll_three hA
  refine (walk (hval 0 23 v0 rfl rfl) (hval 1 26 v1 rfl rfl) (hval 2 3 v2 rfl rfl) h1 hL hS).mono fun e W' ⟨he, hb⟩ => ?_
  subst he
  exact ⟨_, rfl, post_true laidOut Tryd.underlying4 (by kernel_rfl) (by kernel_rfl) rfl rfl hW' hb⟩

/-- A world for the witness: the settled one, the table holding what its initialiser lays. -/
noncomputable def laidWorld (os : Os) : World :=
  { World.holding Tryd.prog os ⟨#[], #[], []⟩ with heap := (World.holding Tryd.prog os ⟨#[], #[], []⟩).heap.modify 0 fun
      | .cells _ t frozen => .cells bitsCells t frozen
      | o => o }
noncomputable abbrev wargs : Array Value := #[.agg #[.int .i64 0, .int .i64 0, .int .i64 0, .int .i64 0, .int .i64 0, .bool false], .agg #[.int .i64 0, .int .i64 0, .slice none 0 0], .int .i64 0]
theorem laid_met (os : Os) : laidMet Tryd.prog Rows.attributesAllowedRow.laid ((laidWorld os).forCall (fun _ _ => 0) ⟨#[], wargs, []⟩).memory :=
  laidMet_of_run' 8 (by kernel_rfl) (by kernel_rfl)
theorem reads (os : Os) {H : Type} (enc : TypeId × Value → H) : ∃ places, DataW.whole enc Tryd.prog ((laidWorld os).forCall (fun _ _ => 0) ⟨#[], wargs, []⟩).memory Tryd.f3.params.toList Rows.attributesAllowedSpec.vars false wargs.toList 8 = some ([.agg [.lit (.int .i64 0), .lit (.int .i64 0), .lit (.int .i64 0), .lit (.int .i64 0), .lit (.int .i64 0), .lit (.bool false)], .agg [.lit (.int .i64 0), .lit (.int .i64 0), .nil], .lit (.int .i64 0)], [], places) :=
  ⟨[], by kernel_rfl⟩

theorem lifted (os : Os) (started : os.Started) (H : Type) (enc : TypeId × Value → H) (F : Stop.Interp) :
    ReturnsInHanded {} Tryd.checked os 3 .any ((OpenSpec.ofChange Rows.attributesAllowedSpec).preRow enc Tryd.prog Tryd.f3 Rows.attributesAllowedRow.domain false Rows.attributesAllowedRow.laid) (((OpenSpec.ofChange Rows.attributesAllowedSpec).at F).post enc Tryd.prog Tryd.f3 false true false false) := by
  obtain ⟨places, hx⟩ := reads os enc
  refine returnsInHanded_of_row (C := Tryd.checked) (s := OpenSpec.ofChange Rows.attributesAllowedSpec) own started (by kernel_rfl) Tryd.func3
    (witness_row_at (enc := enc) (C := Tryd.checked) false (laidWorld os) wargs rfl (by kernel_rfl) (by kernel_rfl) (by kernel_rfl)
      (OpenSpec.preRow_of_cond 8 hx (by kernel_rfl) (fun k hk => by cases hk) (by kernel_rfl) (laid_met os))) ?_
  intro W base args ds gs before hval hW _ _ _ hL hS _
  exact contract H enc W base args ds gs before hval hW hL hS

theorem said : Rows.AttributesAllowedSaid :=
  OpenClaim.holds_of_cond 3 Tryd.f3 rfl rfl rfl rfl rfl rfl rfl ⟨rfl, rfl, rfl, rfl, rfl⟩ rfl rfl rfl rfl rfl (by kernel_rfl) Tryd.func3 (by kernel_rfl)
    (of_decide_eq_true (by kernel_rfl)) (by unfold Func.isWrapper; first | (rw [if_pos (by decide +kernel)]; kernel_rfl) | (rw [if_neg (by decide +kernel)]; exact ⟨rfl, rfl⟩))
    (fun os started H enc _ F => by rw [OpenClaim.pre_eq_preRow]; exact lifted os started H enc F)

theorem plain (f : FuncId) (fn : Func) (hf : Tryd.pinned.checked.prog.funcNamed "orpiment/orpimentlaw20.AttributesAllowed" = some f) (hfn : Tryd.pinned.checked.prog.funcs[f]? = some fn) :
    false = Tryd.pinned.checked.prog.looks [] ∧ ∀ (j : Nat) t, fn.params[j]? = some t → Tryd.pinned.checked.prog.wantsStandIn t = false := by
  obtain rfl : f = 3 := Option.some.inj ((show Tryd.prog.funcNamed "orpiment/orpimentlaw20.AttributesAllowed" = some 3 by kernel_rfl).symm.trans hf) |>.symm
  obtain rfl : fn = Tryd.f3 := (Option.some.inj (Tryd.func3.symm.trans hfn)).symm
  refine ⟨by kernel_rfl, fun j t ht => ?_⟩
  have hm : t ∈ [23, 26, 3] := by
    rw [Tryd.params3] at ht
    simpa using Array.mem_of_getElem? ht
  have hall : ([23, 26, 3].all fun u => !Tryd.prog.wantsStandIn u) = true := by kernel_rfl
  exact (show Tryd.prog.wantsStandIn t = false by simpa using List.all_eq_true.1 hall t hm)
theorem card : Rows.AttributesAllowedCardSaid :=
  Claim7.holds_tied_plain_at .later [] _ _ _ _ said (fun _ h => by cases h) (by kernel_rfl) (fun _ h => by cases h) attributesAllowed_row_tie rfl ⟨rfl, rfl⟩ (by kernel_rfl) rfl plain (by kernel_rfl)
#print axioms card
end Allowed
end Go.Proofs.YtfmikgbachnneaaDoor
