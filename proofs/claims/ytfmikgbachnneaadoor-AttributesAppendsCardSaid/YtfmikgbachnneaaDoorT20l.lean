/- What the laws' rows of this program have in common. -/
import Derived.Test.YtfmikgbachnneaaDoorT20y
import Derived.Test.YtfmikgbachnneaaDoorCards
import Derived.Test.YtfmikgbachnneaaDoorTie
import Derived.WalkKit
import Derived.ProofKit
import Derived.OpenShut
import Derived.MakeChecks
import Derived.Deep.DeepHandedRow
import Derived.WideKeyArgs
import Derived.Lib.LaidTab
import Derived.SevenTiedAt
import Derived.LaidLaws
set_option linter.unusedSimpArgs false
set_option linter.unusedVariables false
namespace Go.Proofs.YtfmikgbachnneaaDoor
open Go Go.Am Go.ChangeShapes Go.WideShapes Go.ChangeAt Go.RowKit
set_option maxRecDepth 100000
/-! ### the row -/
theorem own : ownKnob Tryd.prog.godebug = none := by kernel_rfl
theorem laidOut : laidOutB Tryd.prog = true := by kernel_rfl
theorem gBits : Tryd.prog.globalNamed "orpiment/attributes.bits" = some 0 := by kernel_rfl
theorem gBitsType : (Tryd.prog.globals[0]?).map (·.type) = some 65 := by kernel_rfl
theorem bits_block : ∃ zero, (((begin Tryd.prog (fun _ _ => 0) default).world.heap)[0]?).bind Obj.row? = some (zero, 65) := by
  have h : ((((begin Tryd.prog (fun _ _ => 0) default).world.heap)[0]?).bind Obj.row?).map (·.2) = some 65 := by kernel_rfl
  cases hh : ((begin Tryd.prog (fun _ _ => 0) default).world.heap[0]?).bind Obj.row? with
  | none => rw [hh] at h; cases h
  | some p => rw [hh] at h; obtain ⟨z, t⟩ := p; simp only [Option.map_some, Option.some.injEq] at h; subst h; exact ⟨z, rfl⟩
theorem bits_of {W : World} (h : laidMetH Tryd.prog [("orpiment/attributes.bits", Rows.laid_orpiment_attributes_bits)] W) (hS : W.ShapedOpen Tryd.prog) : G0 (canonH Tryd.prog W) := by
  rw [MakeChecks.laidMetH_plain _ _ _ (by kernel_rfl)] at h
  obtain ⟨ps, ⟨g0, t0, cs0, f0, p0, q0, hg0, ht0, hv0, hd0, _⟩, _⟩ := h
  obtain rfl := Option.some.inj (gBits.symm.trans hg0)
  obtain rfl := Option.some.inj (gBitsType.symm.trans ht0)
  obtain ⟨zero, hz⟩ := bits_block
  obtain ⟨cs, hb, _, _⟩ := hS.1 0 zero 65 (of_decide_eq_true (by kernel_rfl)) hz
  have hcs : cs0 = cs := by
    unfold World.var? at hv0
    rw [gBits] at hv0
    simp only [Option.bind_some, hb, Option.some.injEq] at hv0
    exact hv0.symm
  subst hcs
  obtain ⟨xs, m, _, hx, hlen, hn, hel⟩ := DataW.trod_array Tryd.underlying65 hd0
  have c64 : Tryd.prog.cellsOf 64 = 2 := by kernel_rfl
  have c65 : Tryd.prog.cellsOf 65 = 6 := by kernel_rfl
  have c3 : Tryd.prog.cellsOf 3 = 1 := by kernel_rfl
  rw [c65] at hlen
  obtain ⟨cl⟩ := cs0
  match cl, hlen with
  | [a0, a1, a2, a3, a4, a5], _ =>
    have e0 := hel 0 (by decide)
    have e1 := hel 1 (by decide)
    have e2 := hel 2 (by decide)
    rw [c64] at e0 e1 e2
    match xs, hn with
    | [x0, x1, x2], _ =>
      simp only [Prod.mk.injEq, Rows.laid_orpiment_attributes_bits, DataW.agg.injEq, List.map_cons, List.map_nil, List.cons.injEq, and_true] at hx
      have two : ∀ (enc : TypeId × Value → Unit) (sp : Nat → Bool) (hd : Bool) (c d : Value) (x : DataW Unit × List MemPlace) (y z : Int), DataW.trod enc Tryd.prog W 0 sp hd m 64 [c, d] = some x → DataW.agg [.lit (.int .i64 y), .lit (.int .i64 z)] = x.1 → c = .int .i64 y ∧ d = .int .i64 z := by
        intro enc sp hd c d x y z ht hxx
        obtain ⟨y0, y1, n, rfl, _, t0, t1⟩ := trod_struct2 Tryd.underlying64 ht
        simp only [c3] at t0 t1
        obtain ⟨k0, k1, k2, _⟩ := DataW.trod_int Tryd.underlying3 (show DataW.trod enc Tryd.prog W 0 sp hd n 3 [c] = some y0 from t0)
        obtain ⟨l0, l1, l2, _⟩ := DataW.trod_int Tryd.underlying3 (show DataW.trod enc Tryd.prog W 0 sp hd n 3 [d] = some y1 from t1)
        subst k2; subst l2
        simp only [DataW.agg.injEq, List.cons.injEq, DataW.lit.injEq, Lit.int.injEq, true_and, and_true] at hxx
        simp only [List.cons.injEq, and_true] at k1 l1
        rw [k1, l1, hxx.1, hxx.2]
        exact ⟨rfl, rfl⟩
      obtain ⟨rfl, rfl⟩ := two _ _ _ a0 a1 x0 4 1 e0 hx.1.1
      obtain ⟨rfl, rfl⟩ := two _ _ _ a2 a3 x1 2 2 e1 hx.1.2.1
      obtain ⟨rfl, rfl⟩ := two _ _ _ a4 a5 x2 1 4 e2 hx.1.2.2
      unfold G0
      rw [canonH_get hb]
      simp [canonO, canonC_int, bitsCells]
theorem trodAll_stays {H : Type} {enc : TypeId × Value → H} {P : Program} {W W' : World} {sp : Nat → Bool} (hl : laidOutB P = true) (hsame : ∀ p : MemPlace, p.block < W.heap.size → W.sameAt W' p) :
    ∀ {ts : List TypeId} {vs : List Value} {ds : List (DataW H)} {ps : List MemPlace}, (ts.all fun t => P.readableRec t && decide (t < P.types.size)) = true → DataW.TrodAll enc P W 0 (fun _ => true) true ts vs ds ps →
      (∀ p ∈ ps, p.block < W.heap.size) → (∀ p ∈ ps, sp p.block = true) → DataW.TrodAll enc P W' 0 sp true ts vs ds ps
  | [], vs, ds, ps, _, h, _, _ => by
    obtain ⟨rfl, rfl, rfl⟩ := trodAll_nil h
    exact trodAll_mk0
  | t :: ts, vs, ds, ps, hr, h, hlt, hsp => by
    obtain ⟨v, vs', d, ds', p, q, rfl, rfl, rfl, h1, h2⟩ := trodAll_cons h
    simp only [List.all_cons, Bool.and_eq_true, decide_eq_true_eq] at hr
    exact trodAll_cons_mk (WideElems.Trod_stays hl hr.1.1 hr.1.2 h1 (fun x hx => hsame x (hlt x (by simp [hx]))) (fun x hx => hsp x (by simp [hx])))
      (trodAll_stays hl hsame hr.2 h2 (fun x hx => hlt x (by simp [hx])) (fun x hx => hsp x (by simp [hx])))

/-- What a walk to 'true' with all old blocks as they were gives a row that says so. -/
theorem post_true {H : Type} {enc : TypeId × Value → H} {P : Program} {fn : Func} {s : ChangeSpec} {W W' : World} {args : Array Value} {ds gs : List (DataW H)} {before : List MemPlace} (hl : laidOutB P = true) {u : TypeId} (hu : P.underlying u = some .bool) (hres : fn.resultTypes = #[u])
    (hr : (fn.params.toList.all fun t => P.readableRec t && decide (t < P.types.size)) = true) (hvars : s.vars = []) (hfn : s.fn H ds = { results := [.lit (.bool true)], args := ds })
    (hW : DataW.Whole enc P fn.params.toList s.vars false W args.toList ds gs before) (hb : Below W.heap.size W W') : s.post enc P fn false true false false W args (.bool true) W' := by
  have hW' := hW
  obtain ⟨p, q, hA, hV, rfl, hfz, hnd⟩ := hW
  rw [hvars] at hV
  obtain ⟨rfl, rfl⟩ := trodVars_none hV
  have hlt := hW'.lt
  have hold : ∀ x ∈ p ++ [], (fun b => decide (b < W.heap.size)) x.block = true := fun x hx => by simpa using hlt x hx
  refine ⟨ds, [], p ++ [], [], p, [], hW', ?_, ?_, ?_, World.keptBut_mono (fun x hx => ⟨hx, Or.inr (by simpa using hx)⟩) (hb.frame _), fun h => by cases h⟩
  · rw [List.append_nil, hfn, hres]
    exact trodAll_mk1 (shut_bool hu _)
  · rw [List.append_nil, hfn]
    exact trodAll_stays hl (fun p hp => hb.same hp) hr hA (fun x hx => hlt x (by simp [hx])) (fun x hx => hold x (by simp [hx]))
  · rw [List.append_nil, hfn, hvars]; rfl


/-- A world for a witness: the settled one, the table holding what its initialiser lays. -/
noncomputable def laidWorld (args : Array Value) (os : Os) : World :=
  { World.holding Tryd.prog os ⟨#[], args, []⟩ with heap := (World.holding Tryd.prog os ⟨#[], args, []⟩).heap.modify 0 fun
      | .cells _ t frozen => .cells bitsCells t frozen
      | o => o }
/-- All blocks of a read-only copy are read-only. -/
theorem canon_kind {W : World} {b : Nat} {cs : Array Value} {T : TypeId} {k : Kind} (h : (canonH Tryd.prog W)[b]? = some (.cells cs T k)) : k = .ro := by
  cases hw : W.heap[b]? with
  | none =>
    unfold canonH at h
    rw [Array.getElem?_append] at h
    split at h
    · rw [Array.getElem?_map, hw] at h; cases h
    · rw [Array.getElem?_replicate] at h
      split at h <;> cases h
  | some o =>
    rw [canonH_get hw] at h
    cases o <;> simp only [canonO, Option.some.injEq] at h <;> cases h
    rfl
theorem roInts_of {W : World} {k : IntKind} {v : Value} {l : List Int} (h : IntsK k (canonH Tryd.prog W) v l) : RoInts k (canonH Tryd.prog W) v l := by
  rcases h with q | ⟨b, o, c, cs, T, kd, q1, q2, q3⟩
  · exact .inl q
  · have := canon_kind q2
    subst this
    exact .inr ⟨b, o, c, cs, T, q1, q2, q3⟩
end Go.Proofs.YtfmikgbachnneaaDoor
