/- The law AttributesAllowed. -/
import Derived.Test.YtfmikgbachnneaaDoorT20d
import Derived.Test.YtfmikgbachnneaaDoorCards
import Derived.Test.YtfmikgbachnneaaDoorTie
import Derived.WalkKit
import Derived.ProofKit
import Derived.OpenShut
import Derived.MakeChecks
import Derived.Deep.DeepHandedRow
import Derived.WideKeyArgs
namespace Go.Proofs.YtfmikgbachnneaaDoor
open Go Go.Am Go.ChangeShapes Go.WideShapes Go.ChangeAt Go.RowKit
set_option maxRecDepth 100000

theorem hasG {h : H} (hG : G0 h) : hasGlobals h globs = true := by
  unfold G0 at hG
  simp only [hasGlobals, globs, List.all_cons, List.all_nil, hG, Bool.and_true]
  kernel_rfl
theorem eqb4 {a b : Bool} {h : H} : vB P .eql 4 (.tmp 17) (.tmp 21) (.bool a) (.bool b) h = some (.bool (a == b)) := by cases a <;> cases b <;> kernel_rfl
theorem law_allowed {h : H} {m u g s n : Int} {d : Bool} {cu cg w : Int} {gs : Value} {l : List Int} (hG : G0 h) (hI : Ints h gs l) :
    Run (C 3 #[attrV m u g s n d, credV cu cg gs, .int .i64 w] h) fun v _ => v = .bool true := by
  refine into (tmps := #[attrV m u g s n d, credV cu cg gs, .int .i64 w, undef, undef, undef, undef, undef, undef, undef, undef, undef, undef, undef, undef, undef, undef, undef, undef, undef, undef, undef, undef, undef]) rfl (by kernel_rfl) (by kernel_rfl) ?_
  rw [f3]
  refine run_box rfl fun b3 h1 he1 hb3 hb3' hc3 => ?_
  refine run_box rfl fun b4 h2 he2 hb4 hb4' hc4 => ?_
  have hE := he1.trans he2
  have hc3' := he2.some hc3
  have hG2 : G0 h2 := hE.some hG
  obtain ⟨a, c, hgs⟩ := hI.len
  have c2 : ld h2 b4 (0 + 2) = some gs := by rw [ld_of hc4]; rfl
  rw [fa_26_2, bd1_eq, l24, c2, bd1_eq, hgs, len24, bd1_eq, vP_gtr, bd1_eq]
  refine run_ifV (fun _ => ?_) (fun hlt => ?_)
  · rw [awake (hasG hG2), bd2_eq]
    exact run_some.2 rfl
  · have hs : small l := by
      have : ¬ (40 : Int) < l.length := by simpa using hlt
      unfold small; omega
    rw [awake (hasG hG2), bd2_eq, ifV_true]
    have a3 : ∀ h : H, h[b3]? = some (.cells (attrV m u g s n d).cells 23 .own) → lda h b3 0 6 = some (attrV m u g s n d) := fun h hh => by rw [lda_of hh]; rfl
    have a4 : ∀ h : H, h[b4]? = some (.cells (credV cu cg gs).cells 26 .own) → lda h b4 0 3 = some (credV cu cg gs) := fun h hh => by rw [lda_of hh]; rfl
    simp only [l23, l26, a3 h2 hc3', a4 h2 hc4, bd1_eq, same_eq veq_attr, same_eq (veq_cred hI)]
    refine run_bd2 ((allowed_spec hG2 (hI.ext hE) hs).mono ?_)
    rintro v h4 ⟨rfl, he4⟩
    simp only [l23, l26, a3 h4 (he4.some hc3'), a4 h4 (he4.some hc4), a3 h2 hc3', a4 h2 hc4, bd1_eq, same_eq veq_attr, same_eq (veq_cred hI)]
    refine run_bd2 ((rallowed_spec (hI.ext (hE.trans he4)) hs).mono ?_)
    rintro v h5 ⟨rfl, he5⟩
    rw [eqb4, bd1_eq, same_eq (veq_bool _)]
    exact run_some.2 (by simp)

/-! ### the row -/
theorem own : ownKnob Tryd.prog.godebug = none := by kernel_rfl
theorem laidOut : laidOutB Tryd.prog = true := by kernel_rfl
theorem gBits : Tryd.prog.globalNamed "orpiment/attributes.bits" = some 0 := by kernel_rfl
theorem gBitsType : (Tryd.prog.globals[0]?).map (·.type) = some 65 := by kernel_rfl
theorem bits_block : ∃ zero, (((begin Tryd.prog (fun _ _ => 0) default).world.heap)[0]?).bind Obj.row? = some (zero, 65) := by
  have h : ((((begin Tryd.prog (fun _ _ => 0) default).world.heap)[0]?).bind Obj.row?).map (·.2) = some 65 := by kernel_rfl
  cases hh : ((begin Tryd.prog (fun _ _ => 0) default).world.heap[0]?).bind Obj.row? with
  | none => rw [hh] at h; cases h
  | some p => rw [hh] at h; obtain ⟨z, t⟩ := p; simp only [Option.map_some, Option.some.injEq] at h; subst h; exact ⟨z, rfl⟩
theorem bits_of {W : World} (h : laidMetH Tryd.prog [("orpiment/attributes.bits", Rows.laid_orpiment_attributes_bits)] W) (hS : W.ShapedOpen Tryd.prog) : G0 (canonH Tryd.prog W) := by
  rw [MakeChecks.laidMetH_plain _ _ _ (by kernel_rfl)] at h
  obtain ⟨ps, ⟨g0, t0, cs0, f0, p0, q0, hg0, ht0, hv0, hd0, _⟩, _⟩ := h
  obtain rfl := Option.some.inj (gBits.symm.trans hg0)
  obtain rfl := Option.some.inj (gBitsType.symm.trans ht0)
  obtain ⟨zero, hz⟩ := bits_block
  obtain ⟨cs, hb, _, _⟩ := hS.1 0 zero 65 (of_decide_eq_true (by kernel_rfl)) hz
  have hcs : cs0 = cs := by
    unfold World.var? at hv0
    rw [gBits] at hv0
    simp only [Option.bind_some, hb, Option.some.injEq] at hv0
    exact hv0.symm
  subst hcs
  obtain ⟨xs, m, _, hx, hlen, hn, hel⟩ := DataW.trod_array Tryd.underlying65 hd0
  have c64 : Tryd.prog.cellsOf 64 = 2 := by kernel_rfl
  have c65 : Tryd.prog.cellsOf 65 = 6 := by kernel_rfl
  have c3 : Tryd.prog.cellsOf 3 = 1 := by kernel_rfl
  rw [c65] at hlen
  obtain ⟨cl⟩ := cs0
  match cl, hlen with
  | [a0, a1, a2, a3, a4, a5], _ =>
    have e0 := hel 0 (by decide)
    have e1 := hel 1 (by decide)
    have e2 := hel 2 (by decide)
    rw [c64] at e0 e1 e2
    match xs, hn with
    | [x0, x1, x2], _ =>
      simp only [Prod.mk.injEq, Rows.laid_orpiment_attributes_bits, DataW.agg.injEq, List.map_cons, List.map_nil, List.cons.injEq, and_true] at hx
      have two : ∀ (enc : TypeId × Value → Unit) (sp : Nat → Bool) (hd : Bool) (c d : Value) (x : DataW Unit × List MemPlace) (y z : Int), DataW.trod enc Tryd.prog W 0 sp hd m 64 [c, d] = some x → DataW.agg [.lit (.int .i64 y), .lit (.int .i64 z)] = x.1 → c = .int .i64 y ∧ d = .int .i64 z := by
        intro enc sp hd c d x y z ht hxx
        obtain ⟨y0, y1, n, rfl, _, t0, t1⟩ := trod_struct2 Tryd.underlying64 ht
        simp only [c3] at t0 t1
        obtain ⟨k0, k1, k2, _⟩ := DataW.trod_int Tryd.underlying3 (show DataW.trod enc Tryd.prog W 0 sp hd n 3 [c] = some y0 from t0)
        obtain ⟨l0, l1, l2, _⟩ := DataW.trod_int Tryd.underlying3 (show DataW.trod enc Tryd.prog W 0 sp hd n 3 [d] = some y1 from t1)
        subst k2; subst l2
        simp only [DataW.agg.injEq, List.cons.injEq, DataW.lit.injEq, Lit.int.injEq, true_and, and_true] at hxx
        simp only [List.cons.injEq, and_true] at k1 l1
        rw [k1, l1, hxx.1, hxx.2]
        exact ⟨rfl, rfl⟩
      obtain ⟨rfl, rfl⟩ := two _ _ _ a0 a1 x0 4 1 e0 hx.1.1
      obtain ⟨rfl, rfl⟩ := two _ _ _ a2 a3 x1 2 2 e1 hx.1.2.1
      obtain ⟨rfl, rfl⟩ := two _ _ _ a4 a5 x2 1 4 e2 hx.1.2.2
      unfold G0
      rw [canonH_get hb]
      simp [canonO, canonC_int, bitsCells]
end Go.Proofs.YtfmikgbachnneaaDoor
