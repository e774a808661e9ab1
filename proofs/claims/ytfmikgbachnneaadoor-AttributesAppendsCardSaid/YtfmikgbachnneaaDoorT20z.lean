/- The row and the card of AttributesAppends. -/
import Derived.Test.YtfmikgbachnneaaDoorT20l
set_option linter.unusedSimpArgs false
set_option linter.unusedVariables false
namespace Go.Proofs.YtfmikgbachnneaaDoor
open Go Go.Am Go.ChangeShapes Go.WideShapes Go.ChangeAt Go.RowKit
set_option maxRecDepth 100000
namespace Appends
theorem walk {H₀ : Type} {enc : TypeId × Value → H₀} {W : World} {base : Nat} {v0 v1 : Value} {d1 : DataW H₀} {p1 : List MemPlace} (h0 : Value.okWide Tryd.prog W .any base 2 v0) (h1 : Value.okWide Tryd.prog W .any base 31 v1)
    (ht : DataW.Trod enc Tryd.prog W 0 (fun _ => true) true 31 v1 d1 p1) (hL : laidMetH Tryd.prog [("orpiment/attributes.bits", Rows.laid_orpiment_attributes_bits)] W) (hS : W.ShapedOpen Tryd.prog) :
    Calls Tryd.prog 4 #[v0, v1] W fun e W' => e = .returned (.bool true) ∧ Below W.heap.size W W' := by
  obtain ⟨s, rfl, _⟩ := cell_int Tryd.underlying2 (val_cell h0 (fun fs => by rw [Tryd.underlying2]; simp) (fun n e => by rw [Tryd.underlying2]; simp))
  obtain ⟨fuel, hf⟩ := ht
  have hc1 := val_cell h1 (fun fs => by rw [Tryd.underlying31]; simp) (fun n e => by rw [Tryd.underlying31]; simp)
  have hcs : v1.cells.toList = [v1] ∧ ∀ n, canonV n v1 = canonC n v1 := by
    rcases cell_slice Tryd.underlying31 hc1 with rfl | ⟨b, o, len, cap, cs, T, fr, rfl, _⟩ <;> exact ⟨rfl, fun _ => rfl⟩
  rw [hcs.1] at hf
  obtain ⟨l, hl, hwf⟩ := ints_open Tryd.underlying31 Tryd.underlying5 (by kernel_rfl) hc1 hf
  have hb8 : ∀ x ∈ l, 0 ≤ x ∧ x ≤ 255 := fun x hx => by
    have := hwf x hx
    simp [Lit.wf, IntKind.has] at this
    have hmn : IntKind.u8.min = 0 := by decide +kernel
    have hmx : IntKind.u8.max = 255 := by decide +kernel
    omega
  obtain ⟨v, h', hrun, rfl⟩ := law_appends (s := s) (bits_of hL hS) (roInts_of hl) hb8
  refine law_runG soundX20 (nu := nu20) (v := .bool true) rfl (h1 := h') ?_
  rw [← hrun]
  simp only [CX, List.map_toArray, List.map_cons, List.map_nil, hcs.2, show canonV (hsz Tryd.prog W) (.int .i64 s) = .int .i64 s from rfl]

theorem contract (H : Type) (enc : TypeId × Value → H) (W : World) (base : Nat) (args : Array Value) (ds gs : List (DataW H)) (before : List MemPlace)
    (hval : ∀ (j : Nat) t v, Tryd.f4.params[j]? = some t → args[j]? = some v → Value.okWide Tryd.prog W .any base t v)
    (hW : DataW.Whole enc Tryd.prog Tryd.f4.params.toList Rows.attributesAppendsSpec.vars false W args.toList ds gs before) (hL : laidMetH Tryd.prog Rows.attributesAppendsRow.laid W) (hS : W.ShapedOpen Tryd.prog) :
    Calls Tryd.prog 4 args W fun e W' => ∃ v, e = .returned v ∧ Rows.attributesAppendsSpec.post enc Tryd.prog Tryd.f4 false true false false W args v W' := by
  have hW' := hW
  obtain ⟨p, q, hA0, hV, rfl, hfz, hnd⟩ := hW
  have hA : DataW.TrodAll enc Tryd.prog W 0 (fun _ => true) true Tryd.f4.params.toList args.toList ds p := hA0
  rw [Tryd.params4] at hA hval
  obtain ⟨v0, v1, d0, d1, p0, p1, rfl, rfl, rfl, h0, h1⟩ := trodAll_two hA
  refine (walk (hval 0 2 v0 rfl rfl) (hval 1 31 v1 rfl rfl) h1 hL hS).mono fun e W' ⟨he, hb⟩ => ?_
  subst he
  exact ⟨_, rfl, post_true laidOut Tryd.underlying4 (by kernel_rfl) (by kernel_rfl) rfl rfl hW' hb⟩

noncomputable abbrev wargs : Array Value := #[.int .i64 0, .slice none 0 0]
theorem laid_met (os : Os) : laidMet Tryd.prog Rows.attributesAppendsRow.laid ((laidWorld #[] os).forCall (fun _ _ => 0) ⟨#[], wargs, []⟩).memory :=
  laidMet_of_run' 8 (by kernel_rfl) (by kernel_rfl)
theorem reads (os : Os) {H : Type} (enc : TypeId × Value → H) : ∃ places, DataW.whole enc Tryd.prog ((laidWorld #[] os).forCall (fun _ _ => 0) ⟨#[], wargs, []⟩).memory Tryd.f4.params.toList Rows.attributesAppendsSpec.vars false wargs.toList 8 = some ([.lit (.int .i64 0), .nil], [], places) :=
  ⟨[], by kernel_rfl⟩

theorem lifted (os : Os) (started : os.Started) (H : Type) (enc : TypeId × Value → H) (F : Stop.Interp) :
    ReturnsInHanded {} Tryd.checked os 4 .any ((OpenSpec.ofChange Rows.attributesAppendsSpec).preRow enc Tryd.prog Tryd.f4 Rows.attributesAppendsRow.domain false Rows.attributesAppendsRow.laid) (((OpenSpec.ofChange Rows.attributesAppendsSpec).at F).post enc Tryd.prog Tryd.f4 false true false false) := by
  obtain ⟨places, hx⟩ := reads os enc
  refine returnsInHanded_of_row (C := Tryd.checked) (s := OpenSpec.ofChange Rows.attributesAppendsSpec) own started (by kernel_rfl) Tryd.func4
    (witness_row_at (enc := enc) (C := Tryd.checked) false (laidWorld #[] os) wargs rfl (by kernel_rfl) (by kernel_rfl) (by kernel_rfl)
      (OpenSpec.preRow_of_cond 8 hx (by kernel_rfl) (fun k hk => by cases hk) (by kernel_rfl) (laid_met os))) ?_
  intro W base args ds gs before hval hW _ _ _ hL hS _
  exact contract H enc W base args ds gs before hval hW hL hS

theorem said : Rows.AttributesAppendsSaid :=
  OpenClaim.holds_of_cond 4 Tryd.f4 rfl rfl rfl rfl rfl rfl rfl ⟨rfl, rfl, rfl, rfl, rfl⟩ rfl rfl rfl rfl rfl (by kernel_rfl) Tryd.func4 (by kernel_rfl)
    (of_decide_eq_true (by kernel_rfl)) (by unfold Func.isWrapper; first | (rw [if_pos (by decide +kernel)]; kernel_rfl) | (rw [if_neg (by decide +kernel)]; exact ⟨rfl, rfl⟩))
    (fun os started H enc _ F => by rw [OpenClaim.pre_eq_preRow]; exact lifted os started H enc F)

theorem plain (f : FuncId) (fn : Func) (hf : Tryd.pinned.checked.prog.funcNamed "orpiment/orpimentlaw20.AttributesAppends" = some f) (hfn : Tryd.pinned.checked.prog.funcs[f]? = some fn) :
    false = Tryd.pinned.checked.prog.looks [] ∧ ∀ (j : Nat) t, fn.params[j]? = some t → Tryd.pinned.checked.prog.wantsStandIn t = false := by
  obtain rfl : f = 4 := Option.some.inj ((show Tryd.prog.funcNamed "orpiment/orpimentlaw20.AttributesAppends" = some 4 by kernel_rfl).symm.trans hf) |>.symm
  obtain rfl : fn = Tryd.f4 := (Option.some.inj (Tryd.func4.symm.trans hfn)).symm
  refine ⟨by kernel_rfl, fun j t ht => ?_⟩
  have hm : t ∈ [2, 31] := by
    rw [Tryd.params4] at ht
    simpa using Array.mem_of_getElem? ht
  have hall : ([2, 31].all fun u => !Tryd.prog.wantsStandIn u) = true := by kernel_rfl
  exact (show Tryd.prog.wantsStandIn t = false by simpa using List.all_eq_true.1 hall t hm)
theorem card : Rows.AttributesAppendsCardSaid :=
  Claim7.holds_tied_plain_at .later [] _ _ _ _ said (fun _ h => by cases h) (by kernel_rfl) (fun _ h => by cases h) attributesAppends_row_tie rfl ⟨rfl, rfl⟩ (by kernel_rfl) rfl plain (by kernel_rfl)
#print axioms card
end Appends
end Go.Proofs.YtfmikgbachnneaaDoor
