/- The identifiers of a register's things, in order; objects that go. -/
import Derived.Test.YtfmikgbachnneaaDoorT20a2
set_option linter.unusedSimpArgs false
set_option linter.unusedVariables false
namespace Go.Proofs.YtfmikgbachnneaaDoor
open Go Go.Am Go.Tab20
set_option maxRecDepth 100000

open Classical in
/-- The keys of the entries for which a closure answers true, and changes nothing, in the heap and wherever more lies behind it. -/
noncomputable def selIds (C0 : CallF) (g : FuncId) (ca : Array Value) (h : H) : List MapEntry → Option (List Int)
  | [] => some []
  | e :: es => match e.key with
    | .int .i64 n =>
      if ∀ h', Ext h h' → C0 g (#[e.val] ++ ca) h' = some (.bool true, h') then (selIds C0 g ca h es).map (n :: ·)
      else if ∀ h', Ext h h' → C0 g (#[e.val] ++ ca) h' = some (.bool false, h') then selIds C0 g ca h es else none
    | _ => none
/-- Births are below the clock, and no two are one. -/
def BornOk (es : Array MapEntry) (c : Nat) : Prop := (∀ e ∈ es.toList, e.born < c) ∧ es.toList.Pairwise fun e f => e.born ≠ f.born
def intC (l : List Int) : Array Value := (l.map fun n => Value.int .i64 n).toArray
def sortedRes (h : H) (l : List Int) : Value × H := match l with
  | [] => (.slice none 0 0, h)
  | _ => (.slice (some ⟨h.size, 0, none⟩) l.length l.length, h.push (.cells (intC l) 3 .grown))
open Classical in
noncomputable def sortedHook (C0 : CallF) : Array Value → H → Option (Value × H) := fun args h => match args.toList with
  | [.pointer (some ⟨b, o, none⟩), .func (.func g) fi ca] => match fi.toList with
    | [] => match ld1 h[b]? o with
      | some (.map (some m)) => match h[m]? with
        | some (.map es c _) => if BornOk es c ∧ callable P g = true ∧ es.size ≤ 1000000 then (selIds C0 g ca h es.toList).map fun ids => sortedRes h (ids.mergeSort fun a b => decide (a ≤ b)) else none
        | _ => none
      | _ => none
    | _ => none
  | _ => none
/-- The hooks. -/
noncomputable def X20 : Hooks := fun f => match f with
  | 8 => some (trueHook globs)
  | 32 => some (sortedHook (CX X0))
  | 58 => some (sortedHook (CX X0))
  | _ => none
theorem free20 : freeX X20 := by
  intro f h8 h32 h58 _
  unfold X20
  split <;> first | (exfalso; first | exact h8 rfl | exact h32 rfl | exact h58 rfl) | rfl
theorem free0 : freeX X0 := by
  intro f h8 h32 h58 _
  unfold X0
  split <;> first | (exfalso; exact h8 rfl) | rfl
theorem selIds_of {α : Type} {C0 : CallF} {g : FuncId} {ca : Array Value} {h : H} {q : It α → Bool} : ∀ {l : List (It α)}, (∀ i ∈ l, ∀ h', Ext h h' → C0 g (#[pn i.ad] ++ ca) h' = some (.bool (q i), h')) → selIds C0 g ca h ((l.map It.ent).map mkE1) = some ((l.filter q).map (·.id))
  | [], _ => rfl
  | i :: l, hq => by
    have ih := selIds_of (fun j hj => hq j (List.mem_cons_of_mem _ hj))
    have h1 := hq i (by simp)
    simp only [List.map_cons, selIds, mkE1, It.ent]
    cases hqi : q i with
    | true =>
      rw [hqi] at h1
      rw [if_pos h1, ih]
      simp [List.filter_cons, hqi]
    | false =>
      rw [hqi] at h1
      rw [if_neg, if_pos h1, ih]
      · simp [List.filter_cons, hqi]
      · intro h2
        have := h2 h (Ext.refl h)
        rw [h1 h (Ext.refl h)] at this
        simp at this
theorem bornOk_of {α : Type} {l : List (It α)} {c : Nat} (h : BoOk l c) : BornOk (mkE (l.map It.ent)) c := by
  refine ⟨fun e he => ?_, ?_⟩
  · rw [show (mkE (l.map It.ent)).toList = (l.map It.ent).map mkE1 from rfl, List.map_map] at he
    obtain ⟨i, hi, rfl⟩ := List.mem_map.1 he
    exact h.lt i hi
  · rw [show (mkE (l.map It.ent)).toList = (l.map It.ent).map mkE1 from rfl, List.map_map, List.pairwise_map]
    exact h.ne
theorem mergeSort_sorted {l : List Int} (h : l.Pairwise (· < ·)) : (l.mergeSort fun a b => decide (a ≤ b)) = l := by
  exact List.mergeSort_of_pairwise (h.imp fun {a b} hab => by simp; omega)
theorem ids_sorted {α : Type} {l : List (It α)} (hl : (l.map It.p).Pairwise fun p q => p.1 < q.1) (q : It α → Bool) : ((l.filter q).map (·.id)).Pairwise (· < ·) := by
  rw [List.pairwise_map] at hl ⊢
  exact (hl.sublist List.filter_sublist).imp fun {a b} hab => hab
theorem ord_len {α : Type} {l : List (Int × α)} {last : Int} (h : Ord l last) : (l.length : Int) ≤ max last 0 := by
  have key : ∀ (l : List (Int × α)) (a : Int), (∀ p ∈ l, a < p.1 ∧ p.1 ≤ last) → (l.Pairwise fun p q => p.1 < q.1) → a ≤ max last 0 → a + l.length ≤ max last a := by
    intro l
    induction l with
    | nil => intro a _ _ h; simp; omega
    | cons p l ih =>
      intro a h1 h2 h3
      rw [List.pairwise_cons] at h2
      have hp := h1 p (by simp)
      have := ih p.1 (fun q hq => ⟨h2.1 q hq, (h1 q (by simp [hq])).2⟩) h2.2 (by omega)
      simp only [List.length_cons]
      omega
  have := key l 0 (fun p hp => ⟨by have := h.pos p hp; omega, h.le p hp⟩) h.lt (by omega)
  omega
theorem sorted_eq {α : Type} {C0 : CallF} {g : FuncId} {ca : Array Value} {h : H} {q : It α → Bool} {l : List (It α)} {b o m c : Nat} {kd : Kind} (hl : (l.map It.p).Pairwise fun p q => p.1 < q.1)
    (hb : ld1 h[b]? o = some (.map (some m))) (hm : h[m]? = some (.map (mkE (l.map It.ent)) c kd)) (hbo : BoOk l c) (hcl : callable P g = true) (hsz : l.length ≤ 1000000) (hq : ∀ i ∈ l, ∀ h', Ext h h' → C0 g (#[pn i.ad] ++ ca) h' = some (.bool (q i), h')) :
    sortedHook C0 #[.pointer (some ⟨b, o, none⟩), .func (.func g) #[] ca] h = some (sortedRes h ((l.filter q).map (·.id))) := by
  unfold sortedHook
  simp only [hb, hm]
  rw [if_pos ⟨bornOk_of hbo, hcl, by simpa [mkE] using hsz⟩]
  rw [show (mkE (l.map It.ent)).toList = (l.map It.ent).map mkE1 from rfl, selIds_of hq]
  simp only [Option.map_some]
  rw [mergeSort_sorted (ids_sorted hl q)]
theorem sortedRes_ints (h : H) (l : List Int) : Ints (sortedRes h l).2 (sortedRes h l).1 l ∧ Ext h (sortedRes h l).2 := by
  cases l with
  | nil => exact ⟨.inl ⟨none, 0, rfl, rfl⟩, Ext.refl h⟩
  | cons a l =>
    refine ⟨.inr ⟨h.size, 0, _, intC (a :: l), 3, .grown, rfl, by simp [sortedRes], fun i x hx => ?_⟩, Ext.push (Ext.refl h) _⟩
    simp only [intC, List.getElem?_toArray, List.getElem?_map, Nat.zero_add, hx, Option.map_some]
theorem sortedRes_len (h : H) (l : List Int) : ∃ a c, (sortedRes h l).1 = .slice a l.length c := (sortedRes_ints h l).1.len

section
variable {X : Hooks} {h : H} {t mB mO cB cO : Nat} {T : Tb} {lB : List (It Bk)} {lO : List (It At)} {id n ob : Int}
theorem clos60 {b bx : Nat} {x : Bk} (hb : h[b]? = some (.cells (bkC x) 39 .own)) (hx : h[bx]? = some (.cells #[.int .i64 ob] 3 .own)) : CX X0 60 #[pn b, pn bx] h = some (.bool (x.ob == ob), h) := by
  refine intoN (f := 60) (tmps := #[pn b, pn bx, undef, undef, undef, undef, undef, undef, undef, undef])  (free0 _ (by decide) (by decide) (by decide) (by decide)) rfl (by kernel_rfl) (by kernel_rfl) (.of_af rfl) ?_
  simp only [f60, bd1_n, bd2_n, ifV_t, ifV_f, vP_lss, vP_leq, vP_gtr, vP_geq, vP_add, vP_sub, vP_mul, vP_and, vP_or, vP_xor, vP_andNot, vP_not, vP_neg, vP_extract, vP_nilCheck, vB_eqi, vB_nei, ld1_some, lda_full, mlen_some, List.getElem?_toArray, List.getElem?_cons_zero, List.getElem?_cons_succ, Nat.zero_add, Nat.add_zero, List.size_toArray, List.length_cons, List.length_nil, Nat.reduceAdd, vP_min2, vP_max2, vP_min3, same_int, same_bool, same_str, same_ptr, same_slice, same_map, same_agg, same_tuple, List.all_cons, List.all_nil, gvc, Bool.and_self, Bool.and_true, ibd_23_0_3_23, iln_31_3, ibd_26__26, ibd_39_1_3_39, iia_31_0, ild_5_5, icv_5_3_3, icv_5_2_2, ial_23_0, ist_23_0, ifa_23_3_0, ild_2_2, iln_45_3, iia_45_0, ild_50_50, ial_50_0, ist_50_0, iln_24_3, iia_24_0, ild_3_3, ial_39_0, ist_39_0, ifa_39_0_0, ifa_39_4_0, ifa_39_1_0, ifa_39_2_0, ial_30_0, ist_30_0, ial_58_0, ist_58_0, ild_23_23, ild_30_30, ild_39_39, ild_58_58, ibx_23_0, ibx_26_0, ifa_23_0_0, ist_3_0, ild_65_65, ial_64_0, ist_64_0, ild_26_26, ifa_64_0_0, ifa_64_1_0, ifa_26_0_0, ifa_23_5_0, ild_4_4, ibx_30_0, ifa_30_5_0, ifa_30_0_0, ifa_30_1_0, ifa_30_2_0, imm_69_69, ibd_71_0_71, ibd_73_0_73, imm_74_74, ibd_76_0_76, ibd_78_0_1_78, ibx_78_32, ifa_23_1_0, ifa_23_2_0, ifa_23_4_0, ifa_78_1_0, ifa_76_0_0, ild_74_74, iln_74_3, ibx_3_0, ibx_39_0, ifa_39_3_0, imf_31_84, ifa_78_0_0, ifa_73_0_0, ifa_71_0_0, ild_69_69, iln_69_3, ibd_39_0_1_2_3_5_39, ist_2_0, ibd_23__23, ibd_94__94, ibx_94_47, ibx_50_0, ifa_50_0_0, ifa_50_5_0, ifa_50_1_0, ifa_50_7_0, ifa_50_6_0, ifa_50_2_0, ifa_50_4_0, ifa_50_3_0, imf_60_84, ibd_39__39, ibd_30__30, ifa_94_0_0, ild_91_91, iia_91_0, ifa_110_1_0, ibd_58__58, ifa_94_1_0, ild_92_92, iia_92_0, ifa_112_1_0, iln_92_3, ifa_58_0_0, ifa_112_0_0, ibs_24_1_0_24, ifa_26_1_0, ifa_26_2_0, ild_24_24, ifa_76_1_0, ifa_71_1_0, ifa_30_3_0, ifa_30_4_0, iln_91_3, ifa_94_2_0, ibd_110_0_1_110, ibs_91_1_0_91, ist_91_0, ibx_58_0, ifa_58_1_0, ifa_58_2_0, ifa_58_3_0, ifa_94_3_0, ibd_58_0_1_2_3_5_58, ibd_112_0_1_112, ibs_92_1_0_92, ist_92_0, ifa_39_5_0, ifa_58_5_0, ibs_92_0__92, ifa_58_4_0, ibd_122_0_1_2_122, ifa_110_0_0, ibs_91_0__91, hb, hx, bk0]
  exact ⟨_, _, rfl, rfl, Ext.refl _⟩
theorem clos59 {b : Nat} : CX X0 59 #[pn b] h = some (.bool true, h) := by
  refine intoN (f := 59) (tmps := #[pn b, undef, undef])  (free0 _ (by decide) (by decide) (by decide) (by decide)) rfl (by kernel_rfl) (by kernel_rfl) (.of_af rfl) ?_
  simp only [f59]
  exact ⟨_, _, rfl, rfl, Ext.refl _⟩
theorem clos31 {b bx by' : Nat} {x y : Bk} (hb : h[b]? = some (.cells (bkC x) 39 .own)) (hx : h[bx]? = some (.cells #[.int .i64 ob] 3 .own)) (hy : h[by']? = some (.cells (bkC y) 39 .own)) :
    CX X0 31 #[pn b, pn bx, pn by'] h = some (.bool (conflict ob y x), h) := by
  refine intoN (f := 31) (tmps := #[pn b, pn bx, pn by', undef, undef, undef, undef, undef, undef, undef, undef, undef, undef, undef, undef, undef, undef, undef, undef, undef, undef, undef, undef, undef, undef, undef, undef, undef, undef, undef, undef])  (free0 _ (by decide) (by decide) (by decide) (by decide)) rfl (by kernel_rfl) (by kernel_rfl) (.of_af rfl) ?_
  simp only [f31, bd1_n, bd2_n, ifV_t, ifV_f, vP_lss, vP_leq, vP_gtr, vP_geq, vP_add, vP_sub, vP_mul, vP_and, vP_or, vP_xor, vP_andNot, vP_not, vP_neg, vP_extract, vP_nilCheck, vB_eqi, vB_nei, ld1_some, lda_full, mlen_some, List.getElem?_toArray, List.getElem?_cons_zero, List.getElem?_cons_succ, Nat.zero_add, Nat.add_zero, List.size_toArray, List.length_cons, List.length_nil, Nat.reduceAdd, vP_min2, vP_max2, vP_min3, same_int, same_bool, same_str, same_ptr, same_slice, same_map, same_agg, same_tuple, List.all_cons, List.all_nil, gvc, Bool.and_self, Bool.and_true, ibd_23_0_3_23, iln_31_3, ibd_26__26, ibd_39_1_3_39, iia_31_0, ild_5_5, icv_5_3_3, icv_5_2_2, ial_23_0, ist_23_0, ifa_23_3_0, ild_2_2, iln_45_3, iia_45_0, ild_50_50, ial_50_0, ist_50_0, iln_24_3, iia_24_0, ild_3_3, ial_39_0, ist_39_0, ifa_39_0_0, ifa_39_4_0, ifa_39_1_0, ifa_39_2_0, ial_30_0, ist_30_0, ial_58_0, ist_58_0, ild_23_23, ild_30_30, ild_39_39, ild_58_58, ibx_23_0, ibx_26_0, ifa_23_0_0, ist_3_0, ild_65_65, ial_64_0, ist_64_0, ild_26_26, ifa_64_0_0, ifa_64_1_0, ifa_26_0_0, ifa_23_5_0, ild_4_4, ibx_30_0, ifa_30_5_0, ifa_30_0_0, ifa_30_1_0, ifa_30_2_0, imm_69_69, ibd_71_0_71, ibd_73_0_73, imm_74_74, ibd_76_0_76, ibd_78_0_1_78, ibx_78_32, ifa_23_1_0, ifa_23_2_0, ifa_23_4_0, ifa_78_1_0, ifa_76_0_0, ild_74_74, iln_74_3, ibx_3_0, ibx_39_0, ifa_39_3_0, imf_31_84, ifa_78_0_0, ifa_73_0_0, ifa_71_0_0, ild_69_69, iln_69_3, ibd_39_0_1_2_3_5_39, ist_2_0, ibd_23__23, ibd_94__94, ibx_94_47, ibx_50_0, ifa_50_0_0, ifa_50_5_0, ifa_50_1_0, ifa_50_7_0, ifa_50_6_0, ifa_50_2_0, ifa_50_4_0, ifa_50_3_0, imf_60_84, ibd_39__39, ibd_30__30, ifa_94_0_0, ild_91_91, iia_91_0, ifa_110_1_0, ibd_58__58, ifa_94_1_0, ild_92_92, iia_92_0, ifa_112_1_0, iln_92_3, ifa_58_0_0, ifa_112_0_0, ibs_24_1_0_24, ifa_26_1_0, ifa_26_2_0, ild_24_24, ifa_76_1_0, ifa_71_1_0, ifa_30_3_0, ifa_30_4_0, iln_91_3, ifa_94_2_0, ibd_110_0_1_110, ibs_91_1_0_91, ist_91_0, ibx_58_0, ifa_58_1_0, ifa_58_2_0, ifa_58_3_0, ifa_94_3_0, ibd_58_0_1_2_3_5_58, ibd_112_0_1_112, ibs_92_1_0_92, ist_92_0, ifa_39_5_0, ifa_58_5_0, ibs_92_0__92, ifa_58_4_0, ibd_122_0_1_2_122, ifa_110_0_0, ibs_91_0__91, hb, hx, hy, bk0, bk1, bk2]
  unfold conflict
  refine run_ifV (fun q => ?_) (fun q => ?_)
  · rw [q]
    refine run_ifV (fun q1 => ?_) (fun q1 => ?_)
    · simp only [q1, bd1_n, bd2_n, ifV_t, ifV_f, vP_lss, vP_leq, vP_gtr, vP_geq, vP_add, vP_sub, vP_mul, vP_and, vP_or, vP_xor, vP_andNot, vP_not, vP_neg, vP_extract, vP_nilCheck, vB_eqi, vB_nei, ld1_some, lda_full, mlen_some, List.getElem?_toArray, List.getElem?_cons_zero, List.getElem?_cons_succ, Nat.zero_add, Nat.add_zero, List.size_toArray, List.length_cons, List.length_nil, Nat.reduceAdd, vP_min2, vP_max2, vP_min3, same_int, same_bool, same_str, same_ptr, same_slice, same_map, same_agg, same_tuple, List.all_cons, List.all_nil, gvc, Bool.and_self, Bool.and_true, ibd_23_0_3_23, iln_31_3, ibd_26__26, ibd_39_1_3_39, iia_31_0, ild_5_5, icv_5_3_3, icv_5_2_2, ial_23_0, ist_23_0, ifa_23_3_0, ild_2_2, iln_45_3, iia_45_0, ild_50_50, ial_50_0, ist_50_0, iln_24_3, iia_24_0, ild_3_3, ial_39_0, ist_39_0, ifa_39_0_0, ifa_39_4_0, ifa_39_1_0, ifa_39_2_0, ial_30_0, ist_30_0, ial_58_0, ist_58_0, ild_23_23, ild_30_30, ild_39_39, ild_58_58, ibx_23_0, ibx_26_0, ifa_23_0_0, ist_3_0, ild_65_65, ial_64_0, ist_64_0, ild_26_26, ifa_64_0_0, ifa_64_1_0, ifa_26_0_0, ifa_23_5_0, ild_4_4, ibx_30_0, ifa_30_5_0, ifa_30_0_0, ifa_30_1_0, ifa_30_2_0, imm_69_69, ibd_71_0_71, ibd_73_0_73, imm_74_74, ibd_76_0_76, ibd_78_0_1_78, ibx_78_32, ifa_23_1_0, ifa_23_2_0, ifa_23_4_0, ifa_78_1_0, ifa_76_0_0, ild_74_74, iln_74_3, ibx_3_0, ibx_39_0, ifa_39_3_0, imf_31_84, ifa_78_0_0, ifa_73_0_0, ifa_71_0_0, ild_69_69, iln_69_3, ibd_39_0_1_2_3_5_39, ist_2_0, ibd_23__23, ibd_94__94, ibx_94_47, ibx_50_0, ifa_50_0_0, ifa_50_5_0, ifa_50_1_0, ifa_50_7_0, ifa_50_6_0, ifa_50_2_0, ifa_50_4_0, ifa_50_3_0, imf_60_84, ibd_39__39, ibd_30__30, ifa_94_0_0, ild_91_91, iia_91_0, ifa_110_1_0, ibd_58__58, ifa_94_1_0, ild_92_92, iia_92_0, ifa_112_1_0, iln_92_3, ifa_58_0_0, ifa_112_0_0, ibs_24_1_0_24, ifa_26_1_0, ifa_26_2_0, ild_24_24, ifa_76_1_0, ifa_71_1_0, ifa_30_3_0, ifa_30_4_0, iln_91_3, ifa_94_2_0, ibd_110_0_1_110, ibs_91_1_0_91, ist_91_0, ibx_58_0, ifa_58_1_0, ifa_58_2_0, ifa_58_3_0, ifa_94_3_0, ibd_58_0_1_2_3_5_58, ibd_112_0_1_112, ibs_92_1_0_92, ist_92_0, ifa_39_5_0, ifa_58_5_0, ibs_92_0__92, ifa_58_4_0, ibd_122_0_1_2_122, ifa_110_0_0, ibs_91_0__91]
      exact ⟨_, _, rfl, by simp, Ext.refl _⟩
    · simp only [q1, bd1_n, bd2_n, ifV_t, ifV_f, vP_lss, vP_leq, vP_gtr, vP_geq, vP_add, vP_sub, vP_mul, vP_and, vP_or, vP_xor, vP_andNot, vP_not, vP_neg, vP_extract, vP_nilCheck, vB_eqi, vB_nei, ld1_some, lda_full, mlen_some, List.getElem?_toArray, List.getElem?_cons_zero, List.getElem?_cons_succ, Nat.zero_add, Nat.add_zero, List.size_toArray, List.length_cons, List.length_nil, Nat.reduceAdd, vP_min2, vP_max2, vP_min3, same_int, same_bool, same_str, same_ptr, same_slice, same_map, same_agg, same_tuple, List.all_cons, List.all_nil, gvc, Bool.and_self, Bool.and_true, ibd_23_0_3_23, iln_31_3, ibd_26__26, ibd_39_1_3_39, iia_31_0, ild_5_5, icv_5_3_3, icv_5_2_2, ial_23_0, ist_23_0, ifa_23_3_0, ild_2_2, iln_45_3, iia_45_0, ild_50_50, ial_50_0, ist_50_0, iln_24_3, iia_24_0, ild_3_3, ial_39_0, ist_39_0, ifa_39_0_0, ifa_39_4_0, ifa_39_1_0, ifa_39_2_0, ial_30_0, ist_30_0, ial_58_0, ist_58_0, ild_23_23, ild_30_30, ild_39_39, ild_58_58, ibx_23_0, ibx_26_0, ifa_23_0_0, ist_3_0, ild_65_65, ial_64_0, ist_64_0, ild_26_26, ifa_64_0_0, ifa_64_1_0, ifa_26_0_0, ifa_23_5_0, ild_4_4, ibx_30_0, ifa_30_5_0, ifa_30_0_0, ifa_30_1_0, ifa_30_2_0, imm_69_69, ibd_71_0_71, ibd_73_0_73, imm_74_74, ibd_76_0_76, ibd_78_0_1_78, ibx_78_32, ifa_23_1_0, ifa_23_2_0, ifa_23_4_0, ifa_78_1_0, ifa_76_0_0, ild_74_74, iln_74_3, ibx_3_0, ibx_39_0, ifa_39_3_0, imf_31_84, ifa_78_0_0, ifa_73_0_0, ifa_71_0_0, ild_69_69, iln_69_3, ibd_39_0_1_2_3_5_39, ist_2_0, ibd_23__23, ibd_94__94, ibx_94_47, ibx_50_0, ifa_50_0_0, ifa_50_5_0, ifa_50_1_0, ifa_50_7_0, ifa_50_6_0, ifa_50_2_0, ifa_50_4_0, ifa_50_3_0, imf_60_84, ibd_39__39, ibd_30__30, ifa_94_0_0, ild_91_91, iia_91_0, ifa_110_1_0, ibd_58__58, ifa_94_1_0, ild_92_92, iia_92_0, ifa_112_1_0, iln_92_3, ifa_58_0_0, ifa_112_0_0, ibs_24_1_0_24, ifa_26_1_0, ifa_26_2_0, ild_24_24, ifa_76_1_0, ifa_71_1_0, ifa_30_3_0, ifa_30_4_0, iln_91_3, ifa_94_2_0, ibd_110_0_1_110, ibs_91_1_0_91, ist_91_0, ibx_58_0, ifa_58_1_0, ifa_58_2_0, ifa_58_3_0, ifa_94_3_0, ibd_58_0_1_2_3_5_58, ibd_112_0_1_112, ibs_92_1_0_92, ist_92_0, ifa_39_5_0, ifa_58_5_0, ibs_92_0__92, ifa_58_4_0, ibd_122_0_1_2_122, ifa_110_0_0, ibs_91_0__91]
      exact ⟨_, _, rfl, by simp, Ext.refl _⟩
  · simp only [q, bd1_n, bd2_n, ifV_t, ifV_f, vP_lss, vP_leq, vP_gtr, vP_geq, vP_add, vP_sub, vP_mul, vP_and, vP_or, vP_xor, vP_andNot, vP_not, vP_neg, vP_extract, vP_nilCheck, vB_eqi, vB_nei, ld1_some, lda_full, mlen_some, List.getElem?_toArray, List.getElem?_cons_zero, List.getElem?_cons_succ, Nat.zero_add, Nat.add_zero, List.size_toArray, List.length_cons, List.length_nil, Nat.reduceAdd, vP_min2, vP_max2, vP_min3, same_int, same_bool, same_str, same_ptr, same_slice, same_map, same_agg, same_tuple, List.all_cons, List.all_nil, gvc, Bool.and_self, Bool.and_true, ibd_23_0_3_23, iln_31_3, ibd_26__26, ibd_39_1_3_39, iia_31_0, ild_5_5, icv_5_3_3, icv_5_2_2, ial_23_0, ist_23_0, ifa_23_3_0, ild_2_2, iln_45_3, iia_45_0, ild_50_50, ial_50_0, ist_50_0, iln_24_3, iia_24_0, ild_3_3, ial_39_0, ist_39_0, ifa_39_0_0, ifa_39_4_0, ifa_39_1_0, ifa_39_2_0, ial_30_0, ist_30_0, ial_58_0, ist_58_0, ild_23_23, ild_30_30, ild_39_39, ild_58_58, ibx_23_0, ibx_26_0, ifa_23_0_0, ist_3_0, ild_65_65, ial_64_0, ist_64_0, ild_26_26, ifa_64_0_0, ifa_64_1_0, ifa_26_0_0, ifa_23_5_0, ild_4_4, ibx_30_0, ifa_30_5_0, ifa_30_0_0, ifa_30_1_0, ifa_30_2_0, imm_69_69, ibd_71_0_71, ibd_73_0_73, imm_74_74, ibd_76_0_76, ibd_78_0_1_78, ibx_78_32, ifa_23_1_0, ifa_23_2_0, ifa_23_4_0, ifa_78_1_0, ifa_76_0_0, ild_74_74, iln_74_3, ibx_3_0, ibx_39_0, ifa_39_3_0, imf_31_84, ifa_78_0_0, ifa_73_0_0, ifa_71_0_0, ild_69_69, iln_69_3, ibd_39_0_1_2_3_5_39, ist_2_0, ibd_23__23, ibd_94__94, ibx_94_47, ibx_50_0, ifa_50_0_0, ifa_50_5_0, ifa_50_1_0, ifa_50_7_0, ifa_50_6_0, ifa_50_2_0, ifa_50_4_0, ifa_50_3_0, imf_60_84, ibd_39__39, ibd_30__30, ifa_94_0_0, ild_91_91, iia_91_0, ifa_110_1_0, ibd_58__58, ifa_94_1_0, ild_92_92, iia_92_0, ifa_112_1_0, iln_92_3, ifa_58_0_0, ifa_112_0_0, ibs_24_1_0_24, ifa_26_1_0, ifa_26_2_0, ild_24_24, ifa_76_1_0, ifa_71_1_0, ifa_30_3_0, ifa_30_4_0, iln_91_3, ifa_94_2_0, ibd_110_0_1_110, ibs_91_1_0_91, ist_91_0, ibx_58_0, ifa_58_1_0, ifa_58_2_0, ifa_58_3_0, ifa_94_3_0, ibd_58_0_1_2_3_5_58, ibd_112_0_1_112, ibs_92_1_0_92, ist_92_0, ifa_39_5_0, ifa_58_5_0, ibs_92_0__92, ifa_58_4_0, ibd_122_0_1_2_122, ifa_110_0_0, ibs_91_0__91]
    exact ⟨_, _, rfl, by simp, Ext.refl _⟩
theorem hook32 {args : Array Value} {r : Value × H} (he : sortedHook (CX X0) args h = some r) : CX X20 32 args h = some r := hookG (f := 32) rfl he
theorem hook58 {args : Array Value} {r : Value × H} (he : sortedHook (CX X0) args h = some r) : CX X20 58 args h = some r := hookG (f := 58) rfl he
theorem filter_ids {α : Type} (l : List (It α)) (q : α → Bool) : ((l.filter fun i => q i.x).map (·.id)) = ((l.map It.p).filter fun p => q p.2).map (·.1) := by
  induction l with
  | nil => rfl
  | cons a l ih =>
    simp only [List.filter_cons, List.map_cons, It.p]
    cases q a.x <;> simp [ih, It.p]
theorem len_of {α : Type} {l : List (It α)} {k : List (Int × α)} {last : Int} (h : k = l.map It.p) (hO : Ord k last) (hl : last ≤ 1000000) : l.length ≤ 1000000 := by
  have := ord_len hO
  rw [h, List.length_map] at this
  omega
theorem opens_run (hO : Ord T.bs T.lb) (hlb : T.lb ≤ 1000000) (hT : TabP h t T mB mO lB lO cB cO) : CX X20 20 #[pn t, .int .i64 ob] h = some (sortedRes (h.push (.cells #[.int .i64 ob] 3 .own)) (opens T ob)) := by
  have hT' := hT.push (.cells #[.int .i64 ob] 3 .own)
  have hbx : (h.push (.cells #[.int .i64 ob] 3 .own))[h.size]? = some (.cells #[.int .i64 ob] 3 .own) := gp1
  have hk : CX X20 32 #[.pointer (some ⟨t, 0, none⟩), .func (.func 60) #[] #[pn h.size]] (h.push (.cells #[.int .i64 ob] 3 .own)) = some (sortedRes (h.push (.cells #[.int .i64 ob] 3 .own)) (opens T ob)) := by
    refine hook32 ?_
    rw [sorted_eq (l := lB) (q := fun i => i.x.ob == ob) (hT.bs ▸ hO.lt) (by rw [hT'.tab]; rfl) hT'.mapB hT'.boB (by kernel_rfl) (len_of hT.bs hO hlb) (fun i hi h' he => clos60 (he.some (hT'.regB.mem i hi)) (he.some hbx))]
    unfold opens
    rw [hT.bs, filter_ids lB (fun b => b.ob == ob)]
  have := enterG (P := P) (ok := okAll) (nu := nu20) (X := X20) (f := 20) (args := #[pn t, .int .i64 ob]) (tmps := #[pn t, .int .i64 ob, undef, undef, undef, undef, undef, undef, undef, undef, undef, undef, undef]) (h := h) (h1 := (sortedRes (h.push (.cells #[.int .i64 ob] 3 .own)) (opens T ob)).2) (v := (sortedRes (h.push (.cells #[.int .i64 ob] 3 .own)) (opens T ob)).1) rfl rfl (by kernel_rfl) (by kernel_rfl) (by
    simp only [f20, bd1_n, bd2_n, ifV_t, ifV_f, vP_lss, vP_leq, vP_gtr, vP_geq, vP_add, vP_sub, vP_mul, vP_and, vP_or, vP_xor, vP_andNot, vP_not, vP_neg, vP_extract, vP_nilCheck, vB_eqi, vB_nei, ld1_some, lda_full, mlen_some, List.getElem?_toArray, List.getElem?_cons_zero, List.getElem?_cons_succ, Nat.zero_add, Nat.add_zero, List.size_toArray, List.length_cons, List.length_nil, Nat.reduceAdd, vP_min2, vP_max2, vP_min3, same_int, same_bool, same_str, same_ptr, same_slice, same_map, same_agg, same_tuple, List.all_cons, List.all_nil, gvc, Bool.and_self, Bool.and_true, ibd_23_0_3_23, iln_31_3, ibd_26__26, ibd_39_1_3_39, iia_31_0, ild_5_5, icv_5_3_3, icv_5_2_2, ial_23_0, ist_23_0, ifa_23_3_0, ild_2_2, iln_45_3, iia_45_0, ild_50_50, ial_50_0, ist_50_0, iln_24_3, iia_24_0, ild_3_3, ial_39_0, ist_39_0, ifa_39_0_0, ifa_39_4_0, ifa_39_1_0, ifa_39_2_0, ial_30_0, ist_30_0, ial_58_0, ist_58_0, ild_23_23, ild_30_30, ild_39_39, ild_58_58, ibx_23_0, ibx_26_0, ifa_23_0_0, ist_3_0, ild_65_65, ial_64_0, ist_64_0, ild_26_26, ifa_64_0_0, ifa_64_1_0, ifa_26_0_0, ifa_23_5_0, ild_4_4, ibx_30_0, ifa_30_5_0, ifa_30_0_0, ifa_30_1_0, ifa_30_2_0, imm_69_69, ibd_71_0_71, ibd_73_0_73, imm_74_74, ibd_76_0_76, ibd_78_0_1_78, ibx_78_32, ifa_23_1_0, ifa_23_2_0, ifa_23_4_0, ifa_78_1_0, ifa_76_0_0, ild_74_74, iln_74_3, ibx_3_0, ibx_39_0, ifa_39_3_0, imf_31_84, ifa_78_0_0, ifa_73_0_0, ifa_71_0_0, ild_69_69, iln_69_3, ibd_39_0_1_2_3_5_39, ist_2_0, ibd_23__23, ibd_94__94, ibx_94_47, ibx_50_0, ifa_50_0_0, ifa_50_5_0, ifa_50_1_0, ifa_50_7_0, ifa_50_6_0, ifa_50_2_0, ifa_50_4_0, ifa_50_3_0, imf_60_84, ibd_39__39, ibd_30__30, ifa_94_0_0, ild_91_91, iia_91_0, ifa_110_1_0, ibd_58__58, ifa_94_1_0, ild_92_92, iia_92_0, ifa_112_1_0, iln_92_3, ifa_58_0_0, ifa_112_0_0, ibs_24_1_0_24, ifa_26_1_0, ifa_26_2_0, ild_24_24, ifa_76_1_0, ifa_71_1_0, ifa_30_3_0, ifa_30_4_0, iln_91_3, ifa_94_2_0, ibd_110_0_1_110, ibs_91_1_0_91, ist_91_0, ibx_58_0, ifa_58_1_0, ifa_58_2_0, ifa_58_3_0, ifa_94_3_0, ibd_58_0_1_2_3_5_58, ibd_112_0_1_112, ibs_92_1_0_92, ist_92_0, ifa_39_5_0, ifa_58_5_0, ibs_92_0__92, ifa_58_4_0, ibd_122_0_1_2_122, ifa_110_0_0, ibs_91_0__91, pn32, hk]; rfl)
  exact this
theorem objects_run (hO : Ord T.os T.lo) (hlo : T.lo ≤ 1000000) (hT : TabP h t T mB mO lB lO cB cO) : CX X20 19 #[pn t] h = some (sortedRes h (objects T)) := by
  have hk : CX X20 58 #[.pointer (some ⟨t, 2, none⟩), .func (.func 59) #[] #[]] h = some (sortedRes h (objects T)) := by
    refine hook58 ?_
    rw [sorted_eq (l := lO) (q := fun _ => true) (hT.os ▸ hO.lt) (by rw [hT.tab]; rfl) hT.mapO hT.boO (by kernel_rfl) (len_of hT.os hO hlo) (fun i hi h' _ => clos59)]
    unfold objects
    rw [hT.os, List.map_map]
    rw [List.filter_eq_self.2 (fun _ _ => rfl)]
    rfl
  have := enterG (P := P) (ok := okAll) (nu := nu20) (X := X20) (f := 19) (args := #[pn t]) (tmps := #[pn t, undef, undef, undef, undef, undef, undef, undef, undef]) (h := h) (h1 := (sortedRes h (objects T)).2) (v := (sortedRes h (objects T)).1) rfl rfl (by kernel_rfl) (by kernel_rfl) (by
    simp only [f19, bd1_n, bd2_n, ifV_t, ifV_f, vP_lss, vP_leq, vP_gtr, vP_geq, vP_add, vP_sub, vP_mul, vP_and, vP_or, vP_xor, vP_andNot, vP_not, vP_neg, vP_extract, vP_nilCheck, vB_eqi, vB_nei, ld1_some, lda_full, mlen_some, List.getElem?_toArray, List.getElem?_cons_zero, List.getElem?_cons_succ, Nat.zero_add, Nat.add_zero, List.size_toArray, List.length_cons, List.length_nil, Nat.reduceAdd, vP_min2, vP_max2, vP_min3, same_int, same_bool, same_str, same_ptr, same_slice, same_map, same_agg, same_tuple, List.all_cons, List.all_nil, gvc, Bool.and_self, Bool.and_true, ibd_23_0_3_23, iln_31_3, ibd_26__26, ibd_39_1_3_39, iia_31_0, ild_5_5, icv_5_3_3, icv_5_2_2, ial_23_0, ist_23_0, ifa_23_3_0, ild_2_2, iln_45_3, iia_45_0, ild_50_50, ial_50_0, ist_50_0, iln_24_3, iia_24_0, ild_3_3, ial_39_0, ist_39_0, ifa_39_0_0, ifa_39_4_0, ifa_39_1_0, ifa_39_2_0, ial_30_0, ist_30_0, ial_58_0, ist_58_0, ild_23_23, ild_30_30, ild_39_39, ild_58_58, ibx_23_0, ibx_26_0, ifa_23_0_0, ist_3_0, ild_65_65, ial_64_0, ist_64_0, ild_26_26, ifa_64_0_0, ifa_64_1_0, ifa_26_0_0, ifa_23_5_0, ild_4_4, ibx_30_0, ifa_30_5_0, ifa_30_0_0, ifa_30_1_0, ifa_30_2_0, imm_69_69, ibd_71_0_71, ibd_73_0_73, imm_74_74, ibd_76_0_76, ibd_78_0_1_78, ibx_78_32, ifa_23_1_0, ifa_23_2_0, ifa_23_4_0, ifa_78_1_0, ifa_76_0_0, ild_74_74, iln_74_3, ibx_3_0, ibx_39_0, ifa_39_3_0, imf_31_84, ifa_78_0_0, ifa_73_0_0, ifa_71_0_0, ild_69_69, iln_69_3, ibd_39_0_1_2_3_5_39, ist_2_0, ibd_23__23, ibd_94__94, ibx_94_47, ibx_50_0, ifa_50_0_0, ifa_50_5_0, ifa_50_1_0, ifa_50_7_0, ifa_50_6_0, ifa_50_2_0, ifa_50_4_0, ifa_50_3_0, imf_60_84, ibd_39__39, ibd_30__30, ifa_94_0_0, ild_91_91, iia_91_0, ifa_110_1_0, ibd_58__58, ifa_94_1_0, ild_92_92, iia_92_0, ifa_112_1_0, iln_92_3, ifa_58_0_0, ifa_112_0_0, ibs_24_1_0_24, ifa_26_1_0, ifa_26_2_0, ild_24_24, ifa_76_1_0, ifa_71_1_0, ifa_30_3_0, ifa_30_4_0, iln_91_3, ifa_94_2_0, ibd_110_0_1_110, ibs_91_1_0_91, ist_91_0, ibx_58_0, ifa_58_1_0, ifa_58_2_0, ifa_58_3_0, ifa_94_3_0, ibd_58_0_1_2_3_5_58, ibd_112_0_1_112, ibs_92_1_0_92, ist_92_0, ifa_39_5_0, ifa_58_5_0, ibs_92_0__92, ifa_58_4_0, ibd_122_0_1_2_122, ifa_110_0_0, ibs_91_0__91, pn32, hk]; rfl)
  exact this
theorem del74 {l : List Ent} {m c : Nat} {kd : Kind} (hm : h[m]? = some (.map (mkE l) c kd)) (hk : kd ≠ .ro) {call : CallF} : vE P call (.call ⟨.builtin .delete, #[(.const (.map (some m))), (.const (.int .i64 n))], #[74, 3]⟩) 0 h = some (.tuple #[], h.setIfInBounds m (.map (mkE (l.eraseP fun e => e.1 == n)) c kd)) := vE_delete u74 u3 hm hk rfl
theorem del69 {l : List Ent} {m c : Nat} {kd : Kind} (hm : h[m]? = some (.map (mkE l) c kd)) (hk : kd ≠ .ro) {call : CallF} : vE P call (.call ⟨.builtin .delete, #[(.const (.map (some m))), (.const (.int .i64 n))], #[69, 3]⟩) 0 h = some (.tuple #[], h.setIfInBounds m (.map (mkE (l.eraseP fun e => e.1 == n)) c kd)) := vE_delete u69 u3 hm hk rfl
theorem sweep_spec {a : At} (hO : Ord T.bs T.lb) (hlb : T.lb ≤ 1000000) (hT : TabP h t T mB mO lB lO cB cO) (hg : Tab20.get T.os ob = some a) : Run (CX X20 68 #[pn t, .int .i64 ob] h) fun v h' => v = .bool (sweep T ob).1 ∧ TabE h' t (sweep T ob).2 ∧ Keep pP h h' := by
  obtain ⟨j, hj, rfl, rfl, hl2⟩ := findO hT hg
  have hmj := hT.regO.mem j hj
  refine intoM (f := 68) (tmps := #[pn t, .int .i64 j.id, undef, undef, undef, undef, undef, undef, undef, undef, undef, undef, undef, undef, undef, undef, undef, undef, undef, undef, undef, undef, undef, undef, undef, undef, undef, undef, undef])  rfl rfl (by kernel_rfl) (by kernel_rfl) ?_
  obtain ⟨x, c, hx⟩ := sortedRes_len (h.push (.cells #[.int .i64 j.id] 3 .own)) (opens T j.id)
  have hE := (Ext.push (Ext.refl h) (.cells #[.int .i64 j.id] 3 .own)).trans (sortedRes_ints (h.push (.cells #[.int .i64 j.id] 3 .own)) (opens T j.id)).2
  have hop := opens_run (ob := j.id) hO hlb hT
  rw [show sortedRes (h.push (.cells #[.int .i64 j.id] 3 .own)) (opens T j.id) = (.slice x (opens T j.id).length c, (sortedRes (h.push (.cells #[.int .i64 j.id] 3 .own)) (opens T j.id)).2) by rw [← hx]] at hop
  generalize (sortedRes (h.push (.cells #[.int .i64 j.id] 3 .own)) (opens T j.id)).2 = h2 at hop hE
  have hT2 := hT.ext hE
  unfold sweep
  rw [hg]
  simp only [f68, bd1_n, bd2_n, ifV_t, ifV_f, vP_lss, vP_leq, vP_gtr, vP_geq, vP_add, vP_sub, vP_mul, vP_and, vP_or, vP_xor, vP_andNot, vP_not, vP_neg, vP_extract, vP_nilCheck, vB_eqi, vB_nei, ld1_some, lda_full, mlen_some, List.getElem?_toArray, List.getElem?_cons_zero, List.getElem?_cons_succ, Nat.zero_add, Nat.add_zero, List.size_toArray, List.length_cons, List.length_nil, Nat.reduceAdd, vP_min2, vP_max2, vP_min3, same_int, same_bool, same_str, same_ptr, same_slice, same_map, same_agg, same_tuple, List.all_cons, List.all_nil, gvc, Bool.and_self, Bool.and_true, ibd_23_0_3_23, iln_31_3, ibd_26__26, ibd_39_1_3_39, iia_31_0, ild_5_5, icv_5_3_3, icv_5_2_2, ial_23_0, ist_23_0, ifa_23_3_0, ild_2_2, iln_45_3, iia_45_0, ild_50_50, ial_50_0, ist_50_0, iln_24_3, iia_24_0, ild_3_3, ial_39_0, ist_39_0, ifa_39_0_0, ifa_39_4_0, ifa_39_1_0, ifa_39_2_0, ial_30_0, ist_30_0, ial_58_0, ist_58_0, ild_23_23, ild_30_30, ild_39_39, ild_58_58, ibx_23_0, ibx_26_0, ifa_23_0_0, ist_3_0, ild_65_65, ial_64_0, ist_64_0, ild_26_26, ifa_64_0_0, ifa_64_1_0, ifa_26_0_0, ifa_23_5_0, ild_4_4, ibx_30_0, ifa_30_5_0, ifa_30_0_0, ifa_30_1_0, ifa_30_2_0, imm_69_69, ibd_71_0_71, ibd_73_0_73, imm_74_74, ibd_76_0_76, ibd_78_0_1_78, ibx_78_32, ifa_23_1_0, ifa_23_2_0, ifa_23_4_0, ifa_78_1_0, ifa_76_0_0, ild_74_74, iln_74_3, ibx_3_0, ibx_39_0, ifa_39_3_0, imf_31_84, ifa_78_0_0, ifa_73_0_0, ifa_71_0_0, ild_69_69, iln_69_3, ibd_39_0_1_2_3_5_39, ist_2_0, ibd_23__23, ibd_94__94, ibx_94_47, ibx_50_0, ifa_50_0_0, ifa_50_5_0, ifa_50_1_0, ifa_50_7_0, ifa_50_6_0, ifa_50_2_0, ifa_50_4_0, ifa_50_3_0, imf_60_84, ibd_39__39, ibd_30__30, ifa_94_0_0, ild_91_91, iia_91_0, ifa_110_1_0, ibd_58__58, ifa_94_1_0, ild_92_92, iia_92_0, ifa_112_1_0, iln_92_3, ifa_58_0_0, ifa_112_0_0, ibs_24_1_0_24, ifa_26_1_0, ifa_26_2_0, ild_24_24, ifa_76_1_0, ifa_71_1_0, ifa_30_3_0, ifa_30_4_0, iln_91_3, ifa_94_2_0, ibd_110_0_1_110, ibs_91_1_0_91, ist_91_0, ibx_58_0, ifa_58_1_0, ifa_58_2_0, ifa_58_3_0, ifa_94_3_0, ibd_58_0_1_2_3_5_58, ibd_112_0_1_112, ibs_92_1_0_92, ist_92_0, ifa_39_5_0, ifa_58_5_0, ibs_92_0__92, ifa_58_4_0, ibd_122_0_1_2_122, ifa_110_0_0, ibs_91_0__91, hT.tab, look74 hT.mapO, hl2, Option.getD_some, hmj, at4, hop]
  refine run_ifV (fun q => ?_) (fun q => ?_)
  · rw [if_pos (.inl (by simpa using q))]
    exact ⟨_, _, rfl, rfl, ⟨_, _, _, _, _, _, hT⟩, Keep.refl _ _⟩
  · refine run_ifV (fun q2 => ?_) (fun q2 => ?_)
    · rw [if_pos (.inr (by have q2' := of_decide_eq_true q2; omega))]
      exact ⟨_, _, rfl, rfl, ⟨_, _, _, _, _, _, hT2⟩, Keep.of_ext hE⟩
    · rw [if_neg (by have q' := of_decide_eq_false q; have q2' := of_decide_eq_false q2; omega)]
      simp only [bd1_n, bd2_n, ifV_t, ifV_f, vP_lss, vP_leq, vP_gtr, vP_geq, vP_add, vP_sub, vP_mul, vP_and, vP_or, vP_xor, vP_andNot, vP_not, vP_neg, vP_extract, vP_nilCheck, vB_eqi, vB_nei, ld1_some, lda_full, mlen_some, List.getElem?_toArray, List.getElem?_cons_zero, List.getElem?_cons_succ, Nat.zero_add, Nat.add_zero, List.size_toArray, List.length_cons, List.length_nil, Nat.reduceAdd, vP_min2, vP_max2, vP_min3, same_int, same_bool, same_str, same_ptr, same_slice, same_map, same_agg, same_tuple, List.all_cons, List.all_nil, gvc, Bool.and_self, Bool.and_true, ibd_23_0_3_23, iln_31_3, ibd_26__26, ibd_39_1_3_39, iia_31_0, ild_5_5, icv_5_3_3, icv_5_2_2, ial_23_0, ist_23_0, ifa_23_3_0, ild_2_2, iln_45_3, iia_45_0, ild_50_50, ial_50_0, ist_50_0, iln_24_3, iia_24_0, ild_3_3, ial_39_0, ist_39_0, ifa_39_0_0, ifa_39_4_0, ifa_39_1_0, ifa_39_2_0, ial_30_0, ist_30_0, ial_58_0, ist_58_0, ild_23_23, ild_30_30, ild_39_39, ild_58_58, ibx_23_0, ibx_26_0, ifa_23_0_0, ist_3_0, ild_65_65, ial_64_0, ist_64_0, ild_26_26, ifa_64_0_0, ifa_64_1_0, ifa_26_0_0, ifa_23_5_0, ild_4_4, ibx_30_0, ifa_30_5_0, ifa_30_0_0, ifa_30_1_0, ifa_30_2_0, imm_69_69, ibd_71_0_71, ibd_73_0_73, imm_74_74, ibd_76_0_76, ibd_78_0_1_78, ibx_78_32, ifa_23_1_0, ifa_23_2_0, ifa_23_4_0, ifa_78_1_0, ifa_76_0_0, ild_74_74, iln_74_3, ibx_3_0, ibx_39_0, ifa_39_3_0, imf_31_84, ifa_78_0_0, ifa_73_0_0, ifa_71_0_0, ild_69_69, iln_69_3, ibd_39_0_1_2_3_5_39, ist_2_0, ibd_23__23, ibd_94__94, ibx_94_47, ibx_50_0, ifa_50_0_0, ifa_50_5_0, ifa_50_1_0, ifa_50_7_0, ifa_50_6_0, ifa_50_2_0, ifa_50_4_0, ifa_50_3_0, imf_60_84, ibd_39__39, ibd_30__30, ifa_94_0_0, ild_91_91, iia_91_0, ifa_110_1_0, ibd_58__58, ifa_94_1_0, ild_92_92, iia_92_0, ifa_112_1_0, iln_92_3, ifa_58_0_0, ifa_112_0_0, ibs_24_1_0_24, ifa_26_1_0, ifa_26_2_0, ild_24_24, ifa_76_1_0, ifa_71_1_0, ifa_30_3_0, ifa_30_4_0, iln_91_3, ifa_94_2_0, ibd_110_0_1_110, ibs_91_1_0_91, ist_91_0, ibx_58_0, ifa_58_1_0, ifa_58_2_0, ifa_58_3_0, ifa_94_3_0, ibd_58_0_1_2_3_5_58, ibd_112_0_1_112, ibs_92_1_0_92, ist_92_0, ifa_39_5_0, ifa_58_5_0, ibs_92_0__92, ifa_58_4_0, ibd_122_0_1_2_122, ifa_110_0_0, ibs_91_0__91, hT2.tab, del74 hT2.mapO (by decide)]
      exact ⟨_, _, rfl, rfl, ⟨_, _, _, _, _, _, hT2.remO _⟩, (Keep.of_ext hE).set hT2.mapO rfl _⟩
end
end Go.Proofs.YtfmikgbachnneaaDoor
