/- What the program's functions answer on a table in the heap. -/
import Derived.Test.YtfmikgbachnneaaDoorT20h
import Derived.Test.YtfmikgbachnneaaDoorAm19
set_option linter.unusedSimpArgs false
set_option linter.unusedVariables false
namespace Go.Proofs.YtfmikgbachnneaaDoor
open Go Go.Am Go.Tab20
set_option maxRecDepth 100000

/-! ### tables in the heap -/
def updI {α : Type} (l : List (It α)) (id : Int) (x : α) : List (It α) := l.map fun j => if j.id = id then { j with x := x } else j
section
variable {α : Type} {l : List (It α)} {id : Int} {x : α}
theorem updI_ent : (updI l id x).map It.ent = l.map It.ent := by
  unfold updI
  rw [List.map_map]
  apply List.map_congr_left
  intro j _
  simp only [Function.comp]
  split <;> rfl
theorem updI_p : (updI l id x).map It.p = Tab20.upd (l.map It.p) id x := by
  unfold updI Tab20.upd
  rw [List.map_map, List.map_map]
  apply List.map_congr_left
  intro j _
  simp only [Function.comp, It.p]
  by_cases h : j.id = id
  · simp [h]
  · simp [h]
theorem item_uniq (hl : (l.map It.p).Pairwise fun p q => p.1 < q.1) {i k : It α} (hi : i ∈ l) (hk : k ∈ l) (he : i.id = k.id) : i = k := by
  induction l with
  | nil => cases hi
  | cons a l ih =>
    simp only [List.map_cons, List.pairwise_cons] at hl
    rcases List.mem_cons.1 hi with rfl | hi
    · rcases List.mem_cons.1 hk with rfl | hk
      · rfl
      · have := hl.1 _ (List.mem_map_of_mem hk)
        simp only [It.p] at this
        omega
    · rcases List.mem_cons.1 hk with rfl | hk
      · rename_i hi2
        have := hl.1 _ (List.mem_map_of_mem hi2)
        simp only [It.p] at this
        omega
      · exact ih hl.2 hi hk
theorem Reg.set {h : H} {T : TypeId} {cs : α → Array Value} (hr : Reg h T cs l) (hl : (l.map It.p).Pairwise fun p q => p.1 < q.1) {i : It α} (hi : i ∈ l) : Reg (h.setIfInBounds i.ad (.cells (cs x) T .own)) T cs (updI l i.id x) := by
  have nd : ∀ k ∈ l, k.id ≠ i.id → i.ad ≠ k.ad := by
    intro k hk hne
    have := hr.nd
    by_cases he : i.ad = k.ad
    · exfalso
      have hik : i ≠ k := fun q => hne (q ▸ rfl)
      rcases List.getElem_of_mem hi with ⟨a, ha, hai⟩
      rcases List.getElem_of_mem hk with ⟨b, hb, hbk⟩
      rcases Nat.lt_trichotomy a b with q | q | q
      · exact List.pairwise_iff_getElem.1 this a b ha hb q (by rw [hai, hbk]; exact he)
      · subst q; exact hik (hai.symm.trans hbk)
      · exact List.pairwise_iff_getElem.1 this b a hb ha q (by rw [hai, hbk]; exact he.symm)
    · exact he
  refine ⟨fun j hj => ?_, ?_⟩
  · obtain ⟨k, hk, rfl⟩ := List.mem_map.1 hj
    by_cases hc : k.id = i.id
    · have := item_uniq hl hk hi hc
      subst this
      rw [if_pos rfl]
      exact gs1 (lt_get (hr.mem _ hk))
    · rw [if_neg hc, gs2 (nd k hk hc)]
      exact hr.mem k hk
  · unfold updI
    rw [List.pairwise_map]
    refine hr.nd.imp fun {a b} hab => ?_
    split <;> split <;> exact hab
theorem Reg.keep {h h' : H} {T : TypeId} {cs : α → Array Value} (hr : Reg h T cs l) (hk : ∀ i ∈ l, h'[i.ad]? = h[i.ad]?) : Reg h' T cs l :=
  ⟨fun i hi => by rw [hk i hi]; exact hr.mem i hi, hr.nd⟩
theorem Reg.other {h : H} {T : TypeId} {cs : α → Array Value} (hr : Reg h T cs l) {b : Nat} {o : HObj} (hb : h[b]? = some o) (hne : ∀ c, o ≠ .cells c T .own) (o' : HObj) : Reg (h.setIfInBounds b o') T cs l :=
  hr.keep fun i hi => gs2 (by rintro rfl; have := hr.mem i hi; rw [hb] at this; exact hne _ (Option.some.inj this))
theorem Reg.push {h : H} {T : TypeId} {cs : α → Array Value} (hr : Reg h T cs l) (o : HObj) : Reg (h.push o) T cs l :=
  hr.keep fun i hi => gp2 (lt_get (hr.mem i hi))
theorem Reg.add {h : H} {T : TypeId} {cs : α → Array Value} (hr : Reg h T cs l) (n : Int) (b : Nat) : Reg (h.push (.cells (cs x) T .own)) T cs (l ++ [⟨n, x, h.size, b⟩]) := by
  refine ⟨fun i hi => ?_, ?_⟩
  · rcases List.mem_append.1 hi with hi | hi
    · exact (hr.push _).mem i hi
    · simp only [List.mem_singleton] at hi
      subst hi
      exact gp1
  · rw [List.pairwise_append]
    refine ⟨hr.nd, by simp, fun i hi j hj => ?_⟩
    simp only [List.mem_singleton] at hj
    subst hj
    exact Nat.ne_of_lt (lt_get (hr.mem i hi))
theorem Reg.rem {h : H} {T : TypeId} {cs : α → Array Value} (hr : Reg h T cs l) (q : It α → Bool) : Reg h T cs (l.eraseP q) :=
  ⟨fun i hi => hr.mem i (List.mem_of_mem_eraseP hi), hr.nd.sublist List.eraseP_sublist⟩
theorem BoOk.upd {c : Nat} (h : BoOk l c) : BoOk (updI l id x) c := by
  refine ⟨fun i hi => ?_, ?_⟩
  · obtain ⟨k, hk, rfl⟩ := List.mem_map.1 hi
    split <;> exact h.lt k hk
  · unfold updI
    rw [List.pairwise_map]
    refine h.ne.imp fun {a b} hab => ?_
    split <;> split <;> exact hab
theorem BoOk.add {c : Nat} (h : BoOk l c) (n : Int) (b : Nat) : BoOk (l ++ [⟨n, x, b, c⟩]) (c + 1) := by
  refine ⟨fun i hi => ?_, ?_⟩
  · rcases List.mem_append.1 hi with hi | hi
    · have := h.lt i hi; omega
    · simp only [List.mem_singleton] at hi; subst hi; exact Nat.lt_succ_self _
  · rw [List.pairwise_append]
    refine ⟨h.ne, by simp, fun i hi j hj => ?_⟩
    simp only [List.mem_singleton] at hj; subst hj
    exact Nat.ne_of_lt (h.lt i hi)
theorem BoOk.rem {c : Nat} (h : BoOk l c) (q : It α → Bool) : BoOk (l.eraseP q) c :=
  ⟨fun i hi => h.lt i (List.mem_of_mem_eraseP hi), h.ne.sublist List.eraseP_sublist⟩
theorem eraseP_ent (n : Int) : (l.map It.ent).eraseP (fun e => e.1 == n) = (l.eraseP fun i => i.id == n).map It.ent := by
  rw [List.eraseP_map]; rfl
theorem eraseP_p (n : Int) : Tab20.rem (l.map It.p) n = (l.eraseP fun i => i.id == n).map It.p := by
  unfold Tab20.rem
  rw [List.eraseP_map]; rfl
end

section
variable {X : Hooks} {h : H} {t mB mO cB cO : Nat} {T : Tb} {lB : List (It Bk)} {lO : List (It At)} {id : Int}
theorem cells_ne {cs cs' : Array Value} {T T' : TypeId} {k k' : Kind} (hT : T ≠ T') : (HObj.cells cs T k) ≠ .cells cs' T' k' := fun q => by cases q; exact hT rfl
theorem map_ne {es : Array MapEntry} {c : Nat} {k k' : Kind} {cs' : Array Value} {T' : TypeId} : (HObj.map es c k) ≠ .cells cs' T' k' := fun q => by cases q
theorem ne_map {es : Array MapEntry} {c : Nat} {k k' : Kind} {cs' : Array Value} {T' : TypeId} : (HObj.cells cs' T' k') ≠ .map es c k := fun q => by cases q
theorem TabP.setB (hT : TabP h t T mB mO lB lO cB cO) (hO : Ord T.bs T.lb) {i : It Bk} (hi : i ∈ lB) (x : Bk) : TabP (h.setIfInBounds i.ad (.cells (bkC x) 39 .own)) t { T with bs := Tab20.upd T.bs i.id x } mB mO (updI lB i.id x) lO cB cO := by
  have hm := hT.regB.mem i hi
  refine ⟨?_, ?_, ?_, hT.ne, hT.regB.set (hT.bs ▸ hO.lt) hi, hT.regO.other hm (fun c => cells_ne (by decide)) _, ?_, hT.os, hT.boB.upd, hT.boO⟩
  · rw [gs2 (ne_of_get hm hT.tab (cells_ne (by decide)))]; exact hT.tab
  · rw [gs2 (ne_of_get hm hT.mapB ne_map), updI_ent]; exact hT.mapB
  · rw [gs2 (ne_of_get hm hT.mapO ne_map)]; exact hT.mapO
  · rw [updI_p, hT.bs]
theorem TabP.setO (hT : TabP h t T mB mO lB lO cB cO) (hO : Ord T.os T.lo) {i : It At} (hi : i ∈ lO) (x : At) : TabP (h.setIfInBounds i.ad (.cells (atC x) 23 .own)) t { T with os := Tab20.upd T.os i.id x } mB mO lB (updI lO i.id x) cB cO := by
  have hm := hT.regO.mem i hi
  refine ⟨?_, ?_, ?_, hT.ne, hT.regB.other hm (fun c => cells_ne (by decide)) _, hT.regO.set (hT.os ▸ hO.lt) hi, hT.bs, ?_, hT.boB, hT.boO.upd⟩
  · rw [gs2 (ne_of_get hm hT.tab (cells_ne (by decide)))]; exact hT.tab
  · rw [gs2 (ne_of_get hm hT.mapB ne_map)]; exact hT.mapB
  · rw [gs2 (ne_of_get hm hT.mapO ne_map), updI_ent]; exact hT.mapO
  · rw [updI_p, hT.os]
theorem TabP.push (hT : TabP h t T mB mO lB lO cB cO) (o : HObj) : TabP (h.push o) t T mB mO lB lO cB cO :=
  ⟨by rw [gp2 (lt_get hT.tab)]; exact hT.tab, by rw [gp2 (lt_get hT.mapB)]; exact hT.mapB, by rw [gp2 (lt_get hT.mapO)]; exact hT.mapO, hT.ne, hT.regB.push o, hT.regO.push o, hT.bs, hT.os, hT.boB, hT.boO⟩
theorem TabP.ext {h' : H} (hT : TabP h t T mB mO lB lO cB cO) (he : Ext h h') : TabP h' t T mB mO lB lO cB cO :=
  ⟨he.some hT.tab, he.some hT.mapB, he.some hT.mapO, hT.ne, ⟨fun i hi => he.some (hT.regB.mem i hi), hT.regB.nd⟩, ⟨fun i hi => he.some (hT.regO.mem i hi), hT.regO.nd⟩, hT.bs, hT.os, hT.boB, hT.boO⟩
theorem TabP.addB (hT : TabP h t T mB mO lB lO cB cO) (x : Bk) :
    TabP (((h.push (.cells (bkC x) 39 .own)).setIfInBounds t (.cells #[.map (some mB), .int .i64 (T.lb + 1), .map (some mO), .int .i64 T.lo] 78 .own)).setIfInBounds mB (.map (mkE (lB.map It.ent ++ [(T.lb + 1, pn h.size, cB)])) (cB + 1) .own)) t
      { T with bs := T.bs ++ [(T.lb + 1, x)], lb := T.lb + 1 } mB mO (lB ++ [⟨T.lb + 1, x, h.size, cB⟩]) lO (cB + 1) cO := by
  have h1 := hT.push (.cells (bkC x) 39 .own)
  have n1 : t ≠ mB := ne_of_get hT.tab hT.mapB ne_map
  have n2 : t ≠ mO := ne_of_get hT.tab hT.mapO ne_map
  have r1 := (hT.regB.add (x := x) (T.lb + 1) cB).other h1.tab (fun c => cells_ne (by decide)) (.cells #[.map (some mB), .int .i64 (T.lb + 1), .map (some mO), .int .i64 T.lo] 78 .own)
  have m1 : ((h.push (.cells (bkC x) 39 .own)).setIfInBounds t (.cells #[.map (some mB), .int .i64 (T.lb + 1), .map (some mO), .int .i64 T.lo] 78 .own))[mB]? = some (.map (mkE (lB.map It.ent)) cB .own) := by rw [gs2 n1]; exact h1.mapB
  refine ⟨?_, ?_, ?_, hT.ne, r1.other m1 (fun c => map_ne) _, ((h1.regO).other h1.tab (fun c => cells_ne (by decide)) _).other m1 (fun c => map_ne) _, ?_, hT.os, hT.boB.add _ _, hT.boO⟩
  · rw [gs2 (Ne.symm n1), gs1 (lt_get h1.tab)]
  · rw [gs1 (by rw [Array.size_setIfInBounds]; exact lt_get h1.mapB)]
    simp only [List.map_append, List.map_cons, List.map_nil, It.ent]
  · rw [gs2 hT.ne, gs2 n2]; exact h1.mapO
  · simp [hT.bs, It.p]
theorem TabP.addO (hT : TabP h t T mB mO lB lO cB cO) (x : At) :
    TabP (((h.push (.cells (atC x) 23 .own)).setIfInBounds t (.cells #[.map (some mB), .int .i64 T.lb, .map (some mO), .int .i64 (T.lo + 1)] 78 .own)).setIfInBounds mO (.map (mkE (lO.map It.ent ++ [(T.lo + 1, pn h.size, cO)])) (cO + 1) .own)) t
      { T with os := T.os ++ [(T.lo + 1, x)], lo := T.lo + 1 } mB mO lB (lO ++ [⟨T.lo + 1, x, h.size, cO⟩]) cB (cO + 1) := by
  have h1 := hT.push (.cells (atC x) 23 .own)
  have n1 : t ≠ mB := ne_of_get hT.tab hT.mapB ne_map
  have n2 : t ≠ mO := ne_of_get hT.tab hT.mapO ne_map
  have r1 := (hT.regO.add (x := x) (T.lo + 1) cO).other h1.tab (fun c => cells_ne (by decide)) (.cells #[.map (some mB), .int .i64 T.lb, .map (some mO), .int .i64 (T.lo + 1)] 78 .own)
  have m1 : ((h.push (.cells (atC x) 23 .own)).setIfInBounds t (.cells #[.map (some mB), .int .i64 T.lb, .map (some mO), .int .i64 (T.lo + 1)] 78 .own))[mO]? = some (.map (mkE (lO.map It.ent)) cO .own) := by rw [gs2 n2]; exact h1.mapO
  refine ⟨?_, ?_, ?_, hT.ne, ((h1.regB).other h1.tab (fun c => cells_ne (by decide)) _).other m1 (fun c => map_ne) _, r1.other m1 (fun c => map_ne) _, hT.bs, ?_, hT.boB, hT.boO.add _ _⟩
  · rw [gs2 (Ne.symm n2), gs1 (lt_get h1.tab)]
  · rw [gs2 (Ne.symm hT.ne), gs2 n1]; exact h1.mapB
  · rw [gs1 (by rw [Array.size_setIfInBounds]; exact lt_get h1.mapO)]
    simp only [List.map_append, List.map_cons, List.map_nil, It.ent]
  · simp [hT.os, It.p]
theorem TabP.remB (hT : TabP h t T mB mO lB lO cB cO) (n : Int) : TabP (h.setIfInBounds mB (.map (mkE ((lB.map It.ent).eraseP fun e => e.1 == n)) cB .own)) t { T with bs := Tab20.rem T.bs n } mB mO (lB.eraseP fun i => i.id == n) lO cB cO := by
  refine ⟨?_, ?_, ?_, hT.ne, (hT.regB.rem _).other hT.mapB (fun c => map_ne) _, hT.regO.other hT.mapB (fun c => map_ne) _, ?_, hT.os, hT.boB.rem _, hT.boO⟩
  · rw [gs2 (ne_of_get hT.mapB hT.tab map_ne)]; exact hT.tab
  · rw [gs1 (lt_get hT.mapB), eraseP_ent]
  · rw [gs2 hT.ne]; exact hT.mapO
  · rw [hT.bs, eraseP_p]
theorem TabP.remO (hT : TabP h t T mB mO lB lO cB cO) (n : Int) : TabP (h.setIfInBounds mO (.map (mkE ((lO.map It.ent).eraseP fun e => e.1 == n)) cO .own)) t { T with os := Tab20.rem T.os n } mB mO lB (lO.eraseP fun i => i.id == n) cB cO := by
  refine ⟨?_, ?_, ?_, hT.ne, hT.regB.other hT.mapO (fun c => map_ne) _, (hT.regO.rem _).other hT.mapO (fun c => map_ne) _, hT.bs, ?_, hT.boB, hT.boO.rem _⟩
  · rw [gs2 (ne_of_get hT.mapO hT.tab map_ne)]; exact hT.tab
  · rw [gs2 (Ne.symm hT.ne)]; exact hT.mapB
  · rw [gs1 (lt_get hT.mapO), eraseP_ent]
  · rw [hT.os, eraseP_p]

/-- What the program's functions do not touch. -/
def pP : HObj → Bool
  | .cells _ T k => decide (k = .ro) || (T != 78 && T != 39 && T != 23)
  | .map _ _ k => decide (k = .ro)
  | _ => true
def TabE (h : H) (t : Nat) (T : Tb) : Prop := ∃ mB mO lB lO cB cO, TabP h t T mB mO lB lO cB cO
theorem TabE.ext {h' : H} (hT : TabE h t T) (he : Ext h h') : TabE h' t T := let ⟨a, b, c, d, e, f, k⟩ := hT; ⟨a, b, c, d, e, f, k.ext he⟩

/-! ### the functions -/
theorem pn32 {t : Nat} {a b : Operand} {h : H} : vB P .eql 32 a b (.pointer (some ⟨t, 0, none⟩)) (.pointer none) h = some (.bool false) := vB_ptr_eq_nil (e := 78) (by kernel_rfl)
theorem look69 {l : List Ent} {m c : Nat} {kd : Kind} {n : Int} (hm : h[m]? = some (.map (mkE l) c kd)) : vR P (.lookup 69 (.const (.map (some m))) (.const (.int .i64 n)) true) 123 h = some (.tuple #[(lget l n).getD (.pointer none), .bool (lget l n).isSome]) := vR_lookup_ok u69 u3 z83 zv83 hm
theorem look74 {l : List Ent} {m c : Nat} {kd : Kind} {n : Int} (hm : h[m]? = some (.map (mkE l) c kd)) : vR P (.lookup 74 (.const (.map (some m))) (.const (.int .i64 n)) false) 80 h = some ((lget l n).getD (.pointer none)) := vR_lookup u74 u3 z80 zv80 hm
theorem look74b {l : List Ent} {m c : Nat} {kd : Kind} {n : Int} (hm : h[m]? = some (.map (mkE l) c kd)) : vR P (.lookup 74 (.const (.map (some m))) (.const (.int .i64 n)) true) 114 h = some (.tuple #[(lget l n).getD (.pointer none), .bool (lget l n).isSome]) := vR_lookup_ok u74 u3 z80 zv80 hm
theorem bk0 {b : Bk} : (bkC b)[0]? = some (.int .i64 b.ob) := nrfl rfl
theorem bk1 {b : Bk} : (bkC b)[1]? = some (.int .i64 b.ac) := nrfl rfl
theorem bk2 {b : Bk} : (bkC b)[2]? = some (.int .i64 b.de) := nrfl rfl
theorem bk3 {b : Bk} : (bkC b)[3]? = some (.bool b.ap) := nrfl rfl
theorem bk4 {b : Bk} : (bkC b)[4]? = some (.int .i64 b.off) := nrfl rfl
theorem bk5 {b : Bk} : (bkC b)[5]? = some (.int .i64 b.re) := nrfl rfl
theorem at0 {a : At} : (atC a)[0]? = some (.int .i64 a.m) := nrfl rfl
theorem at1 {a : At} : (atC a)[1]? = some (.int .i64 a.u) := nrfl rfl
theorem at2 {a : At} : (atC a)[2]? = some (.int .i64 a.g) := nrfl rfl
theorem at3 {a : At} : (atC a)[3]? = some (.int .i64 a.s) := nrfl rfl
theorem at4 {a : At} : (atC a)[4]? = some (.int .i64 a.n) := nrfl rfl
theorem at5 {a : At} : (atC a)[5]? = some (.bool a.d) := nrfl rfl
theorem bkS {b : Bk} : (bkC b).size = 6 := nrfl rfl
theorem atS {a : At} : (atC a).size = 6 := nrfl rfl

theorem block_none (hX : X 61 = none) (hT : TabP h t T mB mO lB lO cB cO) (hg : Tab20.get T.bs id = none) : CX X 61 #[pn t, .int .i64 id] h = some (.tuple #[.pointer none, .pointer none, .int .i64 3], h) := by
  refine intoN (f := 61) (tmps := #[pn t, .int .i64 id, undef, undef, undef, undef, undef, undef, undef, undef, undef, undef, undef, undef, undef, undef, undef, undef, undef, undef, undef, undef, undef, undef, undef, undef, undef, undef, undef, undef, undef, undef, undef, undef, undef])  hX rfl (by kernel_rfl) (by kernel_rfl) (.of_af (by kernel_rfl)) ?_
  rw [hT.bs] at hg
  simp only [f61, pn32, bd1_n, bd2_n, ifV_t, ifV_f, vP_lss, vP_leq, vP_gtr, vP_geq, vP_add, vP_sub, vP_mul, vP_and, vP_or, vP_xor, vP_andNot, vP_not, vP_neg, vP_extract, vP_nilCheck, vB_eqi, vB_nei, ld1_some, lda_full, mlen_some, List.getElem?_toArray, List.getElem?_cons_zero, List.getElem?_cons_succ, Nat.zero_add, Nat.add_zero, List.size_toArray, List.length_cons, List.length_nil, Nat.reduceAdd, vP_min2, vP_max2, vP_min3, same_int, same_bool, same_str, same_ptr, same_slice, same_map, same_agg, same_tuple, List.all_cons, List.all_nil, gvc, Bool.and_self, Bool.and_true, ibd_23_0_3_23, iln_31_3, ibd_26__26, ibd_39_1_3_39, iia_31_0, ild_5_5, icv_5_3_3, icv_5_2_2, ial_23_0, ist_23_0, ifa_23_3_0, ild_2_2, iln_45_3, iia_45_0, ild_50_50, ial_50_0, ist_50_0, iln_24_3, iia_24_0, ild_3_3, ial_39_0, ist_39_0, ifa_39_0_0, ifa_39_4_0, ifa_39_1_0, ifa_39_2_0, ial_30_0, ist_30_0, ial_58_0, ist_58_0, ild_23_23, ild_30_30, ild_39_39, ild_58_58, ibx_23_0, ibx_26_0, ifa_23_0_0, ist_3_0, ild_65_65, ial_64_0, ist_64_0, ild_26_26, ifa_64_0_0, ifa_64_1_0, ifa_26_0_0, ifa_23_5_0, ild_4_4, ibx_30_0, ifa_30_5_0, ifa_30_0_0, ifa_30_1_0, ifa_30_2_0, imm_69_69, ibd_71_0_71, ibd_73_0_73, imm_74_74, ibd_76_0_76, ibd_78_0_1_78, ibx_78_32, ifa_23_1_0, ifa_23_2_0, ifa_23_4_0, ifa_78_1_0, ifa_76_0_0, ild_74_74, iln_74_3, ibx_3_0, ibx_39_0, ifa_39_3_0, imf_31_84, ifa_78_0_0, ifa_73_0_0, ifa_71_0_0, ild_69_69, iln_69_3, ibd_39_0_1_2_3_5_39, ist_2_0, ibd_23__23, ibd_94__94, ibx_94_47, ibx_50_0, ifa_50_0_0, ifa_50_5_0, ifa_50_1_0, ifa_50_7_0, ifa_50_6_0, ifa_50_2_0, ifa_50_4_0, ifa_50_3_0, imf_60_84, ibd_39__39, ibd_30__30, ifa_94_0_0, ild_91_91, iia_91_0, ifa_110_1_0, ibd_58__58, ifa_94_1_0, ild_92_92, iia_92_0, ifa_112_1_0, iln_92_3, ifa_58_0_0, ifa_112_0_0, ibs_24_1_0_24, ifa_26_1_0, ifa_26_2_0, ild_24_24, ifa_76_1_0, ifa_71_1_0, ifa_30_3_0, ifa_30_4_0, iln_91_3, ifa_94_2_0, ibd_110_0_1_110, ibs_91_1_0_91, ist_91_0, ibx_58_0, ifa_58_1_0, ifa_58_2_0, ifa_58_3_0, ifa_94_3_0, ibd_58_0_1_2_3_5_58, ibd_112_0_1_112, ibs_92_1_0_92, ist_92_0, ifa_39_5_0, ifa_58_5_0, ibs_92_0__92, ifa_58_4_0, ibd_122_0_1_2_122, ifa_110_0_0, ibs_91_0__91, hT.tab, look69 hT.mapB, get_noitem hg, Option.getD_none, Option.isSome_none, Bool.not_false]
  exact ⟨_, _, rfl, rfl, Ext.refl _⟩
theorem block_some (hX : X 61 = none) (hT : TabP h t T mB mO lB lO cB cO) {i : It Bk} (hi : i ∈ lB) (hl : lget (lB.map It.ent) id = some (pn i.ad)) {j : It At} (hj : j ∈ lO) (hl2 : lget (lO.map It.ent) i.x.ob = some (pn j.ad)) :
    CX X 61 #[pn t, .int .i64 id] h = some (.tuple #[pn i.ad, pn j.ad, .int .i64 0], h) := by
  have hm := hT.regB.mem i hi
  have hmj := hT.regO.mem j hj
  refine intoN (f := 61) (tmps := #[pn t, .int .i64 id, undef, undef, undef, undef, undef, undef, undef, undef, undef, undef, undef, undef, undef, undef, undef, undef, undef, undef, undef, undef, undef, undef, undef, undef, undef, undef, undef, undef, undef, undef, undef, undef, undef])  hX rfl (by kernel_rfl) (by kernel_rfl) (clo_tuple (clo_cons (clo_ptr (lt_get hm)) (clo_cons (clo_ptr (lt_get hmj)) (clo_cons (.of_af rfl) clo_nil)))) ?_
  simp only [f61, pn32, bd1_n, bd2_n, ifV_t, ifV_f, vP_lss, vP_leq, vP_gtr, vP_geq, vP_add, vP_sub, vP_mul, vP_and, vP_or, vP_xor, vP_andNot, vP_not, vP_neg, vP_extract, vP_nilCheck, vB_eqi, vB_nei, ld1_some, lda_full, mlen_some, List.getElem?_toArray, List.getElem?_cons_zero, List.getElem?_cons_succ, Nat.zero_add, Nat.add_zero, List.size_toArray, List.length_cons, List.length_nil, Nat.reduceAdd, vP_min2, vP_max2, vP_min3, same_int, same_bool, same_str, same_ptr, same_slice, same_map, same_agg, same_tuple, List.all_cons, List.all_nil, gvc, Bool.and_self, Bool.and_true, ibd_23_0_3_23, iln_31_3, ibd_26__26, ibd_39_1_3_39, iia_31_0, ild_5_5, icv_5_3_3, icv_5_2_2, ial_23_0, ist_23_0, ifa_23_3_0, ild_2_2, iln_45_3, iia_45_0, ild_50_50, ial_50_0, ist_50_0, iln_24_3, iia_24_0, ild_3_3, ial_39_0, ist_39_0, ifa_39_0_0, ifa_39_4_0, ifa_39_1_0, ifa_39_2_0, ial_30_0, ist_30_0, ial_58_0, ist_58_0, ild_23_23, ild_30_30, ild_39_39, ild_58_58, ibx_23_0, ibx_26_0, ifa_23_0_0, ist_3_0, ild_65_65, ial_64_0, ist_64_0, ild_26_26, ifa_64_0_0, ifa_64_1_0, ifa_26_0_0, ifa_23_5_0, ild_4_4, ibx_30_0, ifa_30_5_0, ifa_30_0_0, ifa_30_1_0, ifa_30_2_0, imm_69_69, ibd_71_0_71, ibd_73_0_73, imm_74_74, ibd_76_0_76, ibd_78_0_1_78, ibx_78_32, ifa_23_1_0, ifa_23_2_0, ifa_23_4_0, ifa_78_1_0, ifa_76_0_0, ild_74_74, iln_74_3, ibx_3_0, ibx_39_0, ifa_39_3_0, imf_31_84, ifa_78_0_0, ifa_73_0_0, ifa_71_0_0, ild_69_69, iln_69_3, ibd_39_0_1_2_3_5_39, ist_2_0, ibd_23__23, ibd_94__94, ibx_94_47, ibx_50_0, ifa_50_0_0, ifa_50_5_0, ifa_50_1_0, ifa_50_7_0, ifa_50_6_0, ifa_50_2_0, ifa_50_4_0, ifa_50_3_0, imf_60_84, ibd_39__39, ibd_30__30, ifa_94_0_0, ild_91_91, iia_91_0, ifa_110_1_0, ibd_58__58, ifa_94_1_0, ild_92_92, iia_92_0, ifa_112_1_0, iln_92_3, ifa_58_0_0, ifa_112_0_0, ibs_24_1_0_24, ifa_26_1_0, ifa_26_2_0, ild_24_24, ifa_76_1_0, ifa_71_1_0, ifa_30_3_0, ifa_30_4_0, iln_91_3, ifa_94_2_0, ibd_110_0_1_110, ibs_91_1_0_91, ist_91_0, ibx_58_0, ifa_58_1_0, ifa_58_2_0, ifa_58_3_0, ifa_94_3_0, ibd_58_0_1_2_3_5_58, ibd_112_0_1_112, ibs_92_1_0_92, ist_92_0, ifa_39_5_0, ifa_58_5_0, ibs_92_0__92, ifa_58_4_0, ibd_122_0_1_2_122, ifa_110_0_0, ibs_91_0__91, hT.tab, look69 hT.mapB, look74 hT.mapO, hl, hl2, hm, bk0, Option.getD_some, Option.isSome_some, Bool.not_true]
  exact ⟨_, _, rfl, rfl, Ext.refl _⟩
theorem object_none (hX : X 30 = none) (hT : TabP h t T mB mO lB lO cB cO) (hg : Tab20.get T.os id = none) : CX X 30 #[pn t, .int .i64 id] h = some (.tuple #[.pointer none, .int .i64 22], h) := by
  refine intoN (f := 30) (tmps := #[pn t, .int .i64 id, undef, undef, undef, undef, undef, undef, undef, undef, undef, undef, undef, undef, undef, undef, undef, undef, undef, undef, undef, undef, undef])  hX rfl (by kernel_rfl) (by kernel_rfl) (.of_af (by kernel_rfl)) ?_
  rw [hT.os] at hg
  simp only [f30, pn32, bd1_n, bd2_n, ifV_t, ifV_f, vP_lss, vP_leq, vP_gtr, vP_geq, vP_add, vP_sub, vP_mul, vP_and, vP_or, vP_xor, vP_andNot, vP_not, vP_neg, vP_extract, vP_nilCheck, vB_eqi, vB_nei, ld1_some, lda_full, mlen_some, List.getElem?_toArray, List.getElem?_cons_zero, List.getElem?_cons_succ, Nat.zero_add, Nat.add_zero, List.size_toArray, List.length_cons, List.length_nil, Nat.reduceAdd, vP_min2, vP_max2, vP_min3, same_int, same_bool, same_str, same_ptr, same_slice, same_map, same_agg, same_tuple, List.all_cons, List.all_nil, gvc, Bool.and_self, Bool.and_true, ibd_23_0_3_23, iln_31_3, ibd_26__26, ibd_39_1_3_39, iia_31_0, ild_5_5, icv_5_3_3, icv_5_2_2, ial_23_0, ist_23_0, ifa_23_3_0, ild_2_2, iln_45_3, iia_45_0, ild_50_50, ial_50_0, ist_50_0, iln_24_3, iia_24_0, ild_3_3, ial_39_0, ist_39_0, ifa_39_0_0, ifa_39_4_0, ifa_39_1_0, ifa_39_2_0, ial_30_0, ist_30_0, ial_58_0, ist_58_0, ild_23_23, ild_30_30, ild_39_39, ild_58_58, ibx_23_0, ibx_26_0, ifa_23_0_0, ist_3_0, ild_65_65, ial_64_0, ist_64_0, ild_26_26, ifa_64_0_0, ifa_64_1_0, ifa_26_0_0, ifa_23_5_0, ild_4_4, ibx_30_0, ifa_30_5_0, ifa_30_0_0, ifa_30_1_0, ifa_30_2_0, imm_69_69, ibd_71_0_71, ibd_73_0_73, imm_74_74, ibd_76_0_76, ibd_78_0_1_78, ibx_78_32, ifa_23_1_0, ifa_23_2_0, ifa_23_4_0, ifa_78_1_0, ifa_76_0_0, ild_74_74, iln_74_3, ibx_3_0, ibx_39_0, ifa_39_3_0, imf_31_84, ifa_78_0_0, ifa_73_0_0, ifa_71_0_0, ild_69_69, iln_69_3, ibd_39_0_1_2_3_5_39, ist_2_0, ibd_23__23, ibd_94__94, ibx_94_47, ibx_50_0, ifa_50_0_0, ifa_50_5_0, ifa_50_1_0, ifa_50_7_0, ifa_50_6_0, ifa_50_2_0, ifa_50_4_0, ifa_50_3_0, imf_60_84, ibd_39__39, ibd_30__30, ifa_94_0_0, ild_91_91, iia_91_0, ifa_110_1_0, ibd_58__58, ifa_94_1_0, ild_92_92, iia_92_0, ifa_112_1_0, iln_92_3, ifa_58_0_0, ifa_112_0_0, ibs_24_1_0_24, ifa_26_1_0, ifa_26_2_0, ild_24_24, ifa_76_1_0, ifa_71_1_0, ifa_30_3_0, ifa_30_4_0, iln_91_3, ifa_94_2_0, ibd_110_0_1_110, ibs_91_1_0_91, ist_91_0, ibx_58_0, ifa_58_1_0, ifa_58_2_0, ifa_58_3_0, ifa_94_3_0, ibd_58_0_1_2_3_5_58, ibd_112_0_1_112, ibs_92_1_0_92, ist_92_0, ifa_39_5_0, ifa_58_5_0, ibs_92_0__92, ifa_58_4_0, ibd_122_0_1_2_122, ifa_110_0_0, ibs_91_0__91, hT.tab, look74b hT.mapO, get_noitem hg, Option.getD_none, Option.isSome_none, Bool.not_false]
  exact ⟨_, _, rfl, rfl, Ext.refl _⟩
theorem object_some (hX : X 30 = none) (hT : TabP h t T mB mO lB lO cB cO) {j : It At} (hj : j ∈ lO) (hl2 : lget (lO.map It.ent) id = some (pn j.ad)) :
    CX X 30 #[pn t, .int .i64 id] h = some (.tuple #[pn j.ad, .int .i64 0], h) := by
  have hmj := hT.regO.mem j hj
  refine intoN (f := 30) (tmps := #[pn t, .int .i64 id, undef, undef, undef, undef, undef, undef, undef, undef, undef, undef, undef, undef, undef, undef, undef, undef, undef, undef, undef, undef, undef])  hX rfl (by kernel_rfl) (by kernel_rfl) (clo_tuple (clo_cons (clo_ptr (lt_get hmj)) (clo_cons (.of_af rfl) clo_nil))) ?_
  simp only [f30, pn32, bd1_n, bd2_n, ifV_t, ifV_f, vP_lss, vP_leq, vP_gtr, vP_geq, vP_add, vP_sub, vP_mul, vP_and, vP_or, vP_xor, vP_andNot, vP_not, vP_neg, vP_extract, vP_nilCheck, vB_eqi, vB_nei, ld1_some, lda_full, mlen_some, List.getElem?_toArray, List.getElem?_cons_zero, List.getElem?_cons_succ, Nat.zero_add, Nat.add_zero, List.size_toArray, List.length_cons, List.length_nil, Nat.reduceAdd, vP_min2, vP_max2, vP_min3, same_int, same_bool, same_str, same_ptr, same_slice, same_map, same_agg, same_tuple, List.all_cons, List.all_nil, gvc, Bool.and_self, Bool.and_true, ibd_23_0_3_23, iln_31_3, ibd_26__26, ibd_39_1_3_39, iia_31_0, ild_5_5, icv_5_3_3, icv_5_2_2, ial_23_0, ist_23_0, ifa_23_3_0, ild_2_2, iln_45_3, iia_45_0, ild_50_50, ial_50_0, ist_50_0, iln_24_3, iia_24_0, ild_3_3, ial_39_0, ist_39_0, ifa_39_0_0, ifa_39_4_0, ifa_39_1_0, ifa_39_2_0, ial_30_0, ist_30_0, ial_58_0, ist_58_0, ild_23_23, ild_30_30, ild_39_39, ild_58_58, ibx_23_0, ibx_26_0, ifa_23_0_0, ist_3_0, ild_65_65, ial_64_0, ist_64_0, ild_26_26, ifa_64_0_0, ifa_64_1_0, ifa_26_0_0, ifa_23_5_0, ild_4_4, ibx_30_0, ifa_30_5_0, ifa_30_0_0, ifa_30_1_0, ifa_30_2_0, imm_69_69, ibd_71_0_71, ibd_73_0_73, imm_74_74, ibd_76_0_76, ibd_78_0_1_78, ibx_78_32, ifa_23_1_0, ifa_23_2_0, ifa_23_4_0, ifa_78_1_0, ifa_76_0_0, ild_74_74, iln_74_3, ibx_3_0, ibx_39_0, ifa_39_3_0, imf_31_84, ifa_78_0_0, ifa_73_0_0, ifa_71_0_0, ild_69_69, iln_69_3, ibd_39_0_1_2_3_5_39, ist_2_0, ibd_23__23, ibd_94__94, ibx_94_47, ibx_50_0, ifa_50_0_0, ifa_50_5_0, ifa_50_1_0, ifa_50_7_0, ifa_50_6_0, ifa_50_2_0, ifa_50_4_0, ifa_50_3_0, imf_60_84, ibd_39__39, ibd_30__30, ifa_94_0_0, ild_91_91, iia_91_0, ifa_110_1_0, ibd_58__58, ifa_94_1_0, ild_92_92, iia_92_0, ifa_112_1_0, iln_92_3, ifa_58_0_0, ifa_112_0_0, ibs_24_1_0_24, ifa_26_1_0, ifa_26_2_0, ild_24_24, ifa_76_1_0, ifa_71_1_0, ifa_30_3_0, ifa_30_4_0, iln_91_3, ifa_94_2_0, ibd_110_0_1_110, ibs_91_1_0_91, ist_91_0, ibx_58_0, ifa_58_1_0, ifa_58_2_0, ifa_58_3_0, ifa_94_3_0, ibd_58_0_1_2_3_5_58, ibd_112_0_1_112, ibs_92_1_0_92, ist_92_0, ifa_39_5_0, ifa_58_5_0, ibs_92_0__92, ifa_58_4_0, ibd_122_0_1_2_122, ifa_110_0_0, ibs_91_0__91, hT.tab, look74b hT.mapO, hl2, Option.getD_some, Option.isSome_some, Bool.not_true]
  exact ⟨_, _, rfl, rfl, Ext.refl _⟩
end
end Go.Proofs.YtfmikgbachnneaaDoor
