/- The hook of register.sorted is sound: whatever the order of the map's entries. -/
import Derived.Test.YtfmikgbachnneaaDoorT20k0
import Derived.Test.YtfmikgbachnneaaDoorT20k1
import Derived.Test.YtfmikgbachnneaaDoorT20r
import Derived.Test.YtfmikgbachnneaaDoorAm21
set_option linter.unusedSimpArgs false
set_option linter.unusedVariables false
namespace Go.Proofs.YtfmikgbachnneaaDoor
open Go Go.Am Go.Tab20
set_option maxRecDepth 100000
theorem sortC : SortC P 66 := fun blk off cap zs w h1 h2 h3 => Go.Proofs.Any.slices_Sort_int Go.Proofs.Tryd.laysSort blk off cap zs w h1 h2 h3
theorem sortN (p : Option Addr) (cap : Nat) (w : World) : Calls P 66 #[.slice p 0 cap] w fun e w' => e = .returned (.tuple #[]) ∧ w' = w := Go.Proofs.Any.slices_Sort_int_none Go.Proofs.Tryd.laysSort p cap w
/-- With the sort as a hook. -/
noncomputable def X1 : Hooks := fun f => if f = 66 then some sortH else X0 f
theorem soundX1 : Sound P okAll X1 := ⟨by kernel_rfl, codes, fun f g hg => by
  unfold X1 at hg
  split at hg
  · rename_i hf
    cases hg
    subst hf
    exact sortH_ok sortC sortN
  · exact soundX0.hooks f g hg⟩
open Classical in
noncomputable def keyF (e : MapEntry) : Int := match e.key with | .int .i64 n => n | _ => 0
open Classical in
noncomputable def selF (C0 : CallF) (g : FuncId) (ca : Array Value) (h : H) (e : MapEntry) : Bool := decide (∀ h', Ext h h' → C0 g (#[e.val] ++ ca) h' = some (.bool true, h'))
theorem selIds_spec {C0 : CallF} {g : FuncId} {ca : Array Value} {h : H} : ∀ {l : List MapEntry} {ids : List Int}, selIds C0 g ca h l = some ids → (∀ e ∈ l, e.key = .int .i64 (keyF e) ∧ ∀ h', Ext h h' → C0 g (#[e.val] ++ ca) h' = some (.bool (selF C0 g ca h e), h')) ∧ ids = (l.filter (selF C0 g ca h)).map keyF
  | [], ids, hs => by
    simp only [selIds, Option.some.injEq] at hs
    subst hs
    exact ⟨by simp, rfl⟩
  | e :: l, ids, hs => by
    simp only [selIds] at hs
    split at hs
    · rename_i n hk
      have hkey : e.key = .int .i64 (keyF e) := by unfold keyF; rw [hk]
      have hkn : keyF e = n := by unfold keyF; rw [hk]
      split at hs
      · rename_i ht
        simp only [Option.map_eq_some_iff] at hs
        obtain ⟨ids', h1, rfl⟩ := hs
        obtain ⟨h2, h3⟩ := selIds_spec h1
        have hsel : selF C0 g ca h e = true := by unfold selF; exact @decide_eq_true _ (Classical.propDecidable _) ht
        refine ⟨fun x hx => ?_, by rw [List.filter_cons, hsel, h3]; simp [hkn]⟩
        rcases List.mem_cons.1 hx with rfl | hx
        · exact ⟨hkey, by rw [hsel]; exact ht⟩
        · exact h2 x hx
      · split at hs
        · rename_i hnt hf
          obtain ⟨h2, h3⟩ := selIds_spec hs
          have hsel : selF C0 g ca h e = false := by unfold selF; exact @decide_eq_false _ (Classical.propDecidable _) hnt
          refine ⟨fun x hx => ?_, by rw [List.filter_cons, hsel, h3]; rfl⟩
          rcases List.mem_cons.1 hx with rfl | hx
          · exact ⟨hkey, by rw [hsel]; exact hf⟩
          · exact h2 x hx
        · cases hs
    · cases hs
theorem sorted_perm {l l' : List Int} (h : l.Perm l') : (l.mergeSort fun x y => decide (x ≤ y)) = l'.mergeSort fun x y => decide (x ≤ y) := by
  have ht : ∀ a b c : Int, (decide (a ≤ b)) = true → decide (b ≤ c) = true → decide (a ≤ c) = true := by intro a b c; simp; omega
  have hc : ∀ a b : Int, (decide (a ≤ b) || decide (b ≤ a)) = true := by intro a b; simp; omega
  have p := (List.mergeSort_perm l fun x y => decide (x ≤ y)).trans (h.trans (List.mergeSort_perm l' fun x y => decide (x ≤ y)).symm)
  refine List.Perm.eq_of_pairwise (le := fun x y => decide (x ≤ y) = true) ?_ (List.pairwise_mergeSort ht hc l) (List.pairwise_mergeSort ht hc l') p
  intro a b _ _ h1 h2
  simp at h1 h2
  omega
/-- The ids that have been gathered, in the slice. -/
def OutOk (h h' : H) (out : Value) (ids : List Int) : Prop := (ids = [] ∧ out = .slice none 0 0) ∨ ids ≠ [] ∧ ∃ b, out = .slice (some ⟨b, 0, none⟩) ids.length ids.length ∧ h'[b]? = some (.cells (intCs ids) 3 .grown) ∧ h.size ≤ b
theorem nodup_len {α : Type} : ∀ {S L : List α}, S.Nodup → (∀ e ∈ S, e ∈ L) → S.length ≤ L.length
  | [], _, _, _ => by simp
  | e :: S, L, hn, hs => by
    obtain ⟨l1, l2, rfl⟩ := List.append_of_mem (hs e (by simp))
    rw [List.nodup_cons] at hn
    have : S.length ≤ (l1 ++ l2).length := nodup_len hn.2 fun x hx => by
      have hxe : x ≠ e := fun q => hn.1 (q ▸ hx)
      have := hs x (by simp [hx])
      simp only [List.mem_append, List.mem_cons] at this ⊢
      rcases this with q | q | q
      · exact .inl q
      · exact absurd q hxe
      · exact .inr q
    simp at this ⊢
    omega
theorem u24 : P.underlying 24 = some (.slice 3) := by kernel_rfl
theorem gr3 : growOk P 3 = true := by kernel_rfl
theorem sz3 : szT P 3 = 1 := by kernel_rfl
theorem by3 : (((P.info? 3).map (·.bytes)).getD 0) = 8 := by kernel_rfl
theorem append_ids {h h' : H} {out : Value} {ids : List Int} {n : Int} {bx : Nat} {call : CallF} (hx : Ext h h') (hO : OutOk h h' out ids) (hb : h'[bx]? = some (.cells #[.int .i64 n] 3 .own)) (hl : ids.length ≤ 1000000) :
    ∃ out' h'', vE P call (.call ⟨.builtin .append, #[(.const out), (.const (.slice (some ⟨bx, 0, none⟩) 1 1))], #[24, 24]⟩) 24 h' = some (out', h'') ∧ OutOk h h'' out' (ids ++ [n]) ∧ Ext h h'' ∧ ∀ (c : Nat) (o : HObj), h'[c]? = some o → (∀ cs T, o ≠ .cells cs T .grown) → h''[c]? = some o := by
  have hcc : cCells (.slice (some ⟨bx, 0, none⟩) 1 1) (1 * 1) h' = some #[.int .i64 n] := by
    simp only [cCells, hb]
    simp
  have hap : ∀ x y : Value, vE P call (.call ⟨.builtin .append, #[(.const x), (.const y)], #[24, 24]⟩) 24 h' = cAppend P #[24, 24] #[x, y] h' := fun x y => by simp [vE, evEff, opr, evalConst]
  rcases hO with ⟨rfl, rfl⟩ | ⟨hne, b, rfl, hbb, hbs⟩
  · refine ⟨.slice (some ⟨h'.size, 0, none⟩) 1 1, h'.push (.cells #[.int .i64 n] 3 .grown), ?_, .inr ⟨by simp, h'.size, rfl, by rw [gp1]; rfl, hx.size⟩, hx.push _, fun c o hc _ => by rw [gp2 (lt_get hc)]; exact hc⟩
    rw [hap]
    simp only [cAppend, List.getElem?_toArray, List.getElem?_cons_zero, List.getElem?_cons_succ, u24, isSeqT, gr3, srcOk, cLen, Option.bind_some, sz3, hcc, by3, Bool.not_true, Bool.or_self, Bool.false_eq_true, if_false]
    simp [oc]
  · have hlb := lt_get hbb
    refine ⟨.slice (some ⟨h'.size, 0, none⟩) (ids.length + 1) (ids.length + 1), (h'.setIfInBounds b .dead).push (.cells (intCs ids ++ #[.int .i64 n]) 3 .grown), ?_, .inr ⟨by simp, h'.size, by simp, ?_, hx.size⟩, (hx.set hbs _).push _, fun c o hc hg => ?_⟩
    · rw [hap]
      have hsz : (intCs ids).size = ids.length := by simp [intCs]
      have hpos : 0 < ids.length := List.length_pos_iff.2 hne
      simp only [cAppend, List.getElem?_toArray, List.getElem?_cons_zero, List.getElem?_cons_succ, u24, isSeqT, gr3, srcOk, cLen, Option.bind_some, sz3, hcc, by3, hbb, hsz, Bool.not_true, Bool.or_self, Bool.false_eq_true, if_false]
      have hex : (intCs ids).extract 0 (0 + ids.length * 1) = intCs ids := by
        rw [Nat.zero_add, Nat.mul_one, ← hsz]; simp
      rw [if_neg (by simp [oc]), if_neg (by omega), if_neg (by omega), if_neg (by omega)]
      simp only [hex]
      rw [if_pos ⟨trivial, by omega⟩, if_neg (by simp)]
    · have : h'.size = (h'.setIfInBounds b .dead).size := by simp
      rw [this, gp1]
      simp [intCs]
    · have hcb : b ≠ c := by
        rintro rfl
        rw [hbb] at hc; cases hc
        exact hg _ _ rfl
      rw [gp2 (by simpa using lt_get hc), gs2 hcb]; exact hc

section
variable {h : H} {g : FuncId} {ca : Array Value} {m clock : Nat} {es : Array MapEntry} {kd : Kind}
def In32 (h : H) (g : FuncId) (ca : Array Value) (m clock : Nat) (r : Nat) (S : List MapEntry) (a : Act) (h' : H) : Prop :=
  ∃ out, (∃ v0 v2 v3 v4 v6 v7 v8 v9 v10 v11 v13 v14 v15 v16 v17 v18 v19 v20 v21 v22 v23 v24 v25 v26 v27 : Value, a = ⟨#[v0, .func (.func g) #[] ca, v2, v3, v4, out, v6, v7, v8, v9, v10, v11, pn r, v13, v14, v15, v16, v17, v18, v19, v20, v21, v22, v23, v24, v25, v26, v27], []⟩) ∧ Ext h h' ∧ h.size ≤ r ∧ h'[r]? = some (.iter (some m) clock (S.map (·.born)).toArray clock) ∧ OutOk h h' out ((S.filter (selF (CX X0) g ca h)).map keyF)
theorem shape32 : bodyOf P 32 = .seq (codeAt (bodyOf P 32) [0]) (.seq (codeAt (bodyOf P 32) [1, 0]) (.seq (.seq (codeAt (bodyOf P 32) [1, 1, 0, 0]) (.block 0 (.loop (.seq (codeAt (bodyOf P 32) [1, 1, 0, 1, 0, 0, 0]) (codeAt (bodyOf P 32) [1, 1, 0, 1, 0, 0, 1]))))) (.seq (codeAt (bodyOf P 32) [1, 1, 1, 0]) (codeAt (bodyOf P 32) [1, 1, 1, 1])))) := by kernel_rfl
theorem ok32 (p : List Nat) : codeOk P (codeAt (bodyOf P 32) p) = true := codeOk_at _ _ (by
  have : ((P.funcs[32]?).bind (·.body)).isSome = true := by kernel_rfl
  cases hf : P.funcs[32]? with
  | none => rw [hf] at this; cases this
  | some fn =>
    cases hb : fn.body with
    | none => rw [hf] at this; simp [hb] at this
    | some c =>
      have hbo : bodyOf P 32 = c := by unfold bodyOf; rw [hf]; simp [hb]
      rw [hbo]
      exact codes 32 fn c rfl hf hb)
noncomputable def ops32 : Array Oper := match codeAt (bodyOf P 32) [1, 1, 0, 1, 0, 0, 0] with | .region _ ops _ => ops | _ => #[]
noncomputable def op32 (i : Nat) : Oper := ops32.toList.getD i (opr (.move (.const undef)) 0)
theorem reg32 : codeAt (bodyOf P 32) [1, 1, 0, 1, 0, 0, 0] = .region 3 ops32 false := by kernel_rfl
theorem two32 : ops32.toList = [op32 0, op32 1] := by kernel_rfl
theorem round32 (hm : h[m]? = some (.map es clock kd)) (hbo : BornOk es clock) (hcl : callable P g = true) (hsz : es.size ≤ 1000000) (hsel : ∀ e ∈ es.toList, e.key = .int .i64 (keyF e) ∧ ∀ h', Ext h h' → CX X0 g (#[e.val] ++ ca) h' = some (.bool (selF (CX X0) g ca h e), h'))
    {β : Nat → Option Emb} {w : World} (hG : GOk P β h) {r : Nat} {Q : Exit → Act → World → Prop}
    (hfin : ∀ (S : List MapEntry) (β' : Nat → Option Emb) (h' : H) (w' : World) (a a' : Act), S.Perm es.toList → In32 h g ca m clock r S a h' → Rel P β' h' w' → AR β' h' a a' → Evo β h w β' h' w' → Q (.exit 0) a' w') :
    ∀ (k : Nat) (S : List MapEntry), es.size < k + S.length → S.Nodup → (∀ e ∈ S, e ∈ es.toList) → ∀ (β' : Nat → Option Emb) (h' : H) (w' : World) (a a' : Act), In32 h g ca m clock r S a h' → Rel P β' h' w' → AR β' h' a a' → Evo β h w β' h' w' →
      Code.rounds P (.seq (codeAt (bodyOf P 32) [1, 1, 0, 1, 0, 0, 0]) (codeAt (bodyOf P 32) [1, 1, 0, 1, 0, 0, 1])) Q k a' w'
  | 0, S, hk, hnd, hsub, _, _, _, _, _, _, _, _, _ => by
    exfalso
    have hle : S.length ≤ es.toList.length := nodup_len hnd hsub
    simp at hle hk
    omega
  | k + 1, S, hk, hnd, hsub, β', h', w', a, a', hIn, hr, ha, hE => by
    have hIn' := hIn
    obtain ⟨out, ⟨v0, v2, v3, v4, v6, v7, v8, v9, v10, v11, v13, v14, v15, v16, v17, v18, v19, v20, v21, v22, v23, v24, v25, v26, v27, rfl⟩, hx, hrs, hit, hO⟩ := hIn
    have hG' := hG.evo hE
    have hm' := hx.some hm
    rw [rounds_succ]
    refine wp_seq ?_
    rw [reg32]
    refine next_wp (o1 := op32 0) (o2 := op32 1) (it := 12) (t1 := 13) (t2 := 14) two32 (by kernel_rfl) (by kernel_rfl) (by kernel_rfl) (by kernel_rfl) (by kernel_rfl) (by kernel_rfl) (by kernel_rfl) hr hG' ha (by rfl) (fun v => by rfl) hit hm' hbo.1 ?_ ?_
    · intro hall β2 a2 w2 q1 q2 q3
      have hG2 := hG'.evo q3
      have hact : (((⟨#[v0, .func (.func g) #[] ca, v2, v3, v4, out, v6, v7, v8, v9, v10, v11, pn r, v13, v14, v15, v16, v17, v18, v19, v20, v21, v22, v23, v24, v25, v26, v27], []⟩ : Act).put (some 13) (.tuple #[.bool false])).put (some 14) (.bool false)) = ⟨#[v0, .func (.func g) #[] ca, v2, v3, v4, out, v6, v7, v8, v9, v10, v11, pn r, .tuple #[.bool false], .bool false, v15, v16, v17, v18, v19, v20, v21, v22, v23, v24, v25, v26, v27], []⟩ := by rfl
      rw [hact] at q1
      refine piece_sim (nu := nu20) soundX0 (ok32 _) (by rw [f32_p1101001, ifV_f]) q2 hG2 q1 fun β3 a3 w3 s1 s2 s3 => ?_
      refine hfin S β3 h' w3 _ _ ?_ ⟨out, ⟨_, _, _, _, _, _, _, _, _, _, _, _, _, _, _, _, _, _, _, _, _, _, _, _, _, rfl⟩, hx, hrs, hit, hO⟩ s2 s1 ((hE.trans q3).trans s3)
      rw [List.perm_ext_iff_of_nodup hnd (hbo.2.imp fun {x y} hxy he => hxy (congrArg MapEntry.born he))]
      intro e
      refine ⟨hsub e, fun he => ?_⟩
      have h1 := hall e he
      simp only [List.contains_toArray, List.contains_iff_mem, List.mem_map] at h1
      obtain ⟨e', h2, h3⟩ := h1
      have : e' = e := by
        rcases List.getElem_of_mem (hsub e' h2) with ⟨i, hi, hie⟩
        rcases List.getElem_of_mem he with ⟨j, hj, hje⟩
        rcases Nat.lt_trichotomy i j with q | q | q
        · exact absurd (by rw [hie, hje]; exact h3) (List.pairwise_iff_getElem.1 hbo.2 i j hi hj q)
        · subst q; rw [← hie, ← hje]
        · exact absurd (by rw [hie, hje]; exact h3.symm) (List.pairwise_iff_getElem.1 hbo.2 j i hj hi q)
      rw [← this]; exact h2
    · intro e he hns β2 a2 w2 q1 q2 q3
      have hG2 := hG'.evo q3
      have hact : (((⟨#[v0, .func (.func g) #[] ca, v2, v3, v4, out, v6, v7, v8, v9, v10, v11, pn r, v13, v14, v15, v16, v17, v18, v19, v20, v21, v22, v23, v24, v25, v26, v27], []⟩ : Act).put (some 13) (.tuple #[.bool true, e.key, e.val])).put (some 14) (.bool true)) = ⟨#[v0, .func (.func g) #[] ca, v2, v3, v4, out, v6, v7, v8, v9, v10, v11, pn r, .tuple #[.bool true, e.key, e.val], .bool true, v15, v16, v17, v18, v19, v20, v21, v22, v23, v24, v25, v26, v27], []⟩ := by rfl
      rw [hact] at q1
      obtain ⟨hkey, hcall⟩ := hsel e he
      have hx2 : Ext h (h'.setIfInBounds r (.iter (some m) clock ((S.map (·.born)).toArray.push e.born) clock)) := hx.set hrs _
      have hit2 : (h'.setIfInBounds r (.iter (some m) clock ((S.map (·.born)).toArray.push e.born) clock))[r]? = some (.iter (some m) clock ((S ++ [e]).map (·.born)).toArray clock) := by
        rw [gs1 (lt_get hit)]; simp
      have hm2 := hx2.some hm
      have hO2 : OutOk h (h'.setIfInBounds r (.iter (some m) clock ((S.map (·.born)).toArray.push e.born) clock)) out ((S.filter (selF (CX X0) g ca h)).map keyF) := by
        rcases hO with q | ⟨q1, b, q2, q3, q4⟩
        · exact .inl q
        · exact .inr ⟨q1, b, q2, by rw [gs2 (by rintro rfl; rw [hit] at q3; cases q3)]; exact q3, q4⟩
      generalize h'.setIfInBounds r (.iter (some m) clock ((S.map (·.born)).toArray.push e.born) clock) = h2 at q1 q2 q3 hG2 hx2 hit2 hm2 hO2
      have hent : vE P (CX X0) (.entry (.const (.pointer (some ⟨r, 0, none⟩)))) 0 h2 = some (.tuple #[.int .i64 (keyF e), e.val], h2) := by
        show (cEntry (.pointer (some ⟨r, 0, none⟩)) h2).map (·, h2) = _
        have hfind : es.find? (fun x => x.born == e.born) = some e := by
          rw [← Array.find?_toList]
          obtain ⟨x, hxf⟩ : ∃ x, es.toList.find? (fun x => x.born == e.born) = some x := Option.isSome_iff_exists.1 (List.find?_isSome.2 ⟨e, he, by simp⟩)
          have h1 := List.mem_of_find?_eq_some hxf
          have h2 : x.born = e.born := by simpa using List.find?_some hxf
          have : x = e := by
            rcases List.getElem_of_mem h1 with ⟨i, hi, hie⟩
            rcases List.getElem_of_mem he with ⟨j, hj, hje⟩
            rcases Nat.lt_trichotomy i j with q | q | q
            · exact absurd (by rw [hie, hje]; exact h2) (List.pairwise_iff_getElem.1 hbo.2 i j hi hj q)
            · subst q; rw [← hie, ← hje]
            · exact absurd (by rw [hie, hje]; exact h2.symm) (List.pairwise_iff_getElem.1 hbo.2 j i hj hi q)
          rw [hxf, this]
        have hback : ((S ++ [e]).map (·.born)).toArray.back? = some e.born := by simp
        simp only [cEntry, hit2, hback, hm2, if_true, hfind, Option.map_some, hkey]
      have hcl2 : vE P (CX X0) (.call ⟨.value (.const (.func (.func g) #[] ca)), #[(.const e.val)], #[83]⟩) 4 h2 = some (.bool (selF (CX X0) g ca h e), h2) := by
        have := hcall h2 hx2
        simp only [vE, evEff, opr, evalConst, hcl, if_true, List.map_toArray, List.map_cons, List.map_nil, Array.empty_append]
        exact this
      have hnd' : (S ++ [e]).Nodup := by
        rw [List.nodup_append]
        refine ⟨hnd, by simp, fun x hx y hy => ?_⟩
        simp only [List.mem_singleton] at hy
        subst hy
        rintro rfl
        have : ((S.map (·.born)).toArray).contains x.born = true := by
          simp only [List.contains_toArray, List.contains_iff_mem]
          exact List.mem_map_of_mem hx
        rw [this] at hns; cases hns
      have hsub' : ∀ x ∈ S ++ [e], x ∈ es.toList := fun x hx => by
        rcases List.mem_append.1 hx with hx | hx
        · exact hsub x hx
        · simp only [List.mem_singleton] at hx; subst hx; exact he
      have hk' : es.size < k + (S ++ [e]).length := by simp; omega
      have hle : S.length ≤ es.toList.length := nodup_len hnd hsub
      have hidl : ((S.filter (selF (CX X0) g ca h)).map keyF).length ≤ 1000000 := by
        rw [List.length_map]
        have := List.length_filter_le (selF (CX X0) g ca h) S
        simp at hle
        omega
      cases hs : selF (CX X0) g ca h e with
      | false =>
        rw [hs] at hcl2
        refine piece_sim (nu := nu20) soundX0 (ok32 _) (by
          rw [f32_p1101001, ifV_t, hkey]
          simp only [hent, bd1_n, bd2_n, ifV_t, ifV_f, vP_lss, vP_leq, vP_gtr, vP_geq, vP_add, vP_sub, vP_mul, vP_and, vP_or, vP_xor, vP_andNot, vP_not, vP_neg, vP_extract, vP_nilCheck, vB_eqi, vB_nei, ld1_some, lda_full, mlen_some, List.getElem?_toArray, List.getElem?_cons_zero, List.getElem?_cons_succ, Nat.zero_add, Nat.add_zero, List.size_toArray, List.length_cons, List.length_nil, Nat.reduceAdd, vP_min2, vP_max2, vP_min3, same_int, same_bool, same_str, same_ptr, same_slice, same_map, same_agg, same_tuple, List.all_cons, List.all_nil, gvc, Bool.and_self, Bool.and_true, ibd_23_0_3_23, iln_31_3, ibd_26__26, ibd_39_1_3_39, iia_31_0, ild_5_5, icv_5_3_3, icv_5_2_2, ial_23_0, ist_23_0, ifa_23_3_0, ild_2_2, iln_45_3, iia_45_0, ild_50_50, ial_50_0, ist_50_0, iln_24_3, iia_24_0, ild_3_3, ial_39_0, ist_39_0, ifa_39_0_0, ifa_39_4_0, ifa_39_1_0, ifa_39_2_0, ial_30_0, ist_30_0, ial_58_0, ist_58_0, ild_23_23, ild_30_30, ild_39_39, ild_58_58, ibx_23_0, ibx_26_0, ifa_23_0_0, ist_3_0, ild_65_65, ial_64_0, ist_64_0, ild_26_26, ifa_64_0_0, ifa_64_1_0, ifa_26_0_0, ifa_23_5_0, ild_4_4, ibx_30_0, ifa_30_5_0, ifa_30_0_0, ifa_30_1_0, ifa_30_2_0, imm_69_69, ibd_71_0_71, ibd_73_0_73, imm_74_74, ibd_76_0_76, ibd_78_0_1_78, ibx_78_32, ifa_23_1_0, ifa_23_2_0, ifa_23_4_0, ifa_78_1_0, ifa_76_0_0, ild_74_74, iln_74_3, ibx_3_0, ibx_39_0, ifa_39_3_0, imf_31_84, ifa_78_0_0, ifa_73_0_0, ifa_71_0_0, ild_69_69, iln_69_3, ibd_39_0_1_2_3_5_39, ist_2_0, ibd_23__23, ibd_94__94, ibx_94_47, ibx_50_0, ifa_50_0_0, ifa_50_5_0, ifa_50_1_0, ifa_50_7_0, ifa_50_6_0, ifa_50_2_0, ifa_50_4_0, ifa_50_3_0, imf_60_84, ibd_39__39, ibd_30__30, ifa_94_0_0, ild_91_91, iia_91_0, ifa_110_1_0, ibd_58__58, ifa_94_1_0, ild_92_92, iia_92_0, ifa_112_1_0, iln_92_3, ifa_58_0_0, ifa_112_0_0, ibs_24_1_0_24, ifa_26_1_0, ifa_26_2_0, ild_24_24, ifa_76_1_0, ifa_71_1_0, ifa_30_3_0, ifa_30_4_0, iln_91_3, ifa_94_2_0, ibd_110_0_1_110, ibs_91_1_0_91, ist_91_0, ibx_58_0, ifa_58_1_0, ifa_58_2_0, ifa_58_3_0, ifa_94_3_0, ibd_58_0_1_2_3_5_58, ibd_112_0_1_112, ibs_92_1_0_92, ist_92_0, ifa_39_5_0, ifa_58_5_0, ibs_92_0__92, ifa_58_4_0, ibd_122_0_1_2_122, ifa_110_0_0, ibs_91_0__91, hcl2]
          rfl) q2 hG2 q1 fun β3 a3 w3 s1 s2 s3 => ?_
        refine round32 hm hbo hcl hsz hsel hG hfin k (S ++ [e]) hk' hnd' hsub' β3 h2 w3 _ _ ⟨out, ⟨_, _, _, _, _, _, _, _, _, _, _, _, _, _, _, _, _, _, _, _, _, _, _, _, _, rfl⟩, hx2, hrs, hit2, ?_⟩ s2 s1 ((hE.trans q3).trans s3)
        rw [List.filter_append, show [e].filter (selF (CX X0) g ca h) = [] by simp [hs], List.append_nil]
        exact hO2
      | true =>
        rw [hs] at hcl2
        have hx3 := hx2.push (.cells #[.int .i64 (keyF e)] 3 .own)
        have hO3 : OutOk h (h2.push (.cells #[.int .i64 (keyF e)] 3 .own)) out ((S.filter (selF (CX X0) g ca h)).map keyF) := by
          rcases hO2 with q | ⟨q1, b, q2, q3, q4⟩
          · exact .inl q
          · exact .inr ⟨q1, b, q2, by rw [gp2 (lt_get q3)]; exact q3, q4⟩
        obtain ⟨out', h4, e1, e2, e3, e4⟩ := append_ids (call := CX X0) (n := keyF e) (bx := h2.size) hx3 hO3 gp1 hidl
        have hit4 : h4[r]? = some (.iter (some m) clock ((S ++ [e]).map (·.born)).toArray clock) := e4 r _ (by rw [gp2 (lt_get hit2)]; exact hit2) (fun _ _ q => by cases q)
        refine piece_sim (nu := nu20) soundX0 (ok32 _) (by
          rw [f32_p1101001, ifV_t, hkey]
          simp only [hent, bd1_n, bd2_n, ifV_t, ifV_f, vP_lss, vP_leq, vP_gtr, vP_geq, vP_add, vP_sub, vP_mul, vP_and, vP_or, vP_xor, vP_andNot, vP_not, vP_neg, vP_extract, vP_nilCheck, vB_eqi, vB_nei, ld1_some, lda_full, mlen_some, List.getElem?_toArray, List.getElem?_cons_zero, List.getElem?_cons_succ, Nat.zero_add, Nat.add_zero, List.size_toArray, List.length_cons, List.length_nil, Nat.reduceAdd, vP_min2, vP_max2, vP_min3, same_int, same_bool, same_str, same_ptr, same_slice, same_map, same_agg, same_tuple, List.all_cons, List.all_nil, gvc, Bool.and_self, Bool.and_true, ibd_23_0_3_23, iln_31_3, ibd_26__26, ibd_39_1_3_39, iia_31_0, ild_5_5, icv_5_3_3, icv_5_2_2, ial_23_0, ist_23_0, ifa_23_3_0, ild_2_2, iln_45_3, iia_45_0, ild_50_50, ial_50_0, ist_50_0, iln_24_3, iia_24_0, ild_3_3, ial_39_0, ist_39_0, ifa_39_0_0, ifa_39_4_0, ifa_39_1_0, ifa_39_2_0, ial_30_0, ist_30_0, ial_58_0, ist_58_0, ild_23_23, ild_30_30, ild_39_39, ild_58_58, ibx_23_0, ibx_26_0, ifa_23_0_0, ist_3_0, ild_65_65, ial_64_0, ist_64_0, ild_26_26, ifa_64_0_0, ifa_64_1_0, ifa_26_0_0, ifa_23_5_0, ild_4_4, ibx_30_0, ifa_30_5_0, ifa_30_0_0, ifa_30_1_0, ifa_30_2_0, imm_69_69, ibd_71_0_71, ibd_73_0_73, imm_74_74, ibd_76_0_76, ibd_78_0_1_78, ibx_78_32, ifa_23_1_0, ifa_23_2_0, ifa_23_4_0, ifa_78_1_0, ifa_76_0_0, ild_74_74, iln_74_3, ibx_3_0, ibx_39_0, ifa_39_3_0, imf_31_84, ifa_78_0_0, ifa_73_0_0, ifa_71_0_0, ild_69_69, iln_69_3, ibd_39_0_1_2_3_5_39, ist_2_0, ibd_23__23, ibd_94__94, ibx_94_47, ibx_50_0, ifa_50_0_0, ifa_50_5_0, ifa_50_1_0, ifa_50_7_0, ifa_50_6_0, ifa_50_2_0, ifa_50_4_0, ifa_50_3_0, imf_60_84, ibd_39__39, ibd_30__30, ifa_94_0_0, ild_91_91, iia_91_0, ifa_110_1_0, ibd_58__58, ifa_94_1_0, ild_92_92, iia_92_0, ifa_112_1_0, iln_92_3, ifa_58_0_0, ifa_112_0_0, ibs_24_1_0_24, ifa_26_1_0, ifa_26_2_0, ild_24_24, ifa_76_1_0, ifa_71_1_0, ifa_30_3_0, ifa_30_4_0, iln_91_3, ifa_94_2_0, ibd_110_0_1_110, ibs_91_1_0_91, ist_91_0, ibx_58_0, ifa_58_1_0, ifa_58_2_0, ifa_58_3_0, ifa_94_3_0, ibd_58_0_1_2_3_5_58, ibd_112_0_1_112, ibs_92_1_0_92, ist_92_0, ifa_39_5_0, ifa_58_5_0, ibs_92_0__92, ifa_58_4_0, ibd_122_0_1_2_122, ifa_110_0_0, ibs_91_0__91, hcl2, e1]
          rfl) q2 hG2 q1 fun β3 a3 w3 s1 s2 s3 => ?_
        refine round32 hm hbo hcl hsz hsel hG hfin k (S ++ [e]) hk' hnd' hsub' β3 h4 w3 _ _ ⟨out', ⟨_, _, _, _, _, _, _, _, _, _, _, _, _, _, _, _, _, _, _, _, _, _, _, _, _, rfl⟩, e3, hrs, hit4, ?_⟩ s2 s1 ((hE.trans q3).trans s3)
        rw [List.filter_append, show [e].filter (selF (CX X0) g ca h) = [e] by simp [hs], List.map_append]
        exact e2
theorem hook_ok32 : CallOk P (fun f' args h => if f' = 32 then sortedHook (CX X0) args h else none) := by
  intro f' args h v h1 he β w args' hr hG hargs
  simp only at he
  split at he
  · rename_i hf
    subst hf
    unfold sortedHook at he
    split at he
    · rename_i b o g fi ca hal
      split at he
      · rename_i hfi
        split at he
        · rename_i m hld
          split at he
          · rename_i es c kd hm
            split at he
            · rename_i hcond
              obtain ⟨hbo, hcl, hsz⟩ := hcond
              simp only [Option.map_eq_some_iff] at he
              obtain ⟨ids, hids, hres⟩ := he
              obtain ⟨hsel, hidseq⟩ := selIds_spec hids
              have hfi' : fi = #[] := by rw [← Array.toArray_toList (xs := fi), hfi]
              subst hfi'
              have hargs2 : args = #[.pointer (some ⟨b, o, none⟩), .func (.func g) #[] ca] := by rw [← Array.toArray_toList (xs := args), hal]
              subst hargs2
              have hfs : ((P.funcs[32]?).bind (·.body)).isSome = true := by kernel_rfl
              cases hfn : P.funcs[32]? with
              | none => rw [hfn] at hfs; cases hfs
              | some fn =>
                cases hc : fn.body with
                | none => rw [hfn] at hfs; simp [hc] at hfs
                | some code =>
                  have hbody : code = bodyOf P 32 := by unfold bodyOf; rw [hfn]; simp [hc]
                  have hnt : fn.ntmps = 28 := by
                    have h1 : tmpsOf P 32 = 28 := by kernel_rfl
                    unfold tmpsOf at h1; rw [hfn] at h1; exact h1
                  have hrl : fn.results.toList = [.tmp 4] := by
                    have h1 : resOf P 32 = [.tmp 4] := by kernel_rfl
                    unfold resOf at h1; rw [hfn] at h1; exact h1
                  refine calls_of_wp hfn hc ?_
                  rw [hbody, shape32]
                  have hsz' : args'.size = 2 := hargs.size
                  have ha0 : AR β h ⟨#[.pointer (some ⟨b, o, none⟩), .func (.func g) #[] ca, undef, undef, undef, undef, undef, undef, undef, undef, undef, undef, undef, undef, undef, undef, undef, undef, undef, undef, undef, undef, undef, undef, undef, undef, undef, undef], []⟩ ⟨args' ++ Array.replicate (fn.ntmps - args'.size) undef, []⟩ := by
                    refine ⟨?_, rfl, rfl⟩
                    rw [hsz', hnt]
                    have : (#[.pointer (some ⟨b, o, none⟩), .func (.func g) #[] ca, undef, undef, undef, undef, undef, undef, undef, undef, undef, undef, undef, undef, undef, undef, undef, undef, undef, undef, undef, undef, undef, undef, undef, undef, undef, undef] : Array Value) = #[.pointer (some ⟨b, o, none⟩), .func (.func g) #[] ca] ++ Array.replicate 26 undef := by kernel_rfl
                    rw [this]
                    refine hargs.append (.of_get rfl fun i u u' h3 h4 => ?_)
                    rw [Array.getElem?_replicate] at h3 h4
                    split at h3
                    · cases h3; split at h4 <;> cases h4 <;> exact VR.undef
                    · cases h3
                  refine wp_seq ?_
                  refine piece_sim (nu := nu20) soundX0 (ok32 _) (f32_p0 ..) hr hG ha0 fun β1 a1 w1 p1 p2 p3 => ?_
                  have hG1 := hG.evo p3
                  refine wp_seq ?_
                  refine piece_sim (nu := nu20) soundX0 (ok32 _) (f32_p10 ..) p2 hG1 p1 fun β2 a2 w2 q1 q2 q3 => ?_
                  have hE2 := p3.trans q3
                  have hG2 := hG.evo hE2
                  refine wp_seq ?_
                  refine wp_seq ?_
                  have hrange : vE P (CX X0) (.range 69 (.const (.map (some m)))) 0 h = some (.pointer (some ⟨h.size, 0, none⟩), h.push (.iter (some m) c #[] c)) := by
                    simp [vE, evEff, opr, evalConst, u69, hm, cNew]
                  refine piece_sim (nu := nu20) soundX0 (ok32 _) (by
                    rw [f32_p1100]
                    simp only [vP_nilCheck, bd1_n, bd2_n, ifa_71_0_0, ild_69_69, hld, hrange]
                    rfl) q2 hG2 q1 fun β3 a3 w3 s1 s2 s3 => ?_
                  have hE3 := hE2.trans s3
                  have hx3 : Ext h (h.push (.iter (some m) c #[] c)) := (Ext.refl h).push _
                  refine wp_block ?_
                  refine wp_loop_rounds (es.size + 1) ?_
                  refine round32 (h := h) (r := h.size) hm hbo hcl hsz hsel hG ?_ (es.size + 1) [] (by simp) (by simp) (by simp) β3 _ w3 _ _ ⟨.slice none 0 0, ⟨_, _, _, _, _, _, _, _, _, _, _, _, _, _, _, _, _, _, _, _, _, _, _, _, _, rfl⟩, hx3, Nat.le_refl _, gp1, .inl ⟨rfl, rfl⟩⟩ s2 s1 hE3
                  intro S β4 h4 w4 a4 a4' hperm hIn r2 r1 hE4
                  simp only [Exit.inBlock, if_true]
                  show (Code.seq _ _).wp P _ a4' w4
                  obtain ⟨out, ⟨v0, v2, v3, v4, v6, v7, v8, v9, v10, v11, v13, v14, v15, v16, v17, v18, v19, v20, v21, v22, v23, v24, v25, v26, v27, rfl⟩, hx, hrs, hit, hO⟩ := hIn
                  have hG4 := hG.evo hE4
                  have hpids : ((S.filter (selF (CX X0) g ca h)).map keyF).Perm ids := by
                    rw [hidseq]
                    exact (hperm.filter _).map _
                  -- the sort, and what is handed back
                  have fin : ∀ (h5 : H) (vv : Value), evCG P okAll nu20 X1 66 #[out] h4 = some (vv, h5) → (∀ (β' : Nat → Option Emb) (w' : World) (v' : Value), VRh β' h5 out v' → Rel P β' h5 w' → Evo β h w β' h5 w' → ∃ β1, VRh β1 h1 v v' ∧ Rel P β1 h1 w' ∧ Evo β h w β1 h1 w') →
                      (Code.seq (codeAt (bodyOf P 32) [1, 1, 1, 0]) (codeAt (bodyOf P 32) [1, 1, 1, 1])).wp P (bodyPost P fn fun e w' => ∃ v' β', e = .returned v' ∧ VRh β' h1 v v' ∧ Rel P β' h1 w' ∧ Evo β h w β' h1 w') a4' w4 := by
                    intro h5 vv hsort hback
                    refine wp_seq ?_
                    refine piece_sim (nu := nu20) soundX1 (ok32 _) (by
                      rw [f32_p1110, hsort, bd2_n]) r2 hG4 r1 fun β5 a5 w5 t1 t2 t3 => ?_
                    have hE5 := hE4.trans t3
                    refine piece_sim (nu := nu20) soundX0 (ok32 _) (f32_p1111 ..) t2 (hG.evo hE5) t1 fun β6 a6 w6 z1 z2 z3 => ?_
                    have hE6 := hE5.trans z3
                    have hev : evResults P fn #[v0, .func (.func g) #[] ca, v2, v3, out, out, v6, v7, v8, v9, v10, v11, .pointer (some ⟨h.size, 0, none⟩), v13, v14, v15, v16, v17, v18, v19, v20, v21, v22, v23, v24, out, vv, out] h5 = some out := by
                      unfold evResults
                      rw [hrl]
                      rfl
                    obtain ⟨v', y1, y2⟩ := results_sim z2 z1.tmps hev
                    obtain ⟨βf, x1, x2, x3⟩ := hback β6 w6 v' y2 z2 hE6
                    exact ⟨z1.d', v', y1, v', βf, rfl, x1, x2, x3⟩
                  rcases hO with ⟨hnil, rfl⟩ | ⟨hne, b5, rfl, hb5, hbs5⟩
                  · have hidn : ids = [] := by
                      rw [hnil] at hpids
                      exact List.perm_nil.1 hpids.symm
                    subst hidn
                    simp only [List.mergeSort_nil, sortedRes, Prod.mk.injEq] at hres
                    obtain ⟨rfl, rfl⟩ := hres
                    refine fin h4 (.tuple #[]) (hookG (f := 66) (by rfl) (by rfl)) fun β' w' v' y1 y2 y3 => ?_
                    have := gc_sim hr y2 y1 y3
                    rw [gc_same hx (.of_af rfl)] at this
                    exact this
                  · have hsm : ((S.filter (selF (CX X0) g ca h)).map keyF).length < 4611686018427387904 := by
                      rw [List.length_map]
                      have h1 := List.length_filter_le (selF (CX X0) g ca h) S
                      have h2 := hperm.length_eq
                      simp at h2
                      omega
                    have hsort : sortH #[.slice (some ⟨b5, 0, none⟩) ((S.filter (selF (CX X0) g ca h)).map keyF).length ((S.filter (selF (CX X0) g ca h)).map keyF).length] h4 = some (.tuple #[], h4.setIfInBounds b5 (.cells (intCs (((S.filter (selF (CX X0) g ca h)).map keyF).mergeSort fun x y => decide (x ≤ y))) 3 .grown)) := by
                      unfold sortH
                      simp only [hb5, intsOfC_of]
                      rw [if_pos ⟨trivial, trivial, trivial, List.length_pos_iff.2 hne, hsm⟩]
                    refine fin _ (.tuple #[]) (hookG (f := 66) (by rfl) hsort) fun β' w' v' y1 y2 y3 => ?_
                    have hx5 := hx.set hbs5 (.cells (intCs (((S.filter (selF (CX X0) g ca h)).map keyF).mergeSort fun x y => decide (x ≤ y))) 3 .grown)
                    have := recanon hr y2 y3 hx5 (gs1 (lt_get hb5)) hbs5 (fun i v hv => by
                      unfold intCs at hv
                      simp only [List.getElem?_toArray, List.getElem?_map, Option.map_eq_some_iff] at hv
                      obtain ⟨n, _, rfl⟩ := hv
                      rfl) y1 (by decide)
                    rw [sorted_perm hpids] at this
                    have hlen : ((S.filter (selF (CX X0) g ca h)).map keyF).length = (ids.mergeSort fun x y => decide (x ≤ y)).length := by rw [List.length_mergeSort]; exact hpids.length_eq
                    rw [hlen] at this
                    have hne2 : (ids.mergeSort fun x y => decide (x ≤ y)) ≠ [] := by
                      intro hq
                      rw [hq] at hlen
                      exact hne (List.length_eq_zero_iff.1 hlen)
                    generalize (ids.mergeSort fun x y => decide (x ≤ y)) = srt at hres this hne2
                    cases srt with
                    | nil => exact absurd rfl hne2
                    | cons s0 sl =>
                      simp only [sortedRes, Prod.mk.injEq] at hres
                      obtain ⟨rfl, rfl⟩ := hres
                      exact this
            · cases he
          · cases he
        · cases he
      · cases he
    · cases he
  · cases he
end

section
variable {h : H} {g : FuncId} {ca : Array Value} {m clock : Nat} {es : Array MapEntry} {kd : Kind}
def In58 (h : H) (g : FuncId) (ca : Array Value) (m clock : Nat) (r : Nat) (S : List MapEntry) (a : Act) (h' : H) : Prop :=
  ∃ out, (∃ v0 v2 v3 v4 v6 v7 v8 v9 v10 v11 v13 v14 v15 v16 v17 v18 v19 v20 v21 v22 v23 v24 v25 v26 v27 : Value, a = ⟨#[v0, .func (.func g) #[] ca, v2, v3, v4, out, v6, v7, v8, v9, v10, v11, pn r, v13, v14, v15, v16, v17, v18, v19, v20, v21, v22, v23, v24, v25, v26, v27], []⟩) ∧ Ext h h' ∧ h.size ≤ r ∧ h'[r]? = some (.iter (some m) clock (S.map (·.born)).toArray clock) ∧ OutOk h h' out ((S.filter (selF (CX X0) g ca h)).map keyF)
theorem shape58 : bodyOf P 58 = .seq (codeAt (bodyOf P 58) [0]) (.seq (codeAt (bodyOf P 58) [1, 0]) (.seq (.seq (codeAt (bodyOf P 58) [1, 1, 0, 0]) (.block 0 (.loop (.seq (codeAt (bodyOf P 58) [1, 1, 0, 1, 0, 0, 0]) (codeAt (bodyOf P 58) [1, 1, 0, 1, 0, 0, 1]))))) (.seq (codeAt (bodyOf P 58) [1, 1, 1, 0]) (codeAt (bodyOf P 58) [1, 1, 1, 1])))) := by kernel_rfl
theorem ok58 (p : List Nat) : codeOk P (codeAt (bodyOf P 58) p) = true := codeOk_at _ _ (by
  have : ((P.funcs[58]?).bind (·.body)).isSome = true := by kernel_rfl
  cases hf : P.funcs[58]? with
  | none => rw [hf] at this; cases this
  | some fn =>
    cases hb : fn.body with
    | none => rw [hf] at this; simp [hb] at this
    | some c =>
      have hbo : bodyOf P 58 = c := by unfold bodyOf; rw [hf]; simp [hb]
      rw [hbo]
      exact codes 58 fn c rfl hf hb)
noncomputable def ops58 : Array Oper := match codeAt (bodyOf P 58) [1, 1, 0, 1, 0, 0, 0] with | .region _ ops _ => ops | _ => #[]
noncomputable def op58 (i : Nat) : Oper := ops58.toList.getD i (opr (.move (.const undef)) 0)
theorem reg58 : codeAt (bodyOf P 58) [1, 1, 0, 1, 0, 0, 0] = .region 3 ops58 false := by kernel_rfl
theorem two58 : ops58.toList = [op58 0, op58 1] := by kernel_rfl
theorem round58 (hm : h[m]? = some (.map es clock kd)) (hbo : BornOk es clock) (hcl : callable P g = true) (hsz : es.size ≤ 1000000) (hsel : ∀ e ∈ es.toList, e.key = .int .i64 (keyF e) ∧ ∀ h', Ext h h' → CX X0 g (#[e.val] ++ ca) h' = some (.bool (selF (CX X0) g ca h e), h'))
    {β : Nat → Option Emb} {w : World} (hG : GOk P β h) {r : Nat} {Q : Exit → Act → World → Prop}
    (hfin : ∀ (S : List MapEntry) (β' : Nat → Option Emb) (h' : H) (w' : World) (a a' : Act), S.Perm es.toList → In58 h g ca m clock r S a h' → Rel P β' h' w' → AR β' h' a a' → Evo β h w β' h' w' → Q (.exit 0) a' w') :
    ∀ (k : Nat) (S : List MapEntry), es.size < k + S.length → S.Nodup → (∀ e ∈ S, e ∈ es.toList) → ∀ (β' : Nat → Option Emb) (h' : H) (w' : World) (a a' : Act), In58 h g ca m clock r S a h' → Rel P β' h' w' → AR β' h' a a' → Evo β h w β' h' w' →
      Code.rounds P (.seq (codeAt (bodyOf P 58) [1, 1, 0, 1, 0, 0, 0]) (codeAt (bodyOf P 58) [1, 1, 0, 1, 0, 0, 1])) Q k a' w'
  | 0, S, hk, hnd, hsub, _, _, _, _, _, _, _, _, _ => by
    exfalso
    have hle : S.length ≤ es.toList.length := nodup_len hnd hsub
    simp at hle hk
    omega
  | k + 1, S, hk, hnd, hsub, β', h', w', a, a', hIn, hr, ha, hE => by
    have hIn' := hIn
    obtain ⟨out, ⟨v0, v2, v3, v4, v6, v7, v8, v9, v10, v11, v13, v14, v15, v16, v17, v18, v19, v20, v21, v22, v23, v24, v25, v26, v27, rfl⟩, hx, hrs, hit, hO⟩ := hIn
    have hG' := hG.evo hE
    have hm' := hx.some hm
    rw [rounds_succ]
    refine wp_seq ?_
    rw [reg58]
    refine next_wp (o1 := op58 0) (o2 := op58 1) (it := 12) (t1 := 13) (t2 := 14) two58 (by kernel_rfl) (by kernel_rfl) (by kernel_rfl) (by kernel_rfl) (by kernel_rfl) (by kernel_rfl) (by kernel_rfl) hr hG' ha (by rfl) (fun v => by rfl) hit hm' hbo.1 ?_ ?_
    · intro hall β2 a2 w2 q1 q2 q3
      have hG2 := hG'.evo q3
      have hact : (((⟨#[v0, .func (.func g) #[] ca, v2, v3, v4, out, v6, v7, v8, v9, v10, v11, pn r, v13, v14, v15, v16, v17, v18, v19, v20, v21, v22, v23, v24, v25, v26, v27], []⟩ : Act).put (some 13) (.tuple #[.bool false])).put (some 14) (.bool false)) = ⟨#[v0, .func (.func g) #[] ca, v2, v3, v4, out, v6, v7, v8, v9, v10, v11, pn r, .tuple #[.bool false], .bool false, v15, v16, v17, v18, v19, v20, v21, v22, v23, v24, v25, v26, v27], []⟩ := by rfl
      rw [hact] at q1
      refine piece_sim (nu := nu20) soundX0 (ok58 _) (by rw [f58_p1101001, ifV_f]) q2 hG2 q1 fun β3 a3 w3 s1 s2 s3 => ?_
      refine hfin S β3 h' w3 _ _ ?_ ⟨out, ⟨_, _, _, _, _, _, _, _, _, _, _, _, _, _, _, _, _, _, _, _, _, _, _, _, _, rfl⟩, hx, hrs, hit, hO⟩ s2 s1 ((hE.trans q3).trans s3)
      rw [List.perm_ext_iff_of_nodup hnd (hbo.2.imp fun {x y} hxy he => hxy (congrArg MapEntry.born he))]
      intro e
      refine ⟨hsub e, fun he => ?_⟩
      have h1 := hall e he
      simp only [List.contains_toArray, List.contains_iff_mem, List.mem_map] at h1
      obtain ⟨e', h2, h3⟩ := h1
      have : e' = e := by
        rcases List.getElem_of_mem (hsub e' h2) with ⟨i, hi, hie⟩
        rcases List.getElem_of_mem he with ⟨j, hj, hje⟩
        rcases Nat.lt_trichotomy i j with q | q | q
        · exact absurd (by rw [hie, hje]; exact h3) (List.pairwise_iff_getElem.1 hbo.2 i j hi hj q)
        · subst q; rw [← hie, ← hje]
        · exact absurd (by rw [hie, hje]; exact h3.symm) (List.pairwise_iff_getElem.1 hbo.2 j i hj hi q)
      rw [← this]; exact h2
    · intro e he hns β2 a2 w2 q1 q2 q3
      have hG2 := hG'.evo q3
      have hact : (((⟨#[v0, .func (.func g) #[] ca, v2, v3, v4, out, v6, v7, v8, v9, v10, v11, pn r, v13, v14, v15, v16, v17, v18, v19, v20, v21, v22, v23, v24, v25, v26, v27], []⟩ : Act).put (some 13) (.tuple #[.bool true, e.key, e.val])).put (some 14) (.bool true)) = ⟨#[v0, .func (.func g) #[] ca, v2, v3, v4, out, v6, v7, v8, v9, v10, v11, pn r, .tuple #[.bool true, e.key, e.val], .bool true, v15, v16, v17, v18, v19, v20, v21, v22, v23, v24, v25, v26, v27], []⟩ := by rfl
      rw [hact] at q1
      obtain ⟨hkey, hcall⟩ := hsel e he
      have hx2 : Ext h (h'.setIfInBounds r (.iter (some m) clock ((S.map (·.born)).toArray.push e.born) clock)) := hx.set hrs _
      have hit2 : (h'.setIfInBounds r (.iter (some m) clock ((S.map (·.born)).toArray.push e.born) clock))[r]? = some (.iter (some m) clock ((S ++ [e]).map (·.born)).toArray clock) := by
        rw [gs1 (lt_get hit)]; simp
      have hm2 := hx2.some hm
      have hO2 : OutOk h (h'.setIfInBounds r (.iter (some m) clock ((S.map (·.born)).toArray.push e.born) clock)) out ((S.filter (selF (CX X0) g ca h)).map keyF) := by
        rcases hO with q | ⟨q1, b, q2, q3, q4⟩
        · exact .inl q
        · exact .inr ⟨q1, b, q2, by rw [gs2 (by rintro rfl; rw [hit] at q3; cases q3)]; exact q3, q4⟩
      generalize h'.setIfInBounds r (.iter (some m) clock ((S.map (·.born)).toArray.push e.born) clock) = h2 at q1 q2 q3 hG2 hx2 hit2 hm2 hO2
      have hent : vE P (CX X0) (.entry (.const (.pointer (some ⟨r, 0, none⟩)))) 0 h2 = some (.tuple #[.int .i64 (keyF e), e.val], h2) := by
        show (cEntry (.pointer (some ⟨r, 0, none⟩)) h2).map (·, h2) = _
        have hfind : es.find? (fun x => x.born == e.born) = some e := by
          rw [← Array.find?_toList]
          obtain ⟨x, hxf⟩ : ∃ x, es.toList.find? (fun x => x.born == e.born) = some x := Option.isSome_iff_exists.1 (List.find?_isSome.2 ⟨e, he, by simp⟩)
          have h1 := List.mem_of_find?_eq_some hxf
          have h2 : x.born = e.born := by simpa using List.find?_some hxf
          have : x = e := by
            rcases List.getElem_of_mem h1 with ⟨i, hi, hie⟩
            rcases List.getElem_of_mem he with ⟨j, hj, hje⟩
            rcases Nat.lt_trichotomy i j with q | q | q
            · exact absurd (by rw [hie, hje]; exact h2) (List.pairwise_iff_getElem.1 hbo.2 i j hi hj q)
            · subst q; rw [← hie, ← hje]
            · exact absurd (by rw [hie, hje]; exact h2.symm) (List.pairwise_iff_getElem.1 hbo.2 j i hj hi q)
          rw [hxf, this]
        have hback : ((S ++ [e]).map (·.born)).toArray.back? = some e.born := by simp
        simp only [cEntry, hit2, hback, hm2, if_true, hfind, Option.map_some, hkey]
      have hcl2 : vE P (CX X0) (.call ⟨.value (.const (.func (.func g) #[] ca)), #[(.const e.val)], #[80]⟩) 4 h2 = some (.bool (selF (CX X0) g ca h e), h2) := by
        have := hcall h2 hx2
        simp only [vE, evEff, opr, evalConst, hcl, if_true, List.map_toArray, List.map_cons, List.map_nil, Array.empty_append]
        exact this
      have hnd' : (S ++ [e]).Nodup := by
        rw [List.nodup_append]
        refine ⟨hnd, by simp, fun x hx y hy => ?_⟩
        simp only [List.mem_singleton] at hy
        subst hy
        rintro rfl
        have : ((S.map (·.born)).toArray).contains x.born = true := by
          simp only [List.contains_toArray, List.contains_iff_mem]
          exact List.mem_map_of_mem hx
        rw [this] at hns; cases hns
      have hsub' : ∀ x ∈ S ++ [e], x ∈ es.toList := fun x hx => by
        rcases List.mem_append.1 hx with hx | hx
        · exact hsub x hx
        · simp only [List.mem_singleton] at hx; subst hx; exact he
      have hk' : es.size < k + (S ++ [e]).length := by simp; omega
      have hle : S.length ≤ es.toList.length := nodup_len hnd hsub
      have hidl : ((S.filter (selF (CX X0) g ca h)).map keyF).length ≤ 1000000 := by
        rw [List.length_map]
        have := List.length_filter_le (selF (CX X0) g ca h) S
        simp at hle
        omega
      cases hs : selF (CX X0) g ca h e with
      | false =>
        rw [hs] at hcl2
        refine piece_sim (nu := nu20) soundX0 (ok58 _) (by
          rw [f58_p1101001, ifV_t, hkey]
          simp only [hent, bd1_n, bd2_n, ifV_t, ifV_f, vP_lss, vP_leq, vP_gtr, vP_geq, vP_add, vP_sub, vP_mul, vP_and, vP_or, vP_xor, vP_andNot, vP_not, vP_neg, vP_extract, vP_nilCheck, vB_eqi, vB_nei, ld1_some, lda_full, mlen_some, List.getElem?_toArray, List.getElem?_cons_zero, List.getElem?_cons_succ, Nat.zero_add, Nat.add_zero, List.size_toArray, List.length_cons, List.length_nil, Nat.reduceAdd, vP_min2, vP_max2, vP_min3, same_int, same_bool, same_str, same_ptr, same_slice, same_map, same_agg, same_tuple, List.all_cons, List.all_nil, gvc, Bool.and_self, Bool.and_true, ibd_23_0_3_23, iln_31_3, ibd_26__26, ibd_39_1_3_39, iia_31_0, ild_5_5, icv_5_3_3, icv_5_2_2, ial_23_0, ist_23_0, ifa_23_3_0, ild_2_2, iln_45_3, iia_45_0, ild_50_50, ial_50_0, ist_50_0, iln_24_3, iia_24_0, ild_3_3, ial_39_0, ist_39_0, ifa_39_0_0, ifa_39_4_0, ifa_39_1_0, ifa_39_2_0, ial_30_0, ist_30_0, ial_58_0, ist_58_0, ild_23_23, ild_30_30, ild_39_39, ild_58_58, ibx_23_0, ibx_26_0, ifa_23_0_0, ist_3_0, ild_65_65, ial_64_0, ist_64_0, ild_26_26, ifa_64_0_0, ifa_64_1_0, ifa_26_0_0, ifa_23_5_0, ild_4_4, ibx_30_0, ifa_30_5_0, ifa_30_0_0, ifa_30_1_0, ifa_30_2_0, imm_69_69, ibd_71_0_71, ibd_73_0_73, imm_74_74, ibd_76_0_76, ibd_78_0_1_78, ibx_78_32, ifa_23_1_0, ifa_23_2_0, ifa_23_4_0, ifa_78_1_0, ifa_76_0_0, ild_74_74, iln_74_3, ibx_3_0, ibx_39_0, ifa_39_3_0, imf_31_84, ifa_78_0_0, ifa_73_0_0, ifa_71_0_0, ild_69_69, iln_69_3, ibd_39_0_1_2_3_5_39, ist_2_0, ibd_23__23, ibd_94__94, ibx_94_47, ibx_50_0, ifa_50_0_0, ifa_50_5_0, ifa_50_1_0, ifa_50_7_0, ifa_50_6_0, ifa_50_2_0, ifa_50_4_0, ifa_50_3_0, imf_60_84, ibd_39__39, ibd_30__30, ifa_94_0_0, ild_91_91, iia_91_0, ifa_110_1_0, ibd_58__58, ifa_94_1_0, ild_92_92, iia_92_0, ifa_112_1_0, iln_92_3, ifa_58_0_0, ifa_112_0_0, ibs_24_1_0_24, ifa_26_1_0, ifa_26_2_0, ild_24_24, ifa_76_1_0, ifa_71_1_0, ifa_30_3_0, ifa_30_4_0, iln_91_3, ifa_94_2_0, ibd_110_0_1_110, ibs_91_1_0_91, ist_91_0, ibx_58_0, ifa_58_1_0, ifa_58_2_0, ifa_58_3_0, ifa_94_3_0, ibd_58_0_1_2_3_5_58, ibd_112_0_1_112, ibs_92_1_0_92, ist_92_0, ifa_39_5_0, ifa_58_5_0, ibs_92_0__92, ifa_58_4_0, ibd_122_0_1_2_122, ifa_110_0_0, ibs_91_0__91, hcl2]
          rfl) q2 hG2 q1 fun β3 a3 w3 s1 s2 s3 => ?_
        refine round58 hm hbo hcl hsz hsel hG hfin k (S ++ [e]) hk' hnd' hsub' β3 h2 w3 _ _ ⟨out, ⟨_, _, _, _, _, _, _, _, _, _, _, _, _, _, _, _, _, _, _, _, _, _, _, _, _, rfl⟩, hx2, hrs, hit2, ?_⟩ s2 s1 ((hE.trans q3).trans s3)
        rw [List.filter_append, show [e].filter (selF (CX X0) g ca h) = [] by simp [hs], List.append_nil]
        exact hO2
      | true =>
        rw [hs] at hcl2
        have hx3 := hx2.push (.cells #[.int .i64 (keyF e)] 3 .own)
        have hO3 : OutOk h (h2.push (.cells #[.int .i64 (keyF e)] 3 .own)) out ((S.filter (selF (CX X0) g ca h)).map keyF) := by
          rcases hO2 with q | ⟨q1, b, q2, q3, q4⟩
          · exact .inl q
          · exact .inr ⟨q1, b, q2, by rw [gp2 (lt_get q3)]; exact q3, q4⟩
        obtain ⟨out', h4, e1, e2, e3, e4⟩ := append_ids (call := CX X0) (n := keyF e) (bx := h2.size) hx3 hO3 gp1 hidl
        have hit4 : h4[r]? = some (.iter (some m) clock ((S ++ [e]).map (·.born)).toArray clock) := e4 r _ (by rw [gp2 (lt_get hit2)]; exact hit2) (fun _ _ q => by cases q)
        refine piece_sim (nu := nu20) soundX0 (ok58 _) (by
          rw [f58_p1101001, ifV_t, hkey]
          simp only [hent, bd1_n, bd2_n, ifV_t, ifV_f, vP_lss, vP_leq, vP_gtr, vP_geq, vP_add, vP_sub, vP_mul, vP_and, vP_or, vP_xor, vP_andNot, vP_not, vP_neg, vP_extract, vP_nilCheck, vB_eqi, vB_nei, ld1_some, lda_full, mlen_some, List.getElem?_toArray, List.getElem?_cons_zero, List.getElem?_cons_succ, Nat.zero_add, Nat.add_zero, List.size_toArray, List.length_cons, List.length_nil, Nat.reduceAdd, vP_min2, vP_max2, vP_min3, same_int, same_bool, same_str, same_ptr, same_slice, same_map, same_agg, same_tuple, List.all_cons, List.all_nil, gvc, Bool.and_self, Bool.and_true, ibd_23_0_3_23, iln_31_3, ibd_26__26, ibd_39_1_3_39, iia_31_0, ild_5_5, icv_5_3_3, icv_5_2_2, ial_23_0, ist_23_0, ifa_23_3_0, ild_2_2, iln_45_3, iia_45_0, ild_50_50, ial_50_0, ist_50_0, iln_24_3, iia_24_0, ild_3_3, ial_39_0, ist_39_0, ifa_39_0_0, ifa_39_4_0, ifa_39_1_0, ifa_39_2_0, ial_30_0, ist_30_0, ial_58_0, ist_58_0, ild_23_23, ild_30_30, ild_39_39, ild_58_58, ibx_23_0, ibx_26_0, ifa_23_0_0, ist_3_0, ild_65_65, ial_64_0, ist_64_0, ild_26_26, ifa_64_0_0, ifa_64_1_0, ifa_26_0_0, ifa_23_5_0, ild_4_4, ibx_30_0, ifa_30_5_0, ifa_30_0_0, ifa_30_1_0, ifa_30_2_0, imm_69_69, ibd_71_0_71, ibd_73_0_73, imm_74_74, ibd_76_0_76, ibd_78_0_1_78, ibx_78_32, ifa_23_1_0, ifa_23_2_0, ifa_23_4_0, ifa_78_1_0, ifa_76_0_0, ild_74_74, iln_74_3, ibx_3_0, ibx_39_0, ifa_39_3_0, imf_31_84, ifa_78_0_0, ifa_73_0_0, ifa_71_0_0, ild_69_69, iln_69_3, ibd_39_0_1_2_3_5_39, ist_2_0, ibd_23__23, ibd_94__94, ibx_94_47, ibx_50_0, ifa_50_0_0, ifa_50_5_0, ifa_50_1_0, ifa_50_7_0, ifa_50_6_0, ifa_50_2_0, ifa_50_4_0, ifa_50_3_0, imf_60_84, ibd_39__39, ibd_30__30, ifa_94_0_0, ild_91_91, iia_91_0, ifa_110_1_0, ibd_58__58, ifa_94_1_0, ild_92_92, iia_92_0, ifa_112_1_0, iln_92_3, ifa_58_0_0, ifa_112_0_0, ibs_24_1_0_24, ifa_26_1_0, ifa_26_2_0, ild_24_24, ifa_76_1_0, ifa_71_1_0, ifa_30_3_0, ifa_30_4_0, iln_91_3, ifa_94_2_0, ibd_110_0_1_110, ibs_91_1_0_91, ist_91_0, ibx_58_0, ifa_58_1_0, ifa_58_2_0, ifa_58_3_0, ifa_94_3_0, ibd_58_0_1_2_3_5_58, ibd_112_0_1_112, ibs_92_1_0_92, ist_92_0, ifa_39_5_0, ifa_58_5_0, ibs_92_0__92, ifa_58_4_0, ibd_122_0_1_2_122, ifa_110_0_0, ibs_91_0__91, hcl2, e1]
          rfl) q2 hG2 q1 fun β3 a3 w3 s1 s2 s3 => ?_
        refine round58 hm hbo hcl hsz hsel hG hfin k (S ++ [e]) hk' hnd' hsub' β3 h4 w3 _ _ ⟨out', ⟨_, _, _, _, _, _, _, _, _, _, _, _, _, _, _, _, _, _, _, _, _, _, _, _, _, rfl⟩, e3, hrs, hit4, ?_⟩ s2 s1 ((hE.trans q3).trans s3)
        rw [List.filter_append, show [e].filter (selF (CX X0) g ca h) = [e] by simp [hs], List.map_append]
        exact e2
theorem hook_ok58 : CallOk P (fun f' args h => if f' = 58 then sortedHook (CX X0) args h else none) := by
  intro f' args h v h1 he β w args' hr hG hargs
  simp only at he
  split at he
  · rename_i hf
    subst hf
    unfold sortedHook at he
    split at he
    · rename_i b o g fi ca hal
      split at he
      · rename_i hfi
        split at he
        · rename_i m hld
          split at he
          · rename_i es c kd hm
            split at he
            · rename_i hcond
              obtain ⟨hbo, hcl, hsz⟩ := hcond
              simp only [Option.map_eq_some_iff] at he
              obtain ⟨ids, hids, hres⟩ := he
              obtain ⟨hsel, hidseq⟩ := selIds_spec hids
              have hfi' : fi = #[] := by rw [← Array.toArray_toList (xs := fi), hfi]
              subst hfi'
              have hargs2 : args = #[.pointer (some ⟨b, o, none⟩), .func (.func g) #[] ca] := by rw [← Array.toArray_toList (xs := args), hal]
              subst hargs2
              have hfs : ((P.funcs[58]?).bind (·.body)).isSome = true := by kernel_rfl
              cases hfn : P.funcs[58]? with
              | none => rw [hfn] at hfs; cases hfs
              | some fn =>
                cases hc : fn.body with
                | none => rw [hfn] at hfs; simp [hc] at hfs
                | some code =>
                  have hbody : code = bodyOf P 58 := by unfold bodyOf; rw [hfn]; simp [hc]
                  have hnt : fn.ntmps = 28 := by
                    have h1 : tmpsOf P 58 = 28 := by kernel_rfl
                    unfold tmpsOf at h1; rw [hfn] at h1; exact h1
                  have hrl : fn.results.toList = [.tmp 4] := by
                    have h1 : resOf P 58 = [.tmp 4] := by kernel_rfl
                    unfold resOf at h1; rw [hfn] at h1; exact h1
                  refine calls_of_wp hfn hc ?_
                  rw [hbody, shape58]
                  have hsz' : args'.size = 2 := hargs.size
                  have ha0 : AR β h ⟨#[.pointer (some ⟨b, o, none⟩), .func (.func g) #[] ca, undef, undef, undef, undef, undef, undef, undef, undef, undef, undef, undef, undef, undef, undef, undef, undef, undef, undef, undef, undef, undef, undef, undef, undef, undef, undef], []⟩ ⟨args' ++ Array.replicate (fn.ntmps - args'.size) undef, []⟩ := by
                    refine ⟨?_, rfl, rfl⟩
                    rw [hsz', hnt]
                    have : (#[.pointer (some ⟨b, o, none⟩), .func (.func g) #[] ca, undef, undef, undef, undef, undef, undef, undef, undef, undef, undef, undef, undef, undef, undef, undef, undef, undef, undef, undef, undef, undef, undef, undef, undef, undef, undef] : Array Value) = #[.pointer (some ⟨b, o, none⟩), .func (.func g) #[] ca] ++ Array.replicate 26 undef := by kernel_rfl
                    rw [this]
                    refine hargs.append (.of_get rfl fun i u u' h3 h4 => ?_)
                    rw [Array.getElem?_replicate] at h3 h4
                    split at h3
                    · cases h3; split at h4 <;> cases h4 <;> exact VR.undef
                    · cases h3
                  refine wp_seq ?_
                  refine piece_sim (nu := nu20) soundX0 (ok58 _) (f58_p0 ..) hr hG ha0 fun β1 a1 w1 p1 p2 p3 => ?_
                  have hG1 := hG.evo p3
                  refine wp_seq ?_
                  refine piece_sim (nu := nu20) soundX0 (ok58 _) (f58_p10 ..) p2 hG1 p1 fun β2 a2 w2 q1 q2 q3 => ?_
                  have hE2 := p3.trans q3
                  have hG2 := hG.evo hE2
                  refine wp_seq ?_
                  refine wp_seq ?_
                  have hrange : vE P (CX X0) (.range 74 (.const (.map (some m)))) 0 h = some (.pointer (some ⟨h.size, 0, none⟩), h.push (.iter (some m) c #[] c)) := by
                    simp [vE, evEff, opr, evalConst, u74, hm, cNew]
                  refine piece_sim (nu := nu20) soundX0 (ok58 _) (by
                    rw [f58_p1100]
                    simp only [vP_nilCheck, bd1_n, bd2_n, ifa_76_0_0, ild_74_74, hld, hrange]
                    rfl) q2 hG2 q1 fun β3 a3 w3 s1 s2 s3 => ?_
                  have hE3 := hE2.trans s3
                  have hx3 : Ext h (h.push (.iter (some m) c #[] c)) := (Ext.refl h).push _
                  refine wp_block ?_
                  refine wp_loop_rounds (es.size + 1) ?_
                  refine round58 (h := h) (r := h.size) hm hbo hcl hsz hsel hG ?_ (es.size + 1) [] (by simp) (by simp) (by simp) β3 _ w3 _ _ ⟨.slice none 0 0, ⟨_, _, _, _, _, _, _, _, _, _, _, _, _, _, _, _, _, _, _, _, _, _, _, _, _, rfl⟩, hx3, Nat.le_refl _, gp1, .inl ⟨rfl, rfl⟩⟩ s2 s1 hE3
                  intro S β4 h4 w4 a4 a4' hperm hIn r2 r1 hE4
                  simp only [Exit.inBlock, if_true]
                  show (Code.seq _ _).wp P _ a4' w4
                  obtain ⟨out, ⟨v0, v2, v3, v4, v6, v7, v8, v9, v10, v11, v13, v14, v15, v16, v17, v18, v19, v20, v21, v22, v23, v24, v25, v26, v27, rfl⟩, hx, hrs, hit, hO⟩ := hIn
                  have hG4 := hG.evo hE4
                  have hpids : ((S.filter (selF (CX X0) g ca h)).map keyF).Perm ids := by
                    rw [hidseq]
                    exact (hperm.filter _).map _
                  -- the sort, and what is handed back
                  have fin : ∀ (h5 : H) (vv : Value), evCG P okAll nu20 X1 66 #[out] h4 = some (vv, h5) → (∀ (β' : Nat → Option Emb) (w' : World) (v' : Value), VRh β' h5 out v' → Rel P β' h5 w' → Evo β h w β' h5 w' → ∃ β1, VRh β1 h1 v v' ∧ Rel P β1 h1 w' ∧ Evo β h w β1 h1 w') →
                      (Code.seq (codeAt (bodyOf P 58) [1, 1, 1, 0]) (codeAt (bodyOf P 58) [1, 1, 1, 1])).wp P (bodyPost P fn fun e w' => ∃ v' β', e = .returned v' ∧ VRh β' h1 v v' ∧ Rel P β' h1 w' ∧ Evo β h w β' h1 w') a4' w4 := by
                    intro h5 vv hsort hback
                    refine wp_seq ?_
                    refine piece_sim (nu := nu20) soundX1 (ok58 _) (by
                      rw [f58_p1110, hsort, bd2_n]) r2 hG4 r1 fun β5 a5 w5 t1 t2 t3 => ?_
                    have hE5 := hE4.trans t3
                    refine piece_sim (nu := nu20) soundX0 (ok58 _) (f58_p1111 ..) t2 (hG.evo hE5) t1 fun β6 a6 w6 z1 z2 z3 => ?_
                    have hE6 := hE5.trans z3
                    have hev : evResults P fn #[v0, .func (.func g) #[] ca, v2, v3, out, out, v6, v7, v8, v9, v10, v11, .pointer (some ⟨h.size, 0, none⟩), v13, v14, v15, v16, v17, v18, v19, v20, v21, v22, v23, v24, out, vv, out] h5 = some out := by
                      unfold evResults
                      rw [hrl]
                      rfl
                    obtain ⟨v', y1, y2⟩ := results_sim z2 z1.tmps hev
                    obtain ⟨βf, x1, x2, x3⟩ := hback β6 w6 v' y2 z2 hE6
                    exact ⟨z1.d', v', y1, v', βf, rfl, x1, x2, x3⟩
                  rcases hO with ⟨hnil, rfl⟩ | ⟨hne, b5, rfl, hb5, hbs5⟩
                  · have hidn : ids = [] := by
                      rw [hnil] at hpids
                      exact List.perm_nil.1 hpids.symm
                    subst hidn
                    simp only [List.mergeSort_nil, sortedRes, Prod.mk.injEq] at hres
                    obtain ⟨rfl, rfl⟩ := hres
                    refine fin h4 (.tuple #[]) (hookG (f := 66) (by rfl) (by rfl)) fun β' w' v' y1 y2 y3 => ?_
                    have := gc_sim hr y2 y1 y3
                    rw [gc_same hx (.of_af rfl)] at this
                    exact this
                  · have hsm : ((S.filter (selF (CX X0) g ca h)).map keyF).length < 4611686018427387904 := by
                      rw [List.length_map]
                      have h1 := List.length_filter_le (selF (CX X0) g ca h) S
                      have h2 := hperm.length_eq
                      simp at h2
                      omega
                    have hsort : sortH #[.slice (some ⟨b5, 0, none⟩) ((S.filter (selF (CX X0) g ca h)).map keyF).length ((S.filter (selF (CX X0) g ca h)).map keyF).length] h4 = some (.tuple #[], h4.setIfInBounds b5 (.cells (intCs (((S.filter (selF (CX X0) g ca h)).map keyF).mergeSort fun x y => decide (x ≤ y))) 3 .grown)) := by
                      unfold sortH
                      simp only [hb5, intsOfC_of]
                      rw [if_pos ⟨trivial, trivial, trivial, List.length_pos_iff.2 hne, hsm⟩]
                    refine fin _ (.tuple #[]) (hookG (f := 66) (by rfl) hsort) fun β' w' v' y1 y2 y3 => ?_
                    have hx5 := hx.set hbs5 (.cells (intCs (((S.filter (selF (CX X0) g ca h)).map keyF).mergeSort fun x y => decide (x ≤ y))) 3 .grown)
                    have := recanon hr y2 y3 hx5 (gs1 (lt_get hb5)) hbs5 (fun i v hv => by
                      unfold intCs at hv
                      simp only [List.getElem?_toArray, List.getElem?_map, Option.map_eq_some_iff] at hv
                      obtain ⟨n, _, rfl⟩ := hv
                      rfl) y1 (by decide)
                    rw [sorted_perm hpids] at this
                    have hlen : ((S.filter (selF (CX X0) g ca h)).map keyF).length = (ids.mergeSort fun x y => decide (x ≤ y)).length := by rw [List.length_mergeSort]; exact hpids.length_eq
                    rw [hlen] at this
                    have hne2 : (ids.mergeSort fun x y => decide (x ≤ y)) ≠ [] := by
                      intro hq
                      rw [hq] at hlen
                      exact hne (List.length_eq_zero_iff.1 hlen)
                    generalize (ids.mergeSort fun x y => decide (x ≤ y)) = srt at hres this hne2
                    cases srt with
                    | nil => exact absurd rfl hne2
                    | cons s0 sl =>
                      simp only [sortedRes, Prod.mk.injEq] at hres
                      obtain ⟨rfl, rfl⟩ := hres
                      exact this
            · cases he
          · cases he
        · cases he
      · cases he
    · cases he
  · cases he
end
end Go.Proofs.YtfmikgbachnneaaDoor
