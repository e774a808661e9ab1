/- Who is allowed. -/
import Derived.Test.YtfmikgbachnneaaDoorT20c
namespace Go.Proofs.YtfmikgbachnneaaDoor
open Go Go.Am
set_option maxRecDepth 100000

/-- The masked attributes' cells, as the box holds them. -/
def G0 (h : H) : Prop := h[0]? = some (.cells bitsCells 65 .ro)
theorem veqc_int (k : IntKind) (x : Int) : veqc (.int k x) (.int k x) = true := by simp [veqc]
theorem veqc_bool (x : Bool) : veqc (.bool x) (.bool x) = true := by simp [veqc]
theorem veq_int (k : IntKind) (x : Int) : veq (.int k x) (.int k x) = true := by simp [veq, veqc]
theorem veq_bool (x : Bool) : veq (.bool x) (.bool x) = true := by simp [veq, veqc]
theorem veq_attr {m u g s n : Int} {d : Bool} : veq (attrV m u g s n d) (attrV m u g s n d) = true := by simp [veq, attrV, veqs, veqc]
theorem veq_cred {h : H} {u g : Int} {gs : Value} {l : List Int} (hI : Ints h gs l) : veq (credV u g gs) (credV u g gs) = true := by
  obtain ⟨a, c, rfl⟩ := hI.len
  simp [veq, credV, veqs, veqc]
structure AllowedAt (h0 : H) (m u g s n : Int) (d : Bool) (cu cg : Int) (gs : Value) (l : List Int) (b3 b4 : Nat) (h : H) : Prop where
  ext : Ext h0 h
  b3 : h[b3]? = some (.cells (attrV m u g s n d).cells 23 .own)
  b4 : h[b4]? = some (.cells (credV cu cg gs).cells 26 .own)
  ints : Ints h gs l
theorem AllowedAt.up {h0 : H} {m u g s n : Int} {d : Bool} {cu cg : Int} {gs : Value} {l : List Int} {b3 b4 : Nat} {h h' : H} (hA : AllowedAt h0 m u g s n d cu cg gs l b3 b4 h) (he : Ext h h') : AllowedAt h0 m u g s n d cu cg gs l b3 b4 h' :=
  ⟨hA.ext.trans he, he.some hA.b3, he.some hA.b4, hA.ints.ext he⟩
def LoopOk (h0 : H) (m u g s n : Int) (d : Bool) (cu cg : Int) (gs : Value) (l : List Int) (b3 b4 : Nat) (w : Int) (Q : Value → H → Prop) (i p : Int) : Prop :=
  ∀ (h : H) (v0 v1 v5 v6 v8 v9 v10 v11 v12 v13 v14 v15 v16 v17 v18 v19 v22 v23 v24 v25 v26 v27 v28 v29 v30 v31 v32 v33 v34 v35 v36 v37 v38 v39 v40 v41 v42 v43 v44 v45 v46 v47 v48 v49 v50 v51 v52 : Value), AllowedAt h0 m u g s n d cu cg gs l b3 b4 h →
    Run (kCode P C (codeAt (bodyOf P 9) [1, 1, 1, 1, 0, 1, 0]) ⟨#[v0, v1, .int .i64 w, .pointer (some ⟨b3, 0, none⟩), .pointer (some ⟨b4, 0, none⟩), v5, v6, .int .i64 p, v8, v9, v10, v11, v12, v13, v14, v15, v16, v17, v18, v19, .agg bitsCells, .int .i64 i, v22, v23, v24, v25, v26, v27, v28, v29, v30, v31, v32, v33, v34, v35, v36, v37, v38, v39, v40, v41, v42, v43, v44, v45, v46, v47, v48, v49, v50, v51, v52], []⟩ h (kPath P C (bodyOf P 9) [1, 1, 1, 1, 0, 1, 0] (kEnd P 9))) Q
section
variable {h0 : H} {m u g s n : Int} {d : Bool} {cu cg : Int} {gs : Value} {l : List Int} {b3 b4 : Nat} {w : Int} {Q : Value → H → Prop}
theorem loop_round (hs : small l) {i p per acc : Int} (hi : i < 3) (hi1 : IntKind.i64.wrap (i + 1) = i + 1) (hix : vP P (.index 65 (.const (.agg bitsCells)) (.const (.int .i64 i))) 64 = some (.agg #[.int .i64 per, .int .i64 acc]))
    (hn : LoopOk h0 m u g s n d cu cg gs l b3 b4 w Q (i + 1) (step1 (classOf m u g cu cg l) p acc per)) : LoopOk h0 m u g s n d cu cg gs l b3 b4 w Q i p := by
  intro h v0 v1 v5 v6 v8 v9 v10 v11 v12 v13 v14 v15 v16 v17 v18 v19 v22 v23 v24 v25 v26 v27 v28 v29 v30 v31 v32 v33 v34 v35 v36 v37 v38 v39 v40 v41 v42 v43 v44 v45 v46 v47 v48 v49 v50 v51 v52 hA
  refine run_loop f9_l1111010_eq ?_
  rw [f9_l1111010, vP_lss, bd1_eq]
  refine run_ifV (fun _ => ?_) (fun hlt => by simp at hlt; omega)
  rw [hix, bd1_eq]
  refine run_alloc al64 fun b9 h1 he1 hb9 hb9' hc9 => ?_
  rw [vE_store (n := 2) (by kernel_rfl) (by kernel_rfl) rfl rfl hc9 (by decide) rfl (by decide), bd2_eq]
  have he2 : Ext h (h1.setIfInBounds b9 (.cells (putL #[.int .i64 0, .int .i64 0] 0 (Value.agg #[.int .i64 per, .int .i64 acc]).cells.toList) 64 .own)) := he1.set hb9 _
  have hc2 : (h1.setIfInBounds b9 (.cells (putL #[.int .i64 0, .int .i64 0] 0 (Value.agg #[.int .i64 per, .int .i64 acc]).cells.toList) 64 .own))[b9]? = some (.cells #[.int .i64 per, .int .i64 acc] 64 .own) := by rw [get_set hb9']; rfl
  generalize h1.setIfInBounds b9 (.cells (putL #[.int .i64 0, .int .i64 0] 0 (Value.agg #[.int .i64 per, .int .i64 acc]).cells.toList) 64 .own) = h2 at he2 hc2 ⊢
  have hA2 := hA.up he2
  have c3 : lda h2 b3 0 6 = some (attrV m u g s n d) := by rw [lda_of hA2.b3]; rfl
  have c4 : lda h2 b4 0 3 = some (credV cu cg gs) := by rw [lda_of hA2.b4]; rfl
  have d0 : ∀ (h : H), h[b9]? = some (.cells #[.int .i64 per, .int .i64 acc] 64 .own) → ld h b9 (0 + 0) = some (.int .i64 per) := fun h hh => by rw [ld_of hh]; rfl
  have d1 : ∀ (h : H), h[b9]? = some (.cells #[.int .i64 per, .int .i64 acc] 64 .own) → ld h b9 (0 + 1) = some (.int .i64 acc) := fun h hh => by rw [ld_of hh]; rfl
  simp only [l23, l26, c3, c4, bd1_eq, same_eq veq_attr, same_eq (veq_cred hA2.ints)]
  refine run_bd2 ((class_spec hA2.ints hs).mono ?_)
  rintro v h3 ⟨rfl, he3⟩
  have hc3 := he3.some hc2
  simp only [fa_64_0, fa_64_1, bd1_eq, l3, d0 h2 hc2, d0 h3 hc3, d1 h3 hc3, same_eq (veq_int _ _), vP_and, vB_nei, same_eq (veq_bool _), vP_or, vP_add]
  refine run_ifV (fun hne => ?_) (fun he => ?_)
  · have : ¬ iand .i64 (classOf m u g cu cg l) per = 0 := by simpa using hne
    rw [hi1]
    have e : step1 (classOf m u g cu cg l) p acc per = ior .i64 p acc := by simp [step1, this]
    rw [e] at hn
    exact hn h3 _ _ _ _ _ _ _ _ _ _ _ _ _ _ _ _ _ _ _ _ _ _ _ _ _ _ _ _ _ _ _ _ _ _ _ _ _ _ _ _ _ _ _ _ _ _ _ (hA2.up he3)
  · have : iand .i64 (classOf m u g cu cg l) per = 0 := by simpa using he
    rw [hi1]
    have e : step1 (classOf m u g cu cg l) p acc per = p := by simp [step1, this]
    rw [e] at hn
    exact hn h3 _ _ _ _ _ _ _ _ _ _ _ _ _ _ _ _ _ _ _ _ _ _ _ _ _ _ _ _ _ _ _ _ _ _ _ _ _ _ _ _ _ _ _ _ _ _ _ (hA2.up he3)
def refAl (m u g : Int) (d : Bool) (cu cg : Int) (l : List Int) (w : Int) : Bool :=
  if w < 0 ∨ 7 < w then false else
  if cu = 0 then iand .i64 w 4 == 0 || (d || iand .i64 m 73 != 0) else
  bitsOk w (if cu = u then m / 64 % 8 else if cg = g ∨ g ∈ l then m / 8 % 8 else m % 8)
theorem classOf_range (m u g cu cg : Int) (l : List Int) : classOf (m % 4096) u g cu cg l = (if cu = u then m / 64 % 8 else if cg = g ∨ g ∈ l then m / 8 % 8 else m % 8) := by
  have h0 : 0 ≤ m % 4096 := Int.emod_nonneg _ (by decide)
  have h1 : m % 4096 < 4096 := Int.emod_lt_of_pos _ (by decide)
  unfold classOf
  rw [IntWalk.i64_quo _ _ (by omega), IntWalk.i64_quo _ _ (by omega)]
  rw [Int.tmod_eq_emod_of_nonneg (by omega), Int.tmod_eq_emod_of_nonneg (by omega), Int.tmod_eq_emod_of_nonneg (by omega)]
  split
  · omega
  · split <;> omega
theorem loop_end (hw : 0 ≤ w ∧ w ≤ 7) : LoopOk h0 (m % 4096) u g s n d cu cg gs l b3 b4 w (fun v h' => v = .bool (refAl m u g d cu cg l w) ∧ Ext h0 h') 3 (permOf (classOf (m % 4096) u g cu cg l)) := by
  intro h v0 v1 v5 v6 v8 v9 v10 v11 v12 v13 v14 v15 v16 v17 v18 v19 v22 v23 v24 v25 v26 v27 v28 v29 v30 v31 v32 v33 v34 v35 v36 v37 v38 v39 v40 v41 v42 v43 v44 v45 v46 v47 v48 v49 v50 v51 v52 hA
  have hnw : ¬ (w < 0 ∨ 7 < w) := by omega
  refine run_loop f9_l1111010_eq ?_
  rw [f9_l1111010, vP_lss, bd1_eq]
  refine run_ifV (fun hlt => by simp at hlt) (fun _ => ?_)
  rw [f9_l1111010_E0]
  have a0 : ld h b3 (0 + 0) = some (.int .i64 (m % 4096)) := by rw [ld_of hA.b3]; rfl
  have a5 : ld h b3 (0 + 5) = some (.bool d) := by rw [ld_of hA.b3]; rfl
  have c0 : ld h b4 (0 + 0) = some (.int .i64 cu) := by rw [ld_of hA.b4]; rfl
  simp only [fa_26_0, fa_23_0, fa_23_5, l3, l4, a0, a5, c0, bd1_eq, vB_eqi, vB_nei, vP_and, vP_or, vP_andNot]
  refine run_ifV (fun hz => ?_) (fun hz => ?_)
  · have hz' : cu = 0 := by simpa using hz
    refine run_ifV (fun hd => ?_) (fun hd => ?_)
    · refine run_some.2 ⟨?_, hA.ext⟩
      rw [root_ok' w hw]
      simp [refAl, hnw, hz', hd]
    · refine run_ifV (fun hm => ?_) (fun hm => ?_)
      · refine run_some.2 ⟨?_, hA.ext⟩
        rw [root_ok' w hw]
        rw [and_73] at hm
        simp only [refAl, hnw, hz', hd, hm, if_false, if_true, Bool.or_true]
      · refine run_some.2 ⟨?_, hA.ext⟩
        rw [root_not' w hw]
        rw [and_73] at hm
        simp only [refAl, hnw, hz', hd, hm, if_false, if_true, Bool.or_false]
  · have hz' : ¬ cu = 0 := by simpa using hz
    refine run_some.2 ⟨?_, hA.ext⟩
    have hr : 0 ≤ classOf (m % 4096) u g cu cg l ∧ classOf (m % 4096) u g cu cg l ≤ 7 := by
      rw [classOf_range]
      split
      · omega
      · split <;> omega
    rw [bits_perm' w _ hw hr, classOf_range]
    simp only [refAl, hnw, hz', if_false]
end
theorem allowed_spec {h : H} {m u g s n : Int} {d : Bool} {cu cg w : Int} {gs : Value} {l : List Int} (hG : G0 h) (hI : Ints h gs l) (hs : small l) :
    Run (C 9 #[attrV m u g s n d, credV cu cg gs, .int .i64 w] h) fun v h' => v = .bool (refAl m u g d cu cg l w) ∧ Ext h h' := by
  refine into (tmps := #[attrV m u g s n d, credV cu cg gs, .int .i64 w, undef, undef, undef, undef, undef, undef, undef, undef, undef, undef, undef, undef, undef, undef, undef, undef, undef, undef, undef, undef, undef, undef, undef, undef, undef, undef, undef, undef, undef, undef, undef, undef, undef, undef, undef, undef, undef, undef, undef, undef, undef, undef, undef, undef, undef, undef, undef, undef, undef, undef]) rfl (by kernel_rfl) (by kernel_rfl) ?_
  rw [f9]
  refine run_box rfl fun b3 h1 he1 hb3 hb3' hc3 => ?_
  refine run_box rfl fun b4 h2 he2 hb4 hb4' hc4 => ?_
  have hE := he1.trans he2
  rw [vP_lss, bd1_eq]
  refine run_ifV (fun hlt => ?_) (fun hlt => ?_)
  · have : w < 0 := by simpa using hlt
    exact run_some.2 ⟨by simp [refAl, this], hE⟩
  · have h0 : ¬ w < 0 := by simpa using hlt
    rw [vP_gtr, bd1_eq]
    refine run_ifV (fun hlt => ?_) (fun hlt => ?_)
    · have : 7 < w := by simpa using hlt
      exact run_some.2 ⟨by simp [refAl, this], hE⟩
    · have h7 : ¬ 7 < w := by simpa using hlt
      have hc3' := he2.some hc3
      have a0 : ld h2 b3 (0 + 0) = some (.int .i64 m) := by rw [ld_of hc3']; rfl
      simp only [fa_23_0, bd1_eq, l3, a0, vP_and]
      rw [vE_store (n := 1) (by kernel_rfl) (by kernel_rfl) rfl rfl hc3' (by decide) rfl (show 0 + 0 + 1 ≤ 6 by decide), bd2_eq]
      have hA : AllowedAt h (m % 4096) u g s n d cu cg gs l b3 b4 (h2.setIfInBounds b3 (.cells (putL (attrV m u g s n d).cells (0 + 0) (Value.int .i64 (iand .i64 m 4095)).cells.toList) 23 .own)) := by
        refine ⟨hE.set hb3 _, ?_, ?_, ?_⟩
        · rw [get_set (Nat.lt_of_lt_of_le hb3' he2.size), and_4095]; rfl
        · rw [get_set_ne (by omega)]; exact hc4
        · exact hI.ext (hE.set hb3 _)
      have hg : lda (h2.setIfInBounds b3 (.cells (putL (attrV m u g s n d).cells (0 + 0) (Value.int .i64 (iand .i64 m 4095)).cells.toList) 23 .own)) 0 0 6 = some (.agg bitsCells) := by
        have h0' : (0 : Nat) < h.size := (Array.getElem?_eq_some_iff.1 hG).1
        rw [lda_of (Ext.some (hE.set hb3 _) hG)]; rfl
      rw [l65, hg, bd1_eq]
      refine loop_round (i := 0) hs (by decide) (by decide) ix65_0 ?_ _ _ _ _ _ _ _ _ _ _ _ _ _ _ _ _ _ _ _ _ _ _ _ _ _ _ _ _ _ _ _ _ _ _ _ _ _ _ _ _ _ _ _ _ _ _ _ _ hA
      refine loop_round (i := 0 + 1) hs (by decide) (by decide) ix65_1 ?_
      refine loop_round (i := 0 + 1 + 1) hs (by decide) (by decide) ix65_2 ?_
      exact loop_end (by omega)

theorem rallowed_spec {h : H} {m u g s n : Int} {d : Bool} {cu cg w : Int} {gs : Value} {l : List Int} (hI : Ints h gs l) (hs : small l) :
    Run (C 10 #[attrV m u g s n d, credV cu cg gs, .int .i64 w] h) fun v h' => v = .bool (refAl m u g d cu cg l w) ∧ Ext h h' := by
  refine into (tmps := #[attrV m u g s n d, credV cu cg gs, .int .i64 w, undef, undef, undef, undef, undef, undef, undef, undef, undef, undef, undef, undef, undef, undef, undef, undef, undef, undef, undef, undef, undef, undef, undef, undef, undef, undef, undef, undef, undef, undef, undef, undef, undef, undef, undef, undef, undef, undef, undef, undef, undef, undef, undef, undef, undef, undef, undef, undef, undef, undef, undef, undef, undef, undef, undef, undef, undef, undef, undef, undef, undef, undef, undef, undef, undef, undef, undef, undef, undef, undef, undef, undef, undef, undef, undef]) rfl (by kernel_rfl) (by kernel_rfl) ?_
  rw [f10]
  refine run_box rfl fun b3 h1 he1 hb3 hb3' hc3 => ?_
  refine run_box rfl fun b4 h2 he2 hb4 hb4' hc4 => ?_
  have hE := he1.trans he2
  have hc3' := he2.some hc3
  have a0 : ∀ h : H, h[b3]? = some (.cells (attrV m u g s n d).cells 30 .own) → ld h b3 (0 + 0) = some (.int .i64 m) := fun h hh => by rw [ld_of hh]; rfl
  have a1 : ld h2 b3 (0 + 1) = some (.int .i64 u) := by rw [ld_of hc3']; rfl
  have a2 : ld h2 b3 (0 + 2) = some (.int .i64 g) := by rw [ld_of hc3']; rfl
  have a5 : ld h2 b3 (0 + 5) = some (.bool d) := by rw [ld_of hc3']; rfl
  have c0 : ld h2 b4 (0 + 0) = some (.int .i64 cu) := by rw [ld_of hc4]; rfl
  have c3 : lda h2 b4 0 3 = some (credV cu cg gs) := by rw [lda_of hc4]; rfl
  rw [vP_lss, bd1_eq]
  refine run_ifV (fun hlt => ?_) (fun hlt => ?_)
  · have : w < 0 := by simpa using hlt
    exact run_some.2 ⟨by simp [refAl, this], hE⟩
  · have h0 : ¬ w < 0 := by simpa using hlt
    rw [vP_gtr, bd1_eq]
    refine run_ifV (fun hlt => ?_) (fun hlt => ?_)
    · have : 7 < w := by simpa using hlt
      exact run_some.2 ⟨by simp [refAl, this], hE⟩
    · have h7 : ¬ 7 < w := by simpa using hlt
      have hnw : ¬ (w < 0 ∨ 7 < w) := by omega
      have s6 : ¬ (6 : Int) < 0 := by decide
      have s3 : ¬ (3 : Int) < 0 := by decide
      have e6 : m.fdiv (2 ^ (min (6 : Int).toNat IntKind.i64.bits)) % 8 = m / 64 % 8 := by
        show m.fdiv 64 % 8 = _
        rw [Int.fdiv_eq_ediv_of_nonneg _ (by decide)]
      have e3 : m.fdiv (2 ^ (min (3 : Int).toNat IntKind.i64.bits)) % 8 = m / 8 % 8 := by
        show m.fdiv 8 % 8 = _
        rw [Int.fdiv_eq_ediv_of_nonneg _ (by decide)]
      simp only [fa_26_0, fa_30_0, fa_30_1, fa_30_2, fa_30_5, bd1_eq, l3, l4, l26, a0 h2 hc3', a1, a2, a5, c0, c3, vB_eqi, vB_nei, vP_and, and_7, vP_shr s6, vP_shr s3, e6]
      refine run_ifV (fun hz => ?_) (fun hz => ?_)
      · have hz' : cu = 0 := by simpa using hz
        have hR : refAl m u g d cu cg l w = (iand .i64 w 4 == 0 || (d || iand .i64 m 73 != 0)) := by simp only [refAl, hnw, hz', if_false, if_true]
        rw [hR]
        refine run_ifV (fun h4 => run_some.2 ⟨by simp [h4], hE⟩) (fun h4 => ?_)
        refine run_ifV (fun hd => run_some.2 ⟨by simp [hd], hE⟩) (fun hd => run_some.2 ⟨by simp [h4, hd], hE⟩)
      · have hz' : ¬ cu = 0 := by simpa using hz
        have hR : refAl m u g d cu cg l w = bitsOk w (if cu = u then m / 64 % 8 else if cg = g ∨ g ∈ l then m / 8 % 8 else m % 8) := by simp only [refAl, hnw, hz', if_false]
        rw [hR]
        refine run_ifV (fun hu => ?_) (fun hu => ?_)
        · have hu' : cu = u := by simpa using hu
          rw [if_pos hu']
          clear hR
          unfold bitsOk
          generalize (iand .i64 w 1 == 0) = A1
          generalize (iand .i64 w 2 == 0) = A2
          generalize (iand .i64 w 4 == 0) = A4
          generalize (iand .i64 (m / 64 % 8) 1 != 0) = B1
          generalize (iand .i64 (m / 64 % 8) 2 != 0) = B2
          generalize (iand .i64 (m / 64 % 8) 4 != 0) = B4
          cases A1 <;> cases A2 <;> cases A4 <;> cases B1 <;> cases B2 <;> cases B4 <;> exact run_some.2 ⟨rfl, hE⟩
        · have hu' : ¬ cu = u := by simpa using hu
          rw [if_neg hu']
          refine run_bd2 ((rmember_spec (hI.ext hE) hs).mono ?_)
          rintro v h3 ⟨rfl, he3⟩
          have hE3 := hE.trans he3
          simp only [bd1_eq, a0 h3 (he3.some hc3'), vP_and, and_7, vP_shr s3, e3, vB_eqi, vB_nei]
          refine run_ifV (fun hm => ?_) (fun hm => ?_)
          · have hm' : cg = g ∨ g ∈ l := by simpa using hm
            rw [if_pos hm']
            clear hm
            clear hR
            unfold bitsOk
            generalize (iand .i64 w 1 == 0) = A1
            generalize (iand .i64 w 2 == 0) = A2
            generalize (iand .i64 w 4 == 0) = A4
            generalize (iand .i64 (m / 8 % 8) 1 != 0) = B1
            generalize (iand .i64 (m / 8 % 8) 2 != 0) = B2
            generalize (iand .i64 (m / 8 % 8) 4 != 0) = B4
            cases A1 <;> cases A2 <;> cases A4 <;> cases B1 <;> cases B2 <;> cases B4 <;> exact run_some.2 ⟨rfl, hE3⟩
          · have hm' : ¬ (cg = g ∨ g ∈ l) := by simpa using hm
            rw [if_neg hm']
            clear hm
            clear hR
            unfold bitsOk
            generalize (iand .i64 w 1 == 0) = A1
            generalize (iand .i64 w 2 == 0) = A2
            generalize (iand .i64 w 4 == 0) = A4
            generalize (iand .i64 (m % 8) 1 != 0) = B1
            generalize (iand .i64 (m % 8) 2 != 0) = B2
            generalize (iand .i64 (m % 8) 4 != 0) = B4
            cases A1 <;> cases A2 <;> cases A4 <;> cases B1 <;> cases B2 <;> cases B4 <;> exact run_some.2 ⟨rfl, hE3⟩
end Go.Proofs.YtfmikgbachnneaaDoor
