/- The law AttributesAppends, its function. -/
import Derived.Test.YtfmikgbachnneaaDoorT20x
set_option linter.unusedSimpArgs false
set_option linter.unusedVariables false
namespace Go.Proofs.YtfmikgbachnneaaDoor
open Go Go.Am Go.Tab20
set_option maxRecDepth 100000
def aA (s : Int) : At := ⟨384, 0, 0, s, 0, false⟩
def bA : Bk := ⟨0, 2, 0, true, 0, 0⟩
def cA : Cr := ⟨0, 0, []⟩
def T0A : Tb := ⟨[], 0, [], 0⟩
def T1A (s : Int) : Tb := ⟨[(1, aA s)], 1, [], 0⟩
def T2A (s : Int) : Tb := ⟨[(1, aA s)], 1, [(1, ⟨1, 2, 0, true, 0, 1⟩)], 1⟩
def T3A (s : Int) : Tb := ⟨[(1, aA s)], 1, [(1, ⟨1, 2, 0, true, 0, 1⟩), (2, ⟨1, 2, 0, true, 0, 1⟩)], 2⟩
theorem createA {s : Int} : create T0A (aA s) = if s < 0 ∨ 16384 < s then (0, 34, T0A) else (1, 0, T1A s) := by
  unfold create aA T0A T1A
  by_cases h : s < 0 ∨ 16384 < s
  · rw [if_pos h, if_pos (by simp only; omega)]
  · rw [if_neg h, if_neg (by simp only; omega)]
    rfl
theorem allowA {s : Int} : allowedT (aA s) cA 2 = true := by
  unfold allowedT refAl aA cA
  simp only
  rw [if_neg (by decide), if_pos trivial]
  have : (iand .i64 2 4 == 0) = true := by decide
  rw [this]; rfl
theorem open1A {s : Int} : openB allowedT (T1A s) 1 cA bA = (1, 0, T2A s) := by
  unfold openB
  rw [show Tab20.get (T1A s).os 1 = some (aA s) from rfl]
  simp only
  rw [if_neg (by decide), if_neg (by rintro ⟨q, _⟩; cases q), show bA.ac = 2 from rfl, allowA, if_neg (by decide)]
  rfl
theorem open2A {s : Int} : openB allowedT (T2A s) 1 cA bA = (2, 0, T3A s) := by
  unfold openB
  rw [show Tab20.get (T2A s).os 1 = some (aA s) from rfl]
  simp only
  rw [if_neg (by decide), if_neg (by rintro ⟨q, _⟩; cases q), show bA.ac = 2 from rfl, allowA, if_neg (by decide)]
  rw [show ((T2A s).bs.any fun p => conflict 1 bA p.2) = false from by
    show (conflict 1 bA ⟨1, 2, 0, true, 0, 1⟩ || false) = false
    decide]
  rfl
theorem invT1A {s : Int} (h : ¬ (s < 0 ∨ 16384 < s)) : Inv (T1A s) := by
  have := inv_create (a := aA s) inv_new (by simp [aA])
  rw [show (⟨[], 0, [], 0⟩ : Tb) = T0A from rfl, createA, if_neg h] at this
  exact this
theorem appA {s : Int} (h : ¬ (s < 0 ∨ 16384 < s)) : App (T3A s) s := by
  have h2 := inv_open (al := allowedT) (ob := 1) (c := cA) (b := bA) (invT1A h)
  rw [open1A] at h2
  have h3 := inv_open (al := allowedT) (ob := 1) (c := cA) (b := bA) h2
  rw [open2A] at h3
  exact ⟨h3, ⟨aA s, rfl, rfl⟩, ⟨_, rfl, rfl, rfl, rfl⟩, ⟨_, rfl, rfl, rfl, rfl⟩⟩
theorem law_appends {h : H} {v1 : Value} {l : List Int} {s : Int} (hG : G0 h) (hR : RoInts .u8 h v1 l) (hb8 : ∀ x ∈ l, 0 ≤ x ∧ x ≤ 255) : Run (CX X20 4 #[.int .i64 s, v1] h) fun v _ => v = .bool true := by
  obtain ⟨va, vc, hv1⟩ := hR.len
  refine intoM (f := 4) (tmps := #[.int .i64 s, v1, undef, undef, undef, undef, undef, undef, undef, undef, undef, undef, undef, undef, undef, undef, undef, undef, undef, undef, undef, undef, undef, undef, undef, undef, undef, undef, undef, undef, undef, undef, undef, undef, undef, undef, undef, undef, undef, undef, undef, undef, undef, undef, undef, undef, undef, undef, undef, undef, undef, undef, undef, undef, undef, undef, undef, undef, undef, undef, undef, undef, undef, undef, undef, undef, undef, undef, undef, undef, undef, undef, undef, undef, undef, undef, undef, undef, undef, undef, undef, undef, undef, undef, undef, undef, undef, undef, undef, undef, undef, undef, undef, undef, undef, undef, undef, undef, undef, undef, undef, undef, undef, undef, undef, undef, undef, undef, undef, undef, undef, undef, undef, undef, undef, undef, undef, undef, undef, undef, undef, undef, undef, undef, undef, undef, undef, undef, undef, undef, undef, undef, undef, undef, undef, undef, undef, undef, undef, undef, undef, undef])  rfl rfl (by kernel_rfl) (by kernel_rfl) ?_
  rw [f4]
  refine run_bd2 ((new_spec (h := h) free20).mono ?_)
  rintro v h1 ⟨t, rfl, hT1, hE1⟩
  have hG1 : G0 h1 := hE1.some hG
  have hR1 := hR.keep (Keep.of_ext hE1)
  rw [ibd_23_0_3_23, bd1_n]
  refine run_bd2 ((create_spec (a := aA s) free20 inv_new (by decide) hT1).mono ?_)
  rintro v h2 ⟨rfl, hT2, hk2⟩
  have hG2 := hG1.keep hk2
  have hR2 := hR1.keep hk2
  rw [show (⟨[], 0, [], 0⟩ : Tb) = T0A from rfl, createA] at hT2 ⊢
  by_cases hs : s < 0 ∨ 16384 < s
  · rw [if_pos hs] at hT2 ⊢
    simp only [bd1_n, bd2_n, ifV_t, ifV_f, vP_lss, vP_leq, vP_gtr, vP_geq, vP_add, vP_sub, vP_mul, vP_and, vP_or, vP_xor, vP_andNot, vP_not, vP_neg, vP_extract, vP_nilCheck, vB_eqi, vB_nei, ld1_some, lda_full, mlen_some, List.getElem?_toArray, List.getElem?_cons_zero, List.getElem?_cons_succ, Nat.zero_add, Nat.add_zero, List.size_toArray, List.length_cons, List.length_nil, Nat.reduceAdd, vP_min2, vP_max2, vP_min3, same_int, same_bool, same_str, same_ptr, same_slice, same_map, same_agg, same_tuple, List.all_cons, List.all_nil, gvc, Bool.and_self, Bool.and_true, ibd_23_0_3_23, iln_31_3, ibd_26__26, ibd_39_1_3_39, iia_31_0, ild_5_5, icv_5_3_3, icv_5_2_2, ial_23_0, ist_23_0, ifa_23_3_0, ild_2_2, iln_45_3, iia_45_0, ild_50_50, ial_50_0, ist_50_0, iln_24_3, iia_24_0, ild_3_3, ial_39_0, ist_39_0, ifa_39_0_0, ifa_39_4_0, ifa_39_1_0, ifa_39_2_0, ial_30_0, ist_30_0, ial_58_0, ist_58_0, ild_23_23, ild_30_30, ild_39_39, ild_58_58, ibx_23_0, ibx_26_0, ifa_23_0_0, ist_3_0, ild_65_65, ial_64_0, ist_64_0, ild_26_26, ifa_64_0_0, ifa_64_1_0, ifa_26_0_0, ifa_23_5_0, ild_4_4, ibx_30_0, ifa_30_5_0, ifa_30_0_0, ifa_30_1_0, ifa_30_2_0, imm_69_69, ibd_71_0_71, ibd_73_0_73, imm_74_74, ibd_76_0_76, ibd_78_0_1_78, ibx_78_32, ifa_23_1_0, ifa_23_2_0, ifa_23_4_0, ifa_78_1_0, ifa_76_0_0, ild_74_74, iln_74_3, ibx_3_0, ibx_39_0, ifa_39_3_0, imf_31_84, ifa_78_0_0, ifa_73_0_0, ifa_71_0_0, ild_69_69, iln_69_3, ibd_39_0_1_2_3_5_39, ist_2_0, ibd_23__23, ibd_94__94, ibx_94_47, ibx_50_0, ifa_50_0_0, ifa_50_5_0, ifa_50_1_0, ifa_50_7_0, ifa_50_6_0, ifa_50_2_0, ifa_50_4_0, ifa_50_3_0, imf_60_84, ibd_39__39, ibd_30__30, ifa_94_0_0, ild_91_91, iia_91_0, ifa_110_1_0, ibd_58__58, ifa_94_1_0, ild_92_92, iia_92_0, ifa_112_1_0, iln_92_3, ifa_58_0_0, ifa_112_0_0, ibs_24_1_0_24, ifa_26_1_0, ifa_26_2_0, ild_24_24, ifa_76_1_0, ifa_71_1_0, ifa_30_3_0, ifa_30_4_0, iln_91_3, ifa_94_2_0, ibd_110_0_1_110, ibs_91_1_0_91, ist_91_0, ibx_58_0, ifa_58_1_0, ifa_58_2_0, ifa_58_3_0, ifa_94_3_0, ibd_58_0_1_2_3_5_58, ibd_112_0_1_112, ibs_92_1_0_92, ist_92_0, ifa_39_5_0, ifa_58_5_0, ibs_92_0__92, ifa_58_4_0, ibd_122_0_1_2_122, ifa_110_0_0, ibs_91_0__91, awake_eq hG2, show ((34 : Int) != 0) = true from rfl]
    by_cases h0 : s < 0
    · simp only [decide_eq_true h0, bd1_n, bd2_n, ifV_t, ifV_f, vP_lss, vP_leq, vP_gtr, vP_geq, vP_add, vP_sub, vP_mul, vP_and, vP_or, vP_xor, vP_andNot, vP_not, vP_neg, vP_extract, vP_nilCheck, vB_eqi, vB_nei, ld1_some, lda_full, mlen_some, List.getElem?_toArray, List.getElem?_cons_zero, List.getElem?_cons_succ, Nat.zero_add, Nat.add_zero, List.size_toArray, List.length_cons, List.length_nil, Nat.reduceAdd, vP_min2, vP_max2, vP_min3, same_int, same_bool, same_str, same_ptr, same_slice, same_map, same_agg, same_tuple, List.all_cons, List.all_nil, gvc, Bool.and_self, Bool.and_true, ibd_23_0_3_23, iln_31_3, ibd_26__26, ibd_39_1_3_39, iia_31_0, ild_5_5, icv_5_3_3, icv_5_2_2, ial_23_0, ist_23_0, ifa_23_3_0, ild_2_2, iln_45_3, iia_45_0, ild_50_50, ial_50_0, ist_50_0, iln_24_3, iia_24_0, ild_3_3, ial_39_0, ist_39_0, ifa_39_0_0, ifa_39_4_0, ifa_39_1_0, ifa_39_2_0, ial_30_0, ist_30_0, ial_58_0, ist_58_0, ild_23_23, ild_30_30, ild_39_39, ild_58_58, ibx_23_0, ibx_26_0, ifa_23_0_0, ist_3_0, ild_65_65, ial_64_0, ist_64_0, ild_26_26, ifa_64_0_0, ifa_64_1_0, ifa_26_0_0, ifa_23_5_0, ild_4_4, ibx_30_0, ifa_30_5_0, ifa_30_0_0, ifa_30_1_0, ifa_30_2_0, imm_69_69, ibd_71_0_71, ibd_73_0_73, imm_74_74, ibd_76_0_76, ibd_78_0_1_78, ibx_78_32, ifa_23_1_0, ifa_23_2_0, ifa_23_4_0, ifa_78_1_0, ifa_76_0_0, ild_74_74, iln_74_3, ibx_3_0, ibx_39_0, ifa_39_3_0, imf_31_84, ifa_78_0_0, ifa_73_0_0, ifa_71_0_0, ild_69_69, iln_69_3, ibd_39_0_1_2_3_5_39, ist_2_0, ibd_23__23, ibd_94__94, ibx_94_47, ibx_50_0, ifa_50_0_0, ifa_50_5_0, ifa_50_1_0, ifa_50_7_0, ifa_50_6_0, ifa_50_2_0, ifa_50_4_0, ifa_50_3_0, imf_60_84, ibd_39__39, ibd_30__30, ifa_94_0_0, ild_91_91, iia_91_0, ifa_110_1_0, ibd_58__58, ifa_94_1_0, ild_92_92, iia_92_0, ifa_112_1_0, iln_92_3, ifa_58_0_0, ifa_112_0_0, ibs_24_1_0_24, ifa_26_1_0, ifa_26_2_0, ild_24_24, ifa_76_1_0, ifa_71_1_0, ifa_30_3_0, ifa_30_4_0, iln_91_3, ifa_94_2_0, ibd_110_0_1_110, ibs_91_1_0_91, ist_91_0, ibx_58_0, ifa_58_1_0, ifa_58_2_0, ifa_58_3_0, ifa_94_3_0, ibd_58_0_1_2_3_5_58, ibd_112_0_1_112, ibs_92_1_0_92, ist_92_0, ifa_39_5_0, ifa_58_5_0, ibs_92_0__92, ifa_58_4_0, ibd_122_0_1_2_122, ifa_110_0_0, ibs_91_0__91, eqb]
      exact ⟨_, _, rfl, rfl⟩
    · simp only [decide_eq_false h0, decide_eq_true (show 16384 < s by omega), bd1_n, bd2_n, ifV_t, ifV_f, vP_lss, vP_leq, vP_gtr, vP_geq, vP_add, vP_sub, vP_mul, vP_and, vP_or, vP_xor, vP_andNot, vP_not, vP_neg, vP_extract, vP_nilCheck, vB_eqi, vB_nei, ld1_some, lda_full, mlen_some, List.getElem?_toArray, List.getElem?_cons_zero, List.getElem?_cons_succ, Nat.zero_add, Nat.add_zero, List.size_toArray, List.length_cons, List.length_nil, Nat.reduceAdd, vP_min2, vP_max2, vP_min3, same_int, same_bool, same_str, same_ptr, same_slice, same_map, same_agg, same_tuple, List.all_cons, List.all_nil, gvc, Bool.and_self, Bool.and_true, ibd_23_0_3_23, iln_31_3, ibd_26__26, ibd_39_1_3_39, iia_31_0, ild_5_5, icv_5_3_3, icv_5_2_2, ial_23_0, ist_23_0, ifa_23_3_0, ild_2_2, iln_45_3, iia_45_0, ild_50_50, ial_50_0, ist_50_0, iln_24_3, iia_24_0, ild_3_3, ial_39_0, ist_39_0, ifa_39_0_0, ifa_39_4_0, ifa_39_1_0, ifa_39_2_0, ial_30_0, ist_30_0, ial_58_0, ist_58_0, ild_23_23, ild_30_30, ild_39_39, ild_58_58, ibx_23_0, ibx_26_0, ifa_23_0_0, ist_3_0, ild_65_65, ial_64_0, ist_64_0, ild_26_26, ifa_64_0_0, ifa_64_1_0, ifa_26_0_0, ifa_23_5_0, ild_4_4, ibx_30_0, ifa_30_5_0, ifa_30_0_0, ifa_30_1_0, ifa_30_2_0, imm_69_69, ibd_71_0_71, ibd_73_0_73, imm_74_74, ibd_76_0_76, ibd_78_0_1_78, ibx_78_32, ifa_23_1_0, ifa_23_2_0, ifa_23_4_0, ifa_78_1_0, ifa_76_0_0, ild_74_74, iln_74_3, ibx_3_0, ibx_39_0, ifa_39_3_0, imf_31_84, ifa_78_0_0, ifa_73_0_0, ifa_71_0_0, ild_69_69, iln_69_3, ibd_39_0_1_2_3_5_39, ist_2_0, ibd_23__23, ibd_94__94, ibx_94_47, ibx_50_0, ifa_50_0_0, ifa_50_5_0, ifa_50_1_0, ifa_50_7_0, ifa_50_6_0, ifa_50_2_0, ifa_50_4_0, ifa_50_3_0, imf_60_84, ibd_39__39, ibd_30__30, ifa_94_0_0, ild_91_91, iia_91_0, ifa_110_1_0, ibd_58__58, ifa_94_1_0, ild_92_92, iia_92_0, ifa_112_1_0, iln_92_3, ifa_58_0_0, ifa_112_0_0, ibs_24_1_0_24, ifa_26_1_0, ifa_26_2_0, ild_24_24, ifa_76_1_0, ifa_71_1_0, ifa_30_3_0, ifa_30_4_0, iln_91_3, ifa_94_2_0, ibd_110_0_1_110, ibs_91_1_0_91, ist_91_0, ibx_58_0, ifa_58_1_0, ifa_58_2_0, ifa_58_3_0, ifa_94_3_0, ibd_58_0_1_2_3_5_58, ibd_112_0_1_112, ibs_92_1_0_92, ist_92_0, ifa_39_5_0, ifa_58_5_0, ibs_92_0__92, ifa_58_4_0, ibd_122_0_1_2_122, ifa_110_0_0, ibs_91_0__91, eqb]
      exact ⟨_, _, rfl, rfl⟩
  · rw [if_neg hs] at hT2 ⊢
    have h0 : decide (s < 0) = false := decide_eq_false (by omega)
    have h1' : decide (16384 < s) = false := decide_eq_false (by omega)
    subst hv1
    simp only [bd1_n, bd2_n, ifV_t, ifV_f, vP_lss, vP_leq, vP_gtr, vP_geq, vP_add, vP_sub, vP_mul, vP_and, vP_or, vP_xor, vP_andNot, vP_not, vP_neg, vP_extract, vP_nilCheck, vB_eqi, vB_nei, ld1_some, lda_full, mlen_some, List.getElem?_toArray, List.getElem?_cons_zero, List.getElem?_cons_succ, Nat.zero_add, Nat.add_zero, List.size_toArray, List.length_cons, List.length_nil, Nat.reduceAdd, vP_min2, vP_max2, vP_min3, same_int, same_bool, same_str, same_ptr, same_slice, same_map, same_agg, same_tuple, List.all_cons, List.all_nil, gvc, Bool.and_self, Bool.and_true, ibd_23_0_3_23, iln_31_3, ibd_26__26, ibd_39_1_3_39, iia_31_0, ild_5_5, icv_5_3_3, icv_5_2_2, ial_23_0, ist_23_0, ifa_23_3_0, ild_2_2, iln_45_3, iia_45_0, ild_50_50, ial_50_0, ist_50_0, iln_24_3, iia_24_0, ild_3_3, ial_39_0, ist_39_0, ifa_39_0_0, ifa_39_4_0, ifa_39_1_0, ifa_39_2_0, ial_30_0, ist_30_0, ial_58_0, ist_58_0, ild_23_23, ild_30_30, ild_39_39, ild_58_58, ibx_23_0, ibx_26_0, ifa_23_0_0, ist_3_0, ild_65_65, ial_64_0, ist_64_0, ild_26_26, ifa_64_0_0, ifa_64_1_0, ifa_26_0_0, ifa_23_5_0, ild_4_4, ibx_30_0, ifa_30_5_0, ifa_30_0_0, ifa_30_1_0, ifa_30_2_0, imm_69_69, ibd_71_0_71, ibd_73_0_73, imm_74_74, ibd_76_0_76, ibd_78_0_1_78, ibx_78_32, ifa_23_1_0, ifa_23_2_0, ifa_23_4_0, ifa_78_1_0, ifa_76_0_0, ild_74_74, iln_74_3, ibx_3_0, ibx_39_0, ifa_39_3_0, imf_31_84, ifa_78_0_0, ifa_73_0_0, ifa_71_0_0, ild_69_69, iln_69_3, ibd_39_0_1_2_3_5_39, ist_2_0, ibd_23__23, ibd_94__94, ibx_94_47, ibx_50_0, ifa_50_0_0, ifa_50_5_0, ifa_50_1_0, ifa_50_7_0, ifa_50_6_0, ifa_50_2_0, ifa_50_4_0, ifa_50_3_0, imf_60_84, ibd_39__39, ibd_30__30, ifa_94_0_0, ild_91_91, iia_91_0, ifa_110_1_0, ibd_58__58, ifa_94_1_0, ild_92_92, iia_92_0, ifa_112_1_0, iln_92_3, ifa_58_0_0, ifa_112_0_0, ibs_24_1_0_24, ifa_26_1_0, ifa_26_2_0, ild_24_24, ifa_76_1_0, ifa_71_1_0, ifa_30_3_0, ifa_30_4_0, iln_91_3, ifa_94_2_0, ibd_110_0_1_110, ibs_91_1_0_91, ist_91_0, ibx_58_0, ifa_58_1_0, ifa_58_2_0, ifa_58_3_0, ifa_94_3_0, ibd_58_0_1_2_3_5_58, ibd_112_0_1_112, ibs_92_1_0_92, ist_92_0, ifa_39_5_0, ifa_58_5_0, ibs_92_0__92, ifa_58_4_0, ibd_122_0_1_2_122, ifa_110_0_0, ibs_91_0__91, bne_self_eq_false, awake_eq hG2, h0, h1', eqb, Bool.not_true]
    refine run_ifV (fun q => ?_) (fun q => ?_)
    · exact ⟨_, _, rfl, rfl⟩
    · have hl : l.length ≤ 60 := by have := of_decide_eq_false q; omega
      have hgs : ∀ h : H, Ints h (.slice none 0 0) cA.gs := fun h => .inl ⟨none, 0, rfl, rfl⟩
      refine run_bd2 ((open_spec (c := cA) (b := bA) (ob := 1) (invT1A hs) (by simp [T1A]) hG2 hT2 (hgs h2) (by unfold small cA; decide)).mono ?_)
      rintro v h3 ⟨rfl, hT3, hk3⟩
      have hG3 := hG2.keep hk3
      have hR3 := hR2.keep hk3
      rw [open1A] at hT3 ⊢
      have hi2 := inv_open (al := allowedT) (ob := 1) (c := cA) (b := bA) (invT1A hs)
      rw [open1A] at hi2
      simp only [bd1_n, bd2_n, ifV_t, ifV_f, vP_lss, vP_leq, vP_gtr, vP_geq, vP_add, vP_sub, vP_mul, vP_and, vP_or, vP_xor, vP_andNot, vP_not, vP_neg, vP_extract, vP_nilCheck, vB_eqi, vB_nei, ld1_some, lda_full, mlen_some, List.getElem?_toArray, List.getElem?_cons_zero, List.getElem?_cons_succ, Nat.zero_add, Nat.add_zero, List.size_toArray, List.length_cons, List.length_nil, Nat.reduceAdd, vP_min2, vP_max2, vP_min3, same_int, same_bool, same_str, same_ptr, same_slice, same_map, same_agg, same_tuple, List.all_cons, List.all_nil, gvc, Bool.and_self, Bool.and_true, ibd_23_0_3_23, iln_31_3, ibd_26__26, ibd_39_1_3_39, iia_31_0, ild_5_5, icv_5_3_3, icv_5_2_2, ial_23_0, ist_23_0, ifa_23_3_0, ild_2_2, iln_45_3, iia_45_0, ild_50_50, ial_50_0, ist_50_0, iln_24_3, iia_24_0, ild_3_3, ial_39_0, ist_39_0, ifa_39_0_0, ifa_39_4_0, ifa_39_1_0, ifa_39_2_0, ial_30_0, ist_30_0, ial_58_0, ist_58_0, ild_23_23, ild_30_30, ild_39_39, ild_58_58, ibx_23_0, ibx_26_0, ifa_23_0_0, ist_3_0, ild_65_65, ial_64_0, ist_64_0, ild_26_26, ifa_64_0_0, ifa_64_1_0, ifa_26_0_0, ifa_23_5_0, ild_4_4, ibx_30_0, ifa_30_5_0, ifa_30_0_0, ifa_30_1_0, ifa_30_2_0, imm_69_69, ibd_71_0_71, ibd_73_0_73, imm_74_74, ibd_76_0_76, ibd_78_0_1_78, ibx_78_32, ifa_23_1_0, ifa_23_2_0, ifa_23_4_0, ifa_78_1_0, ifa_76_0_0, ild_74_74, iln_74_3, ibx_3_0, ibx_39_0, ifa_39_3_0, imf_31_84, ifa_78_0_0, ifa_73_0_0, ifa_71_0_0, ild_69_69, iln_69_3, ibd_39_0_1_2_3_5_39, ist_2_0, ibd_23__23, ibd_94__94, ibx_94_47, ibx_50_0, ifa_50_0_0, ifa_50_5_0, ifa_50_1_0, ifa_50_7_0, ifa_50_6_0, ifa_50_2_0, ifa_50_4_0, ifa_50_3_0, imf_60_84, ibd_39__39, ibd_30__30, ifa_94_0_0, ild_91_91, iia_91_0, ifa_110_1_0, ibd_58__58, ifa_94_1_0, ild_92_92, iia_92_0, ifa_112_1_0, iln_92_3, ifa_58_0_0, ifa_112_0_0, ibs_24_1_0_24, ifa_26_1_0, ifa_26_2_0, ild_24_24, ifa_76_1_0, ifa_71_1_0, ifa_30_3_0, ifa_30_4_0, iln_91_3, ifa_94_2_0, ibd_110_0_1_110, ibs_91_1_0_91, ist_91_0, ibx_58_0, ifa_58_1_0, ifa_58_2_0, ifa_58_3_0, ifa_94_3_0, ibd_58_0_1_2_3_5_58, ibd_112_0_1_112, ibs_92_1_0_92, ist_92_0, ifa_39_5_0, ifa_58_5_0, ibs_92_0__92, ifa_58_4_0, ibd_122_0_1_2_122, ifa_110_0_0, ibs_91_0__91]
      refine run_bd2 ((open_spec (c := cA) (b := bA) (ob := 1) hi2 (by simp [T2A]) hG3 hT3 (hgs h3) (by unfold small cA; decide)).mono ?_)
      rintro v h4 ⟨rfl, hT4, hk4⟩
      have hG4 := hG3.keep hk4
      have hR4 := hR3.keep hk4
      rw [open2A] at hT4 ⊢
      simp only [bd1_n, bd2_n, ifV_t, ifV_f, vP_lss, vP_leq, vP_gtr, vP_geq, vP_add, vP_sub, vP_mul, vP_and, vP_or, vP_xor, vP_andNot, vP_not, vP_neg, vP_extract, vP_nilCheck, vB_eqi, vB_nei, ld1_some, lda_full, mlen_some, List.getElem?_toArray, List.getElem?_cons_zero, List.getElem?_cons_succ, Nat.zero_add, Nat.add_zero, List.size_toArray, List.length_cons, List.length_nil, Nat.reduceAdd, vP_min2, vP_max2, vP_min3, same_int, same_bool, same_str, same_ptr, same_slice, same_map, same_agg, same_tuple, List.all_cons, List.all_nil, gvc, Bool.and_self, Bool.and_true, ibd_23_0_3_23, iln_31_3, ibd_26__26, ibd_39_1_3_39, iia_31_0, ild_5_5, icv_5_3_3, icv_5_2_2, ial_23_0, ist_23_0, ifa_23_3_0, ild_2_2, iln_45_3, iia_45_0, ild_50_50, ial_50_0, ist_50_0, iln_24_3, iia_24_0, ild_3_3, ial_39_0, ist_39_0, ifa_39_0_0, ifa_39_4_0, ifa_39_1_0, ifa_39_2_0, ial_30_0, ist_30_0, ial_58_0, ist_58_0, ild_23_23, ild_30_30, ild_39_39, ild_58_58, ibx_23_0, ibx_26_0, ifa_23_0_0, ist_3_0, ild_65_65, ial_64_0, ist_64_0, ild_26_26, ifa_64_0_0, ifa_64_1_0, ifa_26_0_0, ifa_23_5_0, ild_4_4, ibx_30_0, ifa_30_5_0, ifa_30_0_0, ifa_30_1_0, ifa_30_2_0, imm_69_69, ibd_71_0_71, ibd_73_0_73, imm_74_74, ibd_76_0_76, ibd_78_0_1_78, ibx_78_32, ifa_23_1_0, ifa_23_2_0, ifa_23_4_0, ifa_78_1_0, ifa_76_0_0, ild_74_74, iln_74_3, ibx_3_0, ibx_39_0, ifa_39_3_0, imf_31_84, ifa_78_0_0, ifa_73_0_0, ifa_71_0_0, ild_69_69, iln_69_3, ibd_39_0_1_2_3_5_39, ist_2_0, ibd_23__23, ibd_94__94, ibx_94_47, ibx_50_0, ifa_50_0_0, ifa_50_5_0, ifa_50_1_0, ifa_50_7_0, ifa_50_6_0, ifa_50_2_0, ifa_50_4_0, ifa_50_3_0, imf_60_84, ibd_39__39, ibd_30__30, ifa_94_0_0, ild_91_91, iia_91_0, ifa_110_1_0, ibd_58__58, ifa_94_1_0, ild_92_92, iia_92_0, ifa_112_1_0, iln_92_3, ifa_58_0_0, ifa_112_0_0, ibs_24_1_0_24, ifa_26_1_0, ifa_26_2_0, ild_24_24, ifa_76_1_0, ifa_71_1_0, ifa_30_3_0, ifa_30_4_0, iln_91_3, ifa_94_2_0, ibd_110_0_1_110, ibs_91_1_0_91, ist_91_0, ibx_58_0, ifa_58_1_0, ifa_58_2_0, ifa_58_3_0, ifa_94_3_0, ibd_58_0_1_2_3_5_58, ibd_112_0_1_112, ibs_92_1_0_92, ist_92_0, ifa_39_5_0, ifa_58_5_0, ibs_92_0__92, ifa_58_4_0, ibd_122_0_1_2_122, ifa_110_0_0, ibs_91_0__91]
      exact app_loop hl hb8 l.length 0 (T3A s) s h4 (by omega) (appA hs) hT4 hG4 hR4 _ _ _ _ _ _ _ _ _ _ _ _ _ _ _ _ _ _ _ _ _ _ _ _ _ _ _ _ _ _ _ _ _ _ _ _ _ _ _ _ _ _ _ _ _ _ _ _ _ _ _ _ _ _ _ _ _ _ _ _ _ _ _ _ _ _ _ _ _ _ _ _ _ _ _ _ _ _ _ _ _ _ _ _ _ _ _ _ _ _ _ _ _ _ _ _ _ _ _ _ _ _ _ _ _ _ _ _ _ _ _ _ _ _ _ _ _ _ _ _ _ _ _ _ _ _ _ _ _ _ _ _
end Go.Proofs.YtfmikgbachnneaaDoor
