/- The law AttributesAppends. -/
import Derived.Test.YtfmikgbachnneaaDoorT20k
import Derived.Test.YtfmikgbachnneaaDoorT20w
import Derived.Test.YtfmikgbachnneaaDoorT20q2
import Derived.Test.YtfmikgbachnneaaDoorT20n
import Derived.Test.YtfmikgbachnneaaDoorT20t4
set_option linter.unusedSimpArgs false
set_option linter.unusedVariables false
namespace Go.Proofs.YtfmikgbachnneaaDoor
open Go Go.Am Go.Tab20
set_option maxRecDepth 100000

theorem soundX20 : Sound P okAll X20 := ⟨by kernel_rfl, codes, fun f g hg => by
  unfold X20 at hg
  split at hg
  · cases hg; exact trueHook_ok sound0 (by kernel_rfl) awakeRun
  · cases hg; exact hook_ok32
  · cases hg; exact hook_ok58
  · cases hg⟩
theorem hasG20 {h : H} (hG : G0 h) : hasGlobals h globs = true := by
  unfold G0 at hG
  simp only [hasGlobals, globs, List.all_cons, List.all_nil, hG, Bool.and_true]
  kernel_rfl
theorem awake_eq {h : H} (hG : G0 h) : CX X20 8 #[] h = some (.bool true, h) := hookG (f := 8) rfl (by simp [trueHook, hasG20 hG])
theorem G0.keep {h h' : H} (hG : G0 h) (hk : Keep pP h h') : G0 h' := hk.get 0 _ hG rfl
theorem keep_ext {h h' : H} (he : Ext h h') : Keep pP h h' := Keep.of_ext he
/-- Numbers of a kind that nobody writes. -/
def RoInts (k : IntKind) (h : H) (v : Value) (l : List Int) : Prop :=
  (∃ a c, v = .slice a 0 c ∧ l = []) ∨ ∃ b o c cs T, v = .slice (some ⟨b, o, none⟩) l.length c ∧ h[b]? = some (.cells cs T .ro) ∧ ∀ i x, l[i]? = some x → cs[o + i]? = some (.int k x)
theorem RoInts.keep {k : IntKind} {h h' : H} {v : Value} {l : List Int} (hr : RoInts k h v l) (hk : Keep pP h h') : RoInts k h' v l := by
  rcases hr with q | ⟨b, o, c, cs, T, q1, q2, q3⟩
  · exact .inl q
  · exact .inr ⟨b, o, c, cs, T, q1, hk.get b _ q2 rfl, q3⟩
theorem RoInts.len {k : IntKind} {h : H} {v : Value} {l : List Int} (hr : RoInts k h v l) : ∃ a c, v = .slice a l.length c := by
  rcases hr with ⟨a, c, rfl, rfl⟩ | ⟨b, o, c, cs, T, rfl, _⟩
  · exact ⟨_, _, rfl⟩
  · exact ⟨_, _, rfl⟩
theorem Keep.pPext {h h' h'' : H} (hk : Keep pP h h') (he : Ext h' h'') : Keep pP h h'' := hk.trans (Keep.of_ext he)

/-- A table with one object, and two appending blocks of it. -/
structure App (T : Tb) (en : Int) : Prop where
  inv : Inv T
  ob : ∃ a, Tab20.get T.os 1 = some a ∧ a.s = en
  b1 : ∃ b, Tab20.get T.bs 1 = some b ∧ b.ap = true ∧ b.ac = 2 ∧ b.ob = 1
  b2 : ∃ b, Tab20.get T.bs 2 = some b ∧ b.ap = true ∧ b.ac = 2 ∧ b.ob = 1
theorem App.write {T : Tb} {en id n : Int} (hA : App T en) (hid : id = 1 ∨ id = 2) (hn : 0 ≤ n) : 0 ≤ en ∧ en ≤ 16384 ∧
    ((Tab20.write T id n = (0, 0, 25, T) ∧ 0 < n ∧ en = 16384) ∨ ∃ T', Tab20.write T id n = (en, min n (16384 - en), 0, T') ∧ App T' (en + min n (16384 - en))) := by
  obtain ⟨a, ha, hs⟩ := hA.ob
  have hsz := hA.inv.size _ (get_mem ha)
  simp only at hsz
  obtain ⟨b, hb, hap, hac, hob⟩ : ∃ b, Tab20.get T.bs id = some b ∧ b.ap = true ∧ b.ac = 2 ∧ b.ob = 1 := by
    rcases hid with rfl | rfl
    · exact hA.b1
    · exact hA.b2
  refine ⟨by omega, by omega, ?_⟩
  have hi := inv_write (id := id) (n := n) hA.inv
  have hk : max (min n (16384 - a.s)) 0 = min n (16384 - a.s) := by omega
  have hw : Tab20.write T id n = if 0 < n ∧ min n (16384 - a.s) = 0 then (0, 0, 25, T) else (a.s, min n (16384 - a.s), 0, { T with bs := Tab20.upd T.bs id { b with off := a.s + min n (16384 - a.s) }, os := Tab20.upd T.os 1 { a with s := max a.s (a.s + min n (16384 - a.s)) } }) := by
    unfold Tab20.write
    rw [hb]
    simp only [hac, hob, ha, hap, if_true, hk]
    rw [if_neg (by decide), if_neg (by omega)]
  by_cases hc : 0 < n ∧ min n (16384 - a.s) = 0
  · left
    rw [hw, if_pos hc]
    exact ⟨rfl, hc.1, by omega⟩
  · right
    rw [hw, if_neg hc] at hi
    rw [hw, if_neg hc, ← hs]
    refine ⟨_, rfl, hi, ⟨_, get_upd_same ha, by simp only; omega⟩, ?_, ?_⟩
    · rcases hid with rfl | rfl
      · exact ⟨_, get_upd_same hb, hap, hac, hob⟩
      · obtain ⟨b', h1, h2⟩ := hA.b1
        exact ⟨b', by simp only; rw [get_upd_ne (by decide)]; exact h1, h2⟩
    · rcases hid with rfl | rfl
      · obtain ⟨b', h1, h2⟩ := hA.b2
        exact ⟨b', by simp only; rw [get_upd_ne (by decide)]; exact h1, h2⟩
      · exact ⟨_, get_upd_same hb, hap, hac, hob⟩
section
theorem eqb {a b : Bool} {x y : Operand} {h : H} : vB P .eql 4 x y (.bool a) (.bool b) h = some (.bool (a == b)) := by
  simp [vB, af, afc, eqGuard, binOp, quiet, keepAf, pure, bind, Sem.bind]
  cases a <;> cases b <;> rfl
theorem u8gt {n m : Int} {ty : TypeId} : vP P (.binOp .gtr 5 (.const (.int .u8 n)) (.const (.int .u8 m)) 5) ty = some (.bool (decide (m < n))) := vP_gtr
theorem tmod2 (i : Nat) : ((i : Int).tmod 2 == 1) = (decide (i % 2 = 1)) := by
  rw [Int.tmod_eq_emod_of_nonneg (by omega)]
  by_cases h : i % 2 = 1
  · have : (i : Int) % 2 = 1 := by omega
    simp [h, this]
  · have : ¬ (i : Int) % 2 = 1 := by omega
    simp [h, this]
theorem app_loop {t : Nat} {v1 : Value} {l : List Int} (hl60 : l.length ≤ 60) (hb8 : ∀ x ∈ l, 0 ≤ x ∧ x ≤ 255) : ∀ (m i : Nat) (T : Tb) (en : Int) (h : H), i + m = l.length → App T en → TabE h t T → G0 h → RoInts .u8 h v1 l → ∀ (dw0 dw1 dw2 dw3 dw4 dw7 dw13 dw14 dw15 dw16 dw17 dw18 dw19 dw20 dw21 dw22 dw23 dw24 dw25 dw26 dw27 dw28 dw29 dw30 dw31 dw32 dw33 dw34 dw35 dw36 dw37 dw38 dw39 dw40 dw41 dw42 dw43 dw44 dw45 dw46 dw47 dw48 dw49 dw50 dw51 dw52 dw53 dw54 dw55 dw56 dw57 dw58 dw59 dw60 dw61 dw62 dw63 dw64 dw65 dw66 dw67 dw68 dw72 dw73 dw74 dw75 dw76 dw77 dw78 dw79 dw80 dw81 dw82 dw83 dw84 dw85 dw86 dw87 dw88 dw89 dw90 dw91 dw92 dw93 dw94 dw95 dw96 dw97 dw98 dw99 dw100 dw101 dw102 dw103 dw104 dw105 dw106 dw107 dw108 dw109 dw110 dw111 dw112 dw113 dw114 dw115 dw116 dw117 dw118 dw119 dw120 dw121 dw122 dw123 dw124 dw125 dw126 dw127 dw128 dw129 dw130 dw131 dw132 dw133 dw134 dw135 dw136 dw137 dw138 dw139 dw140 dw141 : Value),
    Run (kCode P (CX X20) (codeAt (bodyOf P 4) [1, 1, 1, 1, 1, 1, 1, 0, 1, 0]) ⟨#[dw0, dw1, dw2, dw3, dw4, pn t, .int .i64 1, dw7, .int .i64 1, .int .i64 0, .int .i64 2, .int .i64 0, .int .i64 en, dw13, dw14, dw15, dw16, dw17, dw18, dw19, dw20, dw21, dw22, dw23, dw24, dw25, dw26, dw27, dw28, dw29, dw30, dw31, dw32, dw33, dw34, dw35, dw36, dw37, dw38, dw39, dw40, dw41, dw42, dw43, dw44, dw45, dw46, dw47, dw48, dw49, dw50, dw51, dw52, dw53, dw54, dw55, dw56, dw57, dw58, dw59, dw60, dw61, dw62, dw63, dw64, dw65, dw66, dw67, dw68, v1, .int .i64 l.length, .int .i64 i, dw72, dw73, dw74, dw75, dw76, dw77, dw78, dw79, dw80, dw81, dw82, dw83, dw84, dw85, dw86, dw87, dw88, dw89, dw90, dw91, dw92, dw93, dw94, dw95, dw96, dw97, dw98, dw99, dw100, dw101, dw102, dw103, dw104, dw105, dw106, dw107, dw108, dw109, dw110, dw111, dw112, dw113, dw114, dw115, dw116, dw117, dw118, dw119, dw120, dw121, dw122, dw123, dw124, dw125, dw126, dw127, dw128, dw129, dw130, dw131, dw132, dw133, dw134, dw135, dw136, dw137, dw138, dw139, dw140, dw141], []⟩ h (kPath P (CX X20) (bodyOf P 4) [1, 1, 1, 1, 1, 1, 1, 0, 1, 0] (kEnd P 4))) fun v _ => v = .bool true
  | 0, i, T, en, h, him, hA, hT, hG, hR, dw0, dw1, dw2, dw3, dw4, dw7, dw13, dw14, dw15, dw16, dw17, dw18, dw19, dw20, dw21, dw22, dw23, dw24, dw25, dw26, dw27, dw28, dw29, dw30, dw31, dw32, dw33, dw34, dw35, dw36, dw37, dw38, dw39, dw40, dw41, dw42, dw43, dw44, dw45, dw46, dw47, dw48, dw49, dw50, dw51, dw52, dw53, dw54, dw55, dw56, dw57, dw58, dw59, dw60, dw61, dw62, dw63, dw64, dw65, dw66, dw67, dw68, dw72, dw73, dw74, dw75, dw76, dw77, dw78, dw79, dw80, dw81, dw82, dw83, dw84, dw85, dw86, dw87, dw88, dw89, dw90, dw91, dw92, dw93, dw94, dw95, dw96, dw97, dw98, dw99, dw100, dw101, dw102, dw103, dw104, dw105, dw106, dw107, dw108, dw109, dw110, dw111, dw112, dw113, dw114, dw115, dw116, dw117, dw118, dw119, dw120, dw121, dw122, dw123, dw124, dw125, dw126, dw127, dw128, dw129, dw130, dw131, dw132, dw133, dw134, dw135, dw136, dw137, dw138, dw139, dw140, dw141 => by
    refine run_loop f4_l1111111010_eq ?_
    rw [f4_l1111111010, vP_lss, bd1_n]
    refine run_ifV (fun q => ?_) (fun _ => ?_)
    · have := of_decide_eq_true q; omega
    · rw [f4_l1111111010_E0]
      obtain ⟨a, ha, hs⟩ := hA.ob
      have hat := attr_eq (id := 1) free20 hT
      rw [ha] at hat
      have hst := stA_all (h := h.push (.cells #[.int .i64 0, .int .i64 0, .int .i64 0, .int .i64 0, .int .i64 0, .bool false] 23 .own)) (b := h.size) (vs := [.int .i64 a.m, .int .i64 a.u, .int .i64 a.g, .int .i64 a.s, .int .i64 a.n, .bool a.d]) gp1 (by decide) (by simp)
      have hg1 : ∀ y, ((h.push (.cells #[.int .i64 0, .int .i64 0, .int .i64 0, .int .i64 0, .int .i64 0, .bool false] 23 .own)).setIfInBounds h.size y)[h.size]? = some y := fun y => gs1 (by simp)
      simp only [hat, bd1_n, bd2_n, ifV_t, ifV_f, vP_lss, vP_leq, vP_gtr, vP_geq, vP_add, vP_sub, vP_mul, vP_and, vP_or, vP_xor, vP_andNot, vP_not, vP_neg, vP_extract, vP_nilCheck, vB_eqi, vB_nei, ld1_some, lda_full, mlen_some, List.getElem?_toArray, List.getElem?_cons_zero, List.getElem?_cons_succ, Nat.zero_add, Nat.add_zero, List.size_toArray, List.length_cons, List.length_nil, Nat.reduceAdd, vP_min2, vP_max2, vP_min3, same_int, same_bool, same_str, same_ptr, same_slice, same_map, same_agg, same_tuple, List.all_cons, List.all_nil, gvc, Bool.and_self, Bool.and_true, ibd_23_0_3_23, iln_31_3, ibd_26__26, ibd_39_1_3_39, iia_31_0, ild_5_5, icv_5_3_3, icv_5_2_2, ial_23_0, ist_23_0, ifa_23_3_0, ild_2_2, iln_45_3, iia_45_0, ild_50_50, ial_50_0, ist_50_0, iln_24_3, iia_24_0, ild_3_3, ial_39_0, ist_39_0, ifa_39_0_0, ifa_39_4_0, ifa_39_1_0, ifa_39_2_0, ial_30_0, ist_30_0, ial_58_0, ist_58_0, ild_23_23, ild_30_30, ild_39_39, ild_58_58, ibx_23_0, ibx_26_0, ifa_23_0_0, ist_3_0, ild_65_65, ial_64_0, ist_64_0, ild_26_26, ifa_64_0_0, ifa_64_1_0, ifa_26_0_0, ifa_23_5_0, ild_4_4, ibx_30_0, ifa_30_5_0, ifa_30_0_0, ifa_30_1_0, ifa_30_2_0, imm_69_69, ibd_71_0_71, ibd_73_0_73, imm_74_74, ibd_76_0_76, ibd_78_0_1_78, ibx_78_32, ifa_23_1_0, ifa_23_2_0, ifa_23_4_0, ifa_78_1_0, ifa_76_0_0, ild_74_74, iln_74_3, ibx_3_0, ibx_39_0, ifa_39_3_0, imf_31_84, ifa_78_0_0, ifa_73_0_0, ifa_71_0_0, ild_69_69, iln_69_3, ibd_39_0_1_2_3_5_39, ist_2_0, ibd_23__23, ibd_94__94, ibx_94_47, ibx_50_0, ifa_50_0_0, ifa_50_5_0, ifa_50_1_0, ifa_50_7_0, ifa_50_6_0, ifa_50_2_0, ifa_50_4_0, ifa_50_3_0, imf_60_84, ibd_39__39, ibd_30__30, ifa_94_0_0, ild_91_91, iia_91_0, ifa_110_1_0, ibd_58__58, ifa_94_1_0, ild_92_92, iia_92_0, ifa_112_1_0, iln_92_3, ifa_58_0_0, ifa_112_0_0, ibs_24_1_0_24, ifa_26_1_0, ifa_26_2_0, ild_24_24, ifa_76_1_0, ifa_71_1_0, ifa_30_3_0, ifa_30_4_0, iln_91_3, ifa_94_2_0, ibd_110_0_1_110, ibs_91_1_0_91, ist_91_0, ibx_58_0, ifa_58_1_0, ifa_58_2_0, ifa_58_3_0, ifa_94_3_0, ibd_58_0_1_2_3_5_58, ibd_112_0_1_112, ibs_92_1_0_92, ist_92_0, ifa_39_5_0, ifa_58_5_0, ibs_92_0__92, ifa_58_4_0, ibd_122_0_1_2_122, ifa_110_0_0, ibs_91_0__91, hst, hg1, beq_self_eq_true]
      exact ⟨_, _, rfl, by simp [hs]⟩
  | m + 1, i, T, en, h, him, hA, hT, hG, hR, dw0, dw1, dw2, dw3, dw4, dw7, dw13, dw14, dw15, dw16, dw17, dw18, dw19, dw20, dw21, dw22, dw23, dw24, dw25, dw26, dw27, dw28, dw29, dw30, dw31, dw32, dw33, dw34, dw35, dw36, dw37, dw38, dw39, dw40, dw41, dw42, dw43, dw44, dw45, dw46, dw47, dw48, dw49, dw50, dw51, dw52, dw53, dw54, dw55, dw56, dw57, dw58, dw59, dw60, dw61, dw62, dw63, dw64, dw65, dw66, dw67, dw68, dw72, dw73, dw74, dw75, dw76, dw77, dw78, dw79, dw80, dw81, dw82, dw83, dw84, dw85, dw86, dw87, dw88, dw89, dw90, dw91, dw92, dw93, dw94, dw95, dw96, dw97, dw98, dw99, dw100, dw101, dw102, dw103, dw104, dw105, dw106, dw107, dw108, dw109, dw110, dw111, dw112, dw113, dw114, dw115, dw116, dw117, dw118, dw119, dw120, dw121, dw122, dw123, dw124, dw125, dw126, dw127, dw128, dw129, dw130, dw131, dw132, dw133, dw134, dw135, dw136, dw137, dw138, dw139, dw140, dw141 => by
    refine run_loop f4_l1111111010_eq ?_
    obtain ⟨y, hy⟩ : ∃ y, l[i]? = some y := ⟨l[i], List.getElem?_eq_getElem (by omega)⟩
    have hy8 := hb8 y (List.mem_of_getElem? hy)
    have hw0 : IntKind.wrap .i64 y = y := w64 (by omega)
    have hw1 : IntKind.wrap .i64 ((i : Int) + 1) = ((i + 1 : Nat) : Int) := by rw [w64 (by omega)]; omega
    obtain ⟨he0, he1, hwr⟩ := hA.write (id := if i % 2 = 1 then 2 else 1) (n := y) (by split <;> simp) hy8.1
    have hw2 : IntKind.wrap .i64 (16384 - en) = 16384 - en := w64 (by omega)
    have hw3 : IntKind.wrap .i64 (en + min y (16384 - en)) = en + min y (16384 - en) := w64 (by omega)
    have hlt : decide ((i : Int) < (l.length : Int)) = true := decide_eq_true (by omega)
    obtain ⟨b, o, c, cs, Tt, hv1, hcs, hcell⟩ : ∃ b o c cs T, v1 = .slice (some ⟨b, o, none⟩) l.length c ∧ h[b]? = some (.cells cs T .ro) ∧ ∀ i x, l[i]? = some x → cs[o + i]? = some (.int .u8 x) := by
      rcases hR with ⟨a, c, rfl, rfl⟩ | q
      · simp at hy
      · exact q
    have hci := hcell i y hy
    have hwspec := write_spec (id := if i % 2 = 1 then 2 else 1) (n := y) free20 hA.inv hT (by omega)
    rw [f4_l1111111010, vP_lss, bd1_n, hlt, ifV_t]
    subst hv1
    rw [iia_31_0 (by omega) (by omega), bd1_n, ild_5_5, hcs, ld1_some, show o + (i : Int).toNat * 1 = o + i by omega, hci, bd1_n, vP_rem (by decide), bd1_n, vB_eqi, tmod2, bd1_n]
    rcases Nat.mod_two_eq_zero_or_one i with hpar | hpar
    · rw [if_neg (by omega)] at hwspec hwr
      rw [decide_eq_false (by omega), ifV_f, icv_5_3_3, hw0, bd1_n]
      refine run_bd2 (hwspec.mono ?_)
      rintro v h' ⟨rfl, hT', hk⟩
      rcases hwr with ⟨hw, hn, hen⟩ | ⟨T', hw, hA'⟩
      · rw [hw] at hT' ⊢
        subst hen
        simp only [bd1_n, bd2_n, ifV_t, ifV_f, vP_lss, vP_leq, vP_gtr, vP_geq, vP_add, vP_sub, vP_mul, vP_and, vP_or, vP_xor, vP_andNot, vP_not, vP_neg, vP_extract, vP_nilCheck, vB_eqi, vB_nei, ld1_some, lda_full, mlen_some, List.getElem?_toArray, List.getElem?_cons_zero, List.getElem?_cons_succ, Nat.zero_add, Nat.add_zero, List.size_toArray, List.length_cons, List.length_nil, Nat.reduceAdd, vP_min2, vP_max2, vP_min3, same_int, same_bool, same_str, same_ptr, same_slice, same_map, same_agg, same_tuple, List.all_cons, List.all_nil, gvc, Bool.and_self, Bool.and_true, ibd_23_0_3_23, iln_31_3, ibd_26__26, ibd_39_1_3_39, iia_31_0, ild_5_5, icv_5_3_3, icv_5_2_2, ial_23_0, ist_23_0, ifa_23_3_0, ild_2_2, iln_45_3, iia_45_0, ild_50_50, ial_50_0, ist_50_0, iln_24_3, iia_24_0, ild_3_3, ial_39_0, ist_39_0, ifa_39_0_0, ifa_39_4_0, ifa_39_1_0, ifa_39_2_0, ial_30_0, ist_30_0, ial_58_0, ist_58_0, ild_23_23, ild_30_30, ild_39_39, ild_58_58, ibx_23_0, ibx_26_0, ifa_23_0_0, ist_3_0, ild_65_65, ial_64_0, ist_64_0, ild_26_26, ifa_64_0_0, ifa_64_1_0, ifa_26_0_0, ifa_23_5_0, ild_4_4, ibx_30_0, ifa_30_5_0, ifa_30_0_0, ifa_30_1_0, ifa_30_2_0, imm_69_69, ibd_71_0_71, ibd_73_0_73, imm_74_74, ibd_76_0_76, ibd_78_0_1_78, ibx_78_32, ifa_23_1_0, ifa_23_2_0, ifa_23_4_0, ifa_78_1_0, ifa_76_0_0, ild_74_74, iln_74_3, ibx_3_0, ibx_39_0, ifa_39_3_0, imf_31_84, ifa_78_0_0, ifa_73_0_0, ifa_71_0_0, ild_69_69, iln_69_3, ibd_39_0_1_2_3_5_39, ist_2_0, ibd_23__23, ibd_94__94, ibx_94_47, ibx_50_0, ifa_50_0_0, ifa_50_5_0, ifa_50_1_0, ifa_50_7_0, ifa_50_6_0, ifa_50_2_0, ifa_50_4_0, ifa_50_3_0, imf_60_84, ibd_39__39, ibd_30__30, ifa_94_0_0, ild_91_91, iia_91_0, ifa_110_1_0, ibd_58__58, ifa_94_1_0, ild_92_92, iia_92_0, ifa_112_1_0, iln_92_3, ifa_58_0_0, ifa_112_0_0, ibs_24_1_0_24, ifa_26_1_0, ifa_26_2_0, ild_24_24, ifa_76_1_0, ifa_71_1_0, ifa_30_3_0, ifa_30_4_0, iln_91_3, ifa_94_2_0, ibd_110_0_1_110, ibs_91_1_0_91, ist_91_0, ibx_58_0, ifa_58_1_0, ifa_58_2_0, ifa_58_3_0, ifa_94_3_0, ibd_58_0_1_2_3_5_58, ibd_112_0_1_112, ibs_92_1_0_92, ist_92_0, ifa_39_5_0, ifa_58_5_0, ibs_92_0__92, ifa_58_4_0, ibd_122_0_1_2_122, ifa_110_0_0, ibs_91_0__91, beq_self_eq_true, u8gt, decide_eq_true hn, hw1]
        exact app_loop hl60 hb8 m (i + 1) T _ h' (by omega) hA hT' (hG.keep hk) (hR.keep hk) _ _ _ _ _ _ _ _ _ _ _ _ _ _ _ _ _ _ _ _ _ _ _ _ _ _ _ _ _ _ _ _ _ _ _ _ _ _ _ _ _ _ _ _ _ _ _ _ _ _ _ _ _ _ _ _ _ _ _ _ _ _ _ _ _ _ _ _ _ _ _ _ _ _ _ _ _ _ _ _ _ _ _ _ _ _ _ _ _ _ _ _ _ _ _ _ _ _ _ _ _ _ _ _ _ _ _ _ _ _ _ _ _ _ _ _ _ _ _ _ _ _ _ _ _ _ _ _ _ _ _ _
      · rw [hw] at hT' ⊢
        simp only [bd1_n, bd2_n, ifV_t, ifV_f, vP_lss, vP_leq, vP_gtr, vP_geq, vP_add, vP_sub, vP_mul, vP_and, vP_or, vP_xor, vP_andNot, vP_not, vP_neg, vP_extract, vP_nilCheck, vB_eqi, vB_nei, ld1_some, lda_full, mlen_some, List.getElem?_toArray, List.getElem?_cons_zero, List.getElem?_cons_succ, Nat.zero_add, Nat.add_zero, List.size_toArray, List.length_cons, List.length_nil, Nat.reduceAdd, vP_min2, vP_max2, vP_min3, same_int, same_bool, same_str, same_ptr, same_slice, same_map, same_agg, same_tuple, List.all_cons, List.all_nil, gvc, Bool.and_self, Bool.and_true, ibd_23_0_3_23, iln_31_3, ibd_26__26, ibd_39_1_3_39, iia_31_0, ild_5_5, icv_5_3_3, icv_5_2_2, ial_23_0, ist_23_0, ifa_23_3_0, ild_2_2, iln_45_3, iia_45_0, ild_50_50, ial_50_0, ist_50_0, iln_24_3, iia_24_0, ild_3_3, ial_39_0, ist_39_0, ifa_39_0_0, ifa_39_4_0, ifa_39_1_0, ifa_39_2_0, ial_30_0, ist_30_0, ial_58_0, ist_58_0, ild_23_23, ild_30_30, ild_39_39, ild_58_58, ibx_23_0, ibx_26_0, ifa_23_0_0, ist_3_0, ild_65_65, ial_64_0, ist_64_0, ild_26_26, ifa_64_0_0, ifa_64_1_0, ifa_26_0_0, ifa_23_5_0, ild_4_4, ibx_30_0, ifa_30_5_0, ifa_30_0_0, ifa_30_1_0, ifa_30_2_0, imm_69_69, ibd_71_0_71, ibd_73_0_73, imm_74_74, ibd_76_0_76, ibd_78_0_1_78, ibx_78_32, ifa_23_1_0, ifa_23_2_0, ifa_23_4_0, ifa_78_1_0, ifa_76_0_0, ild_74_74, iln_74_3, ibx_3_0, ibx_39_0, ifa_39_3_0, imf_31_84, ifa_78_0_0, ifa_73_0_0, ifa_71_0_0, ild_69_69, iln_69_3, ibd_39_0_1_2_3_5_39, ist_2_0, ibd_23__23, ibd_94__94, ibx_94_47, ibx_50_0, ifa_50_0_0, ifa_50_5_0, ifa_50_1_0, ifa_50_7_0, ifa_50_6_0, ifa_50_2_0, ifa_50_4_0, ifa_50_3_0, imf_60_84, ibd_39__39, ibd_30__30, ifa_94_0_0, ild_91_91, iia_91_0, ifa_110_1_0, ibd_58__58, ifa_94_1_0, ild_92_92, iia_92_0, ifa_112_1_0, iln_92_3, ifa_58_0_0, ifa_112_0_0, ibs_24_1_0_24, ifa_26_1_0, ifa_26_2_0, ild_24_24, ifa_76_1_0, ifa_71_1_0, ifa_30_3_0, ifa_30_4_0, iln_91_3, ifa_94_2_0, ibd_110_0_1_110, ibs_91_1_0_91, ist_91_0, ibx_58_0, ifa_58_1_0, ifa_58_2_0, ifa_58_3_0, ifa_94_3_0, ibd_58_0_1_2_3_5_58, ibd_112_0_1_112, ibs_92_1_0_92, ist_92_0, ifa_39_5_0, ifa_58_5_0, ibs_92_0__92, ifa_58_4_0, ibd_122_0_1_2_122, ifa_110_0_0, ibs_91_0__91, bne_self_eq_false, show ((0 : Int) == 25) = false from rfl, icv_5_2_2, hw0, hw2, hw3, hw1]
        exact app_loop hl60 hb8 m (i + 1) T' _ h' (by omega) hA' hT' (hG.keep hk) (hR.keep hk) _ _ _ _ _ _ _ _ _ _ _ _ _ _ _ _ _ _ _ _ _ _ _ _ _ _ _ _ _ _ _ _ _ _ _ _ _ _ _ _ _ _ _ _ _ _ _ _ _ _ _ _ _ _ _ _ _ _ _ _ _ _ _ _ _ _ _ _ _ _ _ _ _ _ _ _ _ _ _ _ _ _ _ _ _ _ _ _ _ _ _ _ _ _ _ _ _ _ _ _ _ _ _ _ _ _ _ _ _ _ _ _ _ _ _ _ _ _ _ _ _ _ _ _ _ _ _ _ _ _ _ _
    · rw [if_pos hpar] at hwspec hwr
      rw [decide_eq_true hpar, ifV_t, icv_5_3_3, hw0, bd1_n]
      refine run_bd2 (hwspec.mono ?_)
      rintro v h' ⟨rfl, hT', hk⟩
      rcases hwr with ⟨hw, hn, hen⟩ | ⟨T', hw, hA'⟩
      · rw [hw] at hT' ⊢
        subst hen
        simp only [bd1_n, bd2_n, ifV_t, ifV_f, vP_lss, vP_leq, vP_gtr, vP_geq, vP_add, vP_sub, vP_mul, vP_and, vP_or, vP_xor, vP_andNot, vP_not, vP_neg, vP_extract, vP_nilCheck, vB_eqi, vB_nei, ld1_some, lda_full, mlen_some, List.getElem?_toArray, List.getElem?_cons_zero, List.getElem?_cons_succ, Nat.zero_add, Nat.add_zero, List.size_toArray, List.length_cons, List.length_nil, Nat.reduceAdd, vP_min2, vP_max2, vP_min3, same_int, same_bool, same_str, same_ptr, same_slice, same_map, same_agg, same_tuple, List.all_cons, List.all_nil, gvc, Bool.and_self, Bool.and_true, ibd_23_0_3_23, iln_31_3, ibd_26__26, ibd_39_1_3_39, iia_31_0, ild_5_5, icv_5_3_3, icv_5_2_2, ial_23_0, ist_23_0, ifa_23_3_0, ild_2_2, iln_45_3, iia_45_0, ild_50_50, ial_50_0, ist_50_0, iln_24_3, iia_24_0, ild_3_3, ial_39_0, ist_39_0, ifa_39_0_0, ifa_39_4_0, ifa_39_1_0, ifa_39_2_0, ial_30_0, ist_30_0, ial_58_0, ist_58_0, ild_23_23, ild_30_30, ild_39_39, ild_58_58, ibx_23_0, ibx_26_0, ifa_23_0_0, ist_3_0, ild_65_65, ial_64_0, ist_64_0, ild_26_26, ifa_64_0_0, ifa_64_1_0, ifa_26_0_0, ifa_23_5_0, ild_4_4, ibx_30_0, ifa_30_5_0, ifa_30_0_0, ifa_30_1_0, ifa_30_2_0, imm_69_69, ibd_71_0_71, ibd_73_0_73, imm_74_74, ibd_76_0_76, ibd_78_0_1_78, ibx_78_32, ifa_23_1_0, ifa_23_2_0, ifa_23_4_0, ifa_78_1_0, ifa_76_0_0, ild_74_74, iln_74_3, ibx_3_0, ibx_39_0, ifa_39_3_0, imf_31_84, ifa_78_0_0, ifa_73_0_0, ifa_71_0_0, ild_69_69, iln_69_3, ibd_39_0_1_2_3_5_39, ist_2_0, ibd_23__23, ibd_94__94, ibx_94_47, ibx_50_0, ifa_50_0_0, ifa_50_5_0, ifa_50_1_0, ifa_50_7_0, ifa_50_6_0, ifa_50_2_0, ifa_50_4_0, ifa_50_3_0, imf_60_84, ibd_39__39, ibd_30__30, ifa_94_0_0, ild_91_91, iia_91_0, ifa_110_1_0, ibd_58__58, ifa_94_1_0, ild_92_92, iia_92_0, ifa_112_1_0, iln_92_3, ifa_58_0_0, ifa_112_0_0, ibs_24_1_0_24, ifa_26_1_0, ifa_26_2_0, ild_24_24, ifa_76_1_0, ifa_71_1_0, ifa_30_3_0, ifa_30_4_0, iln_91_3, ifa_94_2_0, ibd_110_0_1_110, ibs_91_1_0_91, ist_91_0, ibx_58_0, ifa_58_1_0, ifa_58_2_0, ifa_58_3_0, ifa_94_3_0, ibd_58_0_1_2_3_5_58, ibd_112_0_1_112, ibs_92_1_0_92, ist_92_0, ifa_39_5_0, ifa_58_5_0, ibs_92_0__92, ifa_58_4_0, ibd_122_0_1_2_122, ifa_110_0_0, ibs_91_0__91, beq_self_eq_true, u8gt, decide_eq_true hn, hw1]
        exact app_loop hl60 hb8 m (i + 1) T _ h' (by omega) hA hT' (hG.keep hk) (hR.keep hk) _ _ _ _ _ _ _ _ _ _ _ _ _ _ _ _ _ _ _ _ _ _ _ _ _ _ _ _ _ _ _ _ _ _ _ _ _ _ _ _ _ _ _ _ _ _ _ _ _ _ _ _ _ _ _ _ _ _ _ _ _ _ _ _ _ _ _ _ _ _ _ _ _ _ _ _ _ _ _ _ _ _ _ _ _ _ _ _ _ _ _ _ _ _ _ _ _ _ _ _ _ _ _ _ _ _ _ _ _ _ _ _ _ _ _ _ _ _ _ _ _ _ _ _ _ _ _ _ _ _ _ _
      · rw [hw] at hT' ⊢
        simp only [bd1_n, bd2_n, ifV_t, ifV_f, vP_lss, vP_leq, vP_gtr, vP_geq, vP_add, vP_sub, vP_mul, vP_and, vP_or, vP_xor, vP_andNot, vP_not, vP_neg, vP_extract, vP_nilCheck, vB_eqi, vB_nei, ld1_some, lda_full, mlen_some, List.getElem?_toArray, List.getElem?_cons_zero, List.getElem?_cons_succ, Nat.zero_add, Nat.add_zero, List.size_toArray, List.length_cons, List.length_nil, Nat.reduceAdd, vP_min2, vP_max2, vP_min3, same_int, same_bool, same_str, same_ptr, same_slice, same_map, same_agg, same_tuple, List.all_cons, List.all_nil, gvc, Bool.and_self, Bool.and_true, ibd_23_0_3_23, iln_31_3, ibd_26__26, ibd_39_1_3_39, iia_31_0, ild_5_5, icv_5_3_3, icv_5_2_2, ial_23_0, ist_23_0, ifa_23_3_0, ild_2_2, iln_45_3, iia_45_0, ild_50_50, ial_50_0, ist_50_0, iln_24_3, iia_24_0, ild_3_3, ial_39_0, ist_39_0, ifa_39_0_0, ifa_39_4_0, ifa_39_1_0, ifa_39_2_0, ial_30_0, ist_30_0, ial_58_0, ist_58_0, ild_23_23, ild_30_30, ild_39_39, ild_58_58, ibx_23_0, ibx_26_0, ifa_23_0_0, ist_3_0, ild_65_65, ial_64_0, ist_64_0, ild_26_26, ifa_64_0_0, ifa_64_1_0, ifa_26_0_0, ifa_23_5_0, ild_4_4, ibx_30_0, ifa_30_5_0, ifa_30_0_0, ifa_30_1_0, ifa_30_2_0, imm_69_69, ibd_71_0_71, ibd_73_0_73, imm_74_74, ibd_76_0_76, ibd_78_0_1_78, ibx_78_32, ifa_23_1_0, ifa_23_2_0, ifa_23_4_0, ifa_78_1_0, ifa_76_0_0, ild_74_74, iln_74_3, ibx_3_0, ibx_39_0, ifa_39_3_0, imf_31_84, ifa_78_0_0, ifa_73_0_0, ifa_71_0_0, ild_69_69, iln_69_3, ibd_39_0_1_2_3_5_39, ist_2_0, ibd_23__23, ibd_94__94, ibx_94_47, ibx_50_0, ifa_50_0_0, ifa_50_5_0, ifa_50_1_0, ifa_50_7_0, ifa_50_6_0, ifa_50_2_0, ifa_50_4_0, ifa_50_3_0, imf_60_84, ibd_39__39, ibd_30__30, ifa_94_0_0, ild_91_91, iia_91_0, ifa_110_1_0, ibd_58__58, ifa_94_1_0, ild_92_92, iia_92_0, ifa_112_1_0, iln_92_3, ifa_58_0_0, ifa_112_0_0, ibs_24_1_0_24, ifa_26_1_0, ifa_26_2_0, ild_24_24, ifa_76_1_0, ifa_71_1_0, ifa_30_3_0, ifa_30_4_0, iln_91_3, ifa_94_2_0, ibd_110_0_1_110, ibs_91_1_0_91, ist_91_0, ibx_58_0, ifa_58_1_0, ifa_58_2_0, ifa_58_3_0, ifa_94_3_0, ibd_58_0_1_2_3_5_58, ibd_112_0_1_112, ibs_92_1_0_92, ist_92_0, ifa_39_5_0, ifa_58_5_0, ibs_92_0__92, ifa_58_4_0, ibd_122_0_1_2_122, ifa_110_0_0, ibs_91_0__91, bne_self_eq_false, show ((0 : Int) == 25) = false from rfl, icv_5_2_2, hw0, hw2, hw3, hw1]
        exact app_loop hl60 hb8 m (i + 1) T' _ h' (by omega) hA' hT' (hG.keep hk) (hR.keep hk) _ _ _ _ _ _ _ _ _ _ _ _ _ _ _ _ _ _ _ _ _ _ _ _ _ _ _ _ _ _ _ _ _ _ _ _ _ _ _ _ _ _ _ _ _ _ _ _ _ _ _ _ _ _ _ _ _ _ _ _ _ _ _ _ _ _ _ _ _ _ _ _ _ _ _ _ _ _ _ _ _ _ _ _ _ _ _ _ _ _ _ _ _ _ _ _ _ _ _ _ _ _ _ _ _ _ _ _ _ _ _ _ _ _ _ _ _ _ _ _ _ _ _ _ _ _ _ _ _ _ _ _
end
end Go.Proofs.YtfmikgbachnneaaDoor
