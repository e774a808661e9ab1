/- Members of groups, and who is allowed. -/
import Derived.Test.YtfmikgbachnneaaDoorT20b
import Derived.IntWalk
import Derived.Test.YtfmikgbachnneaaDoorP20
import Derived.Test.YtfmikgbachnneaaDoorAm15
namespace Go.Proofs.YtfmikgbachnneaaDoor
open Go Go.Am
set_option maxRecDepth 100000

noncomputable abbrev P := Tryd.prog
/-- A cell. -/
def ld (h : H) (b o : Nat) : Option Value := match h[b]? with
  | some (.cells cs _ _) => cs[o]?
  | _ => none
def lda (h : H) (b o n : Nat) : Option Value := match h[b]? with
  | some (.cells cs _ _) => if o + n ≤ cs.size then some (.agg (cs.extract o (o + n))) else none
  | _ => none
theorem ld_of {h : H} {b o : Nat} {cs : Array Value} {T : TypeId} {k : Kind} (hb : h[b]? = some (.cells cs T k)) : ld h b o = cs[o]? := by simp [ld, hb]
theorem lda_of {h : H} {b o n : Nat} {cs : Array Value} {T : TypeId} {k : Kind} (hb : h[b]? = some (.cells cs T k)) : lda h b o n = if o + n ≤ cs.size then some (.agg (cs.extract o (o + n))) else none := by simp [lda, hb]
theorem fa_26_0 {b o ty : Nat} : vP P (.fieldAddr 26 (.const (.pointer (some ⟨b, o, none⟩))) 0) ty = some (.pointer (some ⟨b, o + 0, none⟩)) := by kernel_rfl
theorem fa_26_1 {b o ty : Nat} : vP P (.fieldAddr 26 (.const (.pointer (some ⟨b, o, none⟩))) 1) ty = some (.pointer (some ⟨b, o + 1, none⟩)) := by kernel_rfl
theorem fa_26_2 {b o ty : Nat} : vP P (.fieldAddr 26 (.const (.pointer (some ⟨b, o, none⟩))) 2) ty = some (.pointer (some ⟨b, o + 2, none⟩)) := by kernel_rfl
theorem fa_23_0 {b o ty : Nat} : vP P (.fieldAddr 23 (.const (.pointer (some ⟨b, o, none⟩))) 0) ty = some (.pointer (some ⟨b, o + 0, none⟩)) := by kernel_rfl
theorem fa_23_1 {b o ty : Nat} : vP P (.fieldAddr 23 (.const (.pointer (some ⟨b, o, none⟩))) 1) ty = some (.pointer (some ⟨b, o + 1, none⟩)) := by kernel_rfl
theorem fa_23_2 {b o ty : Nat} : vP P (.fieldAddr 23 (.const (.pointer (some ⟨b, o, none⟩))) 2) ty = some (.pointer (some ⟨b, o + 2, none⟩)) := by kernel_rfl
theorem fa_23_5 {b o ty : Nat} : vP P (.fieldAddr 23 (.const (.pointer (some ⟨b, o, none⟩))) 5) ty = some (.pointer (some ⟨b, o + 5, none⟩)) := by kernel_rfl
theorem fa_30_0 {b o ty : Nat} : vP P (.fieldAddr 30 (.const (.pointer (some ⟨b, o, none⟩))) 0) ty = some (.pointer (some ⟨b, o + 0, none⟩)) := by kernel_rfl
theorem fa_30_1 {b o ty : Nat} : vP P (.fieldAddr 30 (.const (.pointer (some ⟨b, o, none⟩))) 1) ty = some (.pointer (some ⟨b, o + 1, none⟩)) := by kernel_rfl
theorem fa_30_2 {b o ty : Nat} : vP P (.fieldAddr 30 (.const (.pointer (some ⟨b, o, none⟩))) 2) ty = some (.pointer (some ⟨b, o + 2, none⟩)) := by kernel_rfl
theorem fa_30_5 {b o ty : Nat} : vP P (.fieldAddr 30 (.const (.pointer (some ⟨b, o, none⟩))) 5) ty = some (.pointer (some ⟨b, o + 5, none⟩)) := by kernel_rfl
theorem fa_64_0 {b o ty : Nat} : vP P (.fieldAddr 64 (.const (.pointer (some ⟨b, o, none⟩))) 0) ty = some (.pointer (some ⟨b, o + 0, none⟩)) := by kernel_rfl
theorem fa_64_1 {b o ty : Nat} : vP P (.fieldAddr 64 (.const (.pointer (some ⟨b, o, none⟩))) 1) ty = some (.pointer (some ⟨b, o + 1, none⟩)) := by kernel_rfl
theorem l65 {b o : Nat} {h : H} : vR P (.load 65 (.const (.pointer (some ⟨b, o, none⟩)))) 65 h = lda h b o 6 := by kernel_rfl
theorem al64 {h : H} : vE P C (.alloc 64) 0 h = some (cNew (.cells #[.int .i64 0, .int .i64 0] 64 .own) h) := by kernel_rfl
theorem ix65_0 : vP P (.index 65 (.const (.agg bitsCells)) (.const (.int .i64 0))) 64 = some (.agg #[.int .i64 4, .int .i64 1]) := by kernel_rfl
theorem ix65_1 : vP P (.index 65 (.const (.agg bitsCells)) (.const (.int .i64 1))) 64 = some (.agg #[.int .i64 2, .int .i64 2]) := by kernel_rfl
theorem ix65_2 : vP P (.index 65 (.const (.agg bitsCells)) (.const (.int .i64 2))) 64 = some (.agg #[.int .i64 1, .int .i64 4]) := by kernel_rfl
theorem l3 {b o : Nat} {h : H} : vR P (.load 3 (.const (.pointer (some ⟨b, o, none⟩)))) 3 h = ld h b o := by kernel_rfl
theorem l4 {b o : Nat} {h : H} : vR P (.load 4 (.const (.pointer (some ⟨b, o, none⟩)))) 4 h = ld h b o := by kernel_rfl
theorem l24 {b o : Nat} {h : H} : vR P (.load 24 (.const (.pointer (some ⟨b, o, none⟩)))) 24 h = ld h b o := by kernel_rfl
theorem l23 {b o : Nat} {h : H} : vR P (.load 23 (.const (.pointer (some ⟨b, o, none⟩)))) 23 h = lda h b o 6 := by kernel_rfl
theorem l26 {b o : Nat} {h : H} : vR P (.load 26 (.const (.pointer (some ⟨b, o, none⟩)))) 26 h = lda h b o 3 := by kernel_rfl
theorem len24 {a : Option Addr} {n c : Nat} {h : H} : vR P (.call ⟨.builtin .len, #[(.const (.slice a n c))], #[24]⟩) 3 h = some (.int .i64 n) := by kernel_rfl
theorem ia24 {b o n c : Nat} {i : Int} (h0 : 0 ≤ i) (h1 : i < n) : vP P (.indexAddr 24 (.const (.slice (some ⟨b, o, none⟩) n c)) (.const (.int .i64 i))) 0 = some (.pointer (some ⟨b, o + i.toNat * 1, none⟩)) :=
  vP_indexAddr (e := 3) (inf := (P.info? 3).get (by kernel_rfl)) (by kernel_rfl) (by kernel_rfl) h0 h1

/-- A slice of ints. -/
abbrev Ints := IntsK .i64
def small (l : List Int) : Prop := (l.length : Int) ≤ 1000000

theorem idx_loop {h : H} {v0 : Value} {l : List Int} {x : Int} (hI : Ints h v0 l) (hs : small l) : ∀ (m i : Nat), i + m = l.length → x ∉ l.take i → ∀ (v2 v3 v4 v5 v6 v9 v10 v11 v12 v13 v14 v15 v16 v17 v18 : Value),
    Run (kCode P C (codeAt (bodyOf P 74) [1, 0, 1, 0]) ⟨#[v0, .int .i64 x, v2, v3, v4, v5, v6, .int .i64 l.length, .int .i64 i, v9, v10, v11, v12, v13, v14, v15, v16, v17, v18], []⟩ h (kPath P C (bodyOf P 74) [1, 0, 1, 0] (kEnd P 74)))
      fun v h' => ∃ j : Int, v = .int .i64 j ∧ (0 ≤ j ↔ x ∈ l) ∧ h' = h
  | 0, i, hm, hx, v2, v3, v4, v5, v6, v9, v10, v11, v12, v13, v14, v15, v16, v17, v18 => by
    refine run_loop f74_l1010_eq ?_
    rw [f74_l1010, vP_lss, bd1_eq]
    refine run_ifV (fun hlt => ?_) (fun _ => ?_)
    · simp at hlt; omega
    · rw [f74_l1010_E0]
      refine run_some.2 ⟨-1, rfl, ?_, rfl⟩
      rw [List.take_of_length_le (by omega)] at hx
      simp [hx]
  | m + 1, i, hm, hx, v2, v3, v4, v5, v6, v9, v10, v11, v12, v13, v14, v15, v16, v17, v18 => by
    refine run_loop f74_l1010_eq ?_
    rw [f74_l1010, vP_lss, bd1_eq]
    refine run_ifV (fun _ => ?_) (fun hlt => ?_)
    · rcases hI with ⟨_, c, rfl, rfl⟩ | ⟨b, o, c, cs, T, k, rfl, h2, h3⟩
      · simp at hm
      · obtain ⟨y, hy⟩ : ∃ y, l[i]? = some y := ⟨l[i], List.getElem?_eq_getElem (by omega)⟩
        rw [ia24 (by omega) (by omega), bd1_eq, l3, ld_of h2]
        rw [show o + (i : Int).toNat * 1 = o + i by omega, h3 i y hy, bd1_eq, vB_eqi, bd1_eq]
        refine run_ifV (fun he => ?_) (fun hne => ?_)
        · rw [f74_l1010_R]
          refine run_some.2 ⟨i, rfl, ?_, rfl⟩
          have : x = y := by simpa using he
          subst this
          exact ⟨fun _ => List.mem_of_getElem? hy, fun _ => by omega⟩
        · rw [vP_add, bd1_eq]
          have hw : IntKind.i64.wrap ((i : Int) + 1) = ((i + 1 : Nat) : Int) := by
            unfold small at hs
            rw [IntWalk.i64_in _ (by omega)]; omega
          rw [hw]
          refine idx_loop (.inr ⟨b, o, c, cs, T, k, rfl, h2, h3⟩) hs m (i + 1) (by omega) ?_ _ _ _ _ _ _ _ _ _ _ _ _ _ _ _
          rw [List.take_add_one, hy]
          have : ¬ x = y := by simpa using hne
          simp [hx, this]
    · simp at hlt; omega

theorem index_spec {h : H} {v0 : Value} {l : List Int} {x : Int} (hI : Ints h v0 l) (hs : small l) : Run (C 74 #[v0, .int .i64 x] h) fun v h' => ∃ j : Int, v = .int .i64 j ∧ (0 ≤ j ↔ x ∈ l) ∧ h' = h := by
  refine into (tmps := #[v0, .int .i64 x, undef, undef, undef, undef, undef, undef, undef, undef, undef, undef, undef, undef, undef, undef, undef, undef, undef]) rfl (by kernel_rfl) (by kernel_rfl) ?_
  obtain ⟨a, c, hv⟩ := hI.len
  rw [f74]
  rw [show vR P (.call ⟨.builtin .len, #[(.const v0)], #[24]⟩) 3 h = some (.int .i64 l.length) by rw [hv, len24], bd1_eq]
  exact idx_loop hI hs l.length 0 (by omega) (by simp) _ _ _ _ _ _ _ _ _ _ _ _ _ _ _
theorem contains_spec {h : H} {v0 : Value} {l : List Int} {x : Int} (hI : Ints h v0 l) (hs : small l) : Run (C 71 #[v0, .int .i64 x] h) fun v h' => v = .bool (decide (x ∈ l)) ∧ h' = h := by
  refine into (tmps := #[v0, .int .i64 x, undef, undef, undef, undef, undef, undef, undef]) rfl (by kernel_rfl) (by kernel_rfl) ?_
  rw [f71]
  refine run_bd2 ((index_spec hI hs).mono ?_)
  rintro v h' ⟨j, rfl, hj, rfl⟩
  rw [vP_geq, bd1_eq]
  exact run_some.2 ⟨by simp [hj], rfl⟩

def attrV (m u g s n : Int) (d : Bool) : Value := .agg #[.int .i64 m, .int .i64 u, .int .i64 g, .int .i64 s, .int .i64 n, .bool d]
def credV (u g : Int) (gs : Value) : Value := .agg #[.int .i64 u, .int .i64 g, gs]
theorem member_spec {h : H} {cu cg g : Int} {gs : Value} {l : List Int} (hI : Ints h gs l) (hs : small l) : Run (C 65 #[credV cu cg gs, .int .i64 g] h) fun v h' => v = .bool (decide (cg = g ∨ g ∈ l)) ∧ Ext h h' := by
  refine into (tmps := #[credV cu cg gs, .int .i64 g, undef, undef, undef, undef, undef, undef, undef, undef, undef, undef, undef, undef, undef]) rfl (by kernel_rfl) (by kernel_rfl) ?_
  rw [f65]
  refine run_box rfl fun b h1 he hb hb' hc => ?_
  rw [fa_26_1, bd1_eq, l3, ld_of hc, show (credV cu cg gs).cells[0 + 1]? = some (.int .i64 cg) from rfl, bd1_eq, vB_eqi, bd1_eq]
  refine run_ifV (fun he1 => ?_) (fun hne => ?_)
  · have : cg = g := by simpa using he1
    exact run_some.2 ⟨by simp [this], he⟩
  · have : ¬ cg = g := by simpa using hne
    rw [fa_26_2, bd1_eq, l24, ld_of hc, show (credV cu cg gs).cells[0 + 2]? = some gs from rfl, bd1_eq]
    refine run_bd2 ((contains_spec (hI.ext he) hs).mono ?_)
    rintro v h' ⟨rfl, rfl⟩
    exact run_some.2 ⟨by simp [this], he⟩
def classOf (m u g cu cg : Int) (l : List Int) : Int :=
  if cu = u then (IntKind.i64.wrap (m.tdiv 64)).tmod 8 else if cg = g ∨ g ∈ l then (IntKind.i64.wrap (m.tdiv 8)).tmod 8 else m.tmod 8
theorem class_spec {h : H} {m u g s n : Int} {d : Bool} {cu cg : Int} {gs : Value} {l : List Int} (hI : Ints h gs l) (hs : small l) : Run (C 27 #[attrV m u g s n d, credV cu cg gs] h) fun v h' => v = .int .i64 (classOf m u g cu cg l) ∧ Ext h h' := by
  refine into (tmps := #[attrV m u g s n d, credV cu cg gs, undef, undef, undef, undef, undef, undef, undef, undef, undef, undef, undef, undef, undef, undef, undef, undef, undef, undef, undef, undef, undef, undef, undef, undef, undef]) rfl (by kernel_rfl) (by kernel_rfl) ?_
  rw [f27]
  refine run_box rfl fun b h1 he1 hb hb' hc => ?_
  refine run_box rfl fun b2 h2 he2 hb2 hb2' hc2 => ?_
  have hc1 := he2.some hc
  have a0 : ∀ (h : H), h[b]? = some (.cells (attrV m u g s n d).cells 23 .own) → ld h b (0 + 0) = some (.int .i64 m) := fun h hh => by rw [ld_of hh]; rfl
  have a1 : ld h2 b (0 + 1) = some (.int .i64 u) := by rw [ld_of hc1]; rfl
  have a2 : ld h2 b (0 + 2) = some (.int .i64 g) := by rw [ld_of hc1]; rfl
  have c0 : ld h2 b2 (0 + 0) = some (.int .i64 cu) := by rw [ld_of hc2]; rfl
  have c3 : lda h2 b2 0 3 = some (credV cu cg gs) := by rw [lda_of hc2]; rfl
  simp only [fa_26_0, fa_23_0, fa_23_1, fa_23_2, l3, l26, bd1_eq, a0 h2 hc1, a1, a2, c0, c3, vB_eqi, vP_quo (show (64 : Int) ≠ 0 by decide), vP_rem (show (8 : Int) ≠ 0 by decide)]
  refine run_ifV (fun he1' => ?_) (fun hne => ?_)
  · have : cu = u := by simpa using he1'
    exact run_some.2 ⟨by simp [classOf, this], he1.trans he2⟩
  · have hne' : ¬ cu = u := by simpa using hne
    refine run_bd2 ((member_spec (hI.ext (he1.trans he2)) hs).mono ?_)
    rintro v h3 ⟨rfl, he3⟩
    simp only [a0 h3 (he3.some hc1), bd1_eq, vP_quo (show (8 : Int) ≠ 0 by decide), vP_rem (show (8 : Int) ≠ 0 by decide)]
    refine run_ifV (fun hm => ?_) (fun hm => ?_)
    · have : cg = g ∨ g ∈ l := by simpa using hm
      exact run_some.2 ⟨by simp [classOf, hne', this], (he1.trans he2).trans he3⟩
    · have : ¬ (cg = g ∨ g ∈ l) := by simpa using hm
      exact run_some.2 ⟨by simp [classOf, hne', this], (he1.trans he2).trans he3⟩

theorem rmem_loop {h : H} {gs : Value} {l : List Int} {x : Int} {b : Nat} {cu cg : Int} (hI : Ints h gs l) (hs : small l) (hb : h[b]? = some (.cells (credV cu cg gs).cells 26 .own)) :
    ∀ (m i : Nat), i + m = l.length → x ∉ l.take i → ∀ (v0 v3 v4 v6 v7 v8 v9 v10 v11 v12 v13 v14 v15 v16 v17 v18 v19 v20 v21 v22 v23 : Value),
    Run (kCode P C (codeAt (bodyOf P 28) [1, 1, 0, 1, 0]) ⟨#[v0, .int .i64 x, .pointer (some ⟨b, 0, none⟩), v3, v4, .int .i64 i, v6, v7, v8, v9, v10, v11, v12, v13, v14, v15, v16, v17, v18, v19, v20, v21, v22, v23], []⟩ h (kPath P C (bodyOf P 28) [1, 1, 0, 1, 0] (kEnd P 28)))
      fun v h' => v = .bool (decide (x ∈ l)) ∧ h' = h
  | m, i, hm, hx, v0, v3, v4, v6, v7, v8, v9, v10, v11, v12, v13, v14, v15, v16, v17, v18, v19, v20, v21, v22, v23 => by
    obtain ⟨a, c, hgs⟩ := hI.len
    have hl : ld h b (0 + 2) = some gs := by rw [ld_of hb]; rfl
    refine run_loop f28_l11010_eq ?_
    rw [f28_l11010, fa_26_2, bd1_eq, l24, hl, bd1_eq, hgs, len24, bd1_eq, vP_lss, bd1_eq, ← hgs]
    refine run_ifV (fun hlt => ?_) (fun hlt => ?_)
    · have hlt' : (i : Int) < l.length := by simpa using hlt
      rw [bd1_eq, l24, hl, bd1_eq]
      match m, hm with
      | 0, hm => omega
      | m + 1, hm =>
        rcases hI with ⟨_, c, rfl, rfl⟩ | ⟨b', o, c, cs, T, k, rfl, h2, h3⟩
        · simp at hm
        · obtain ⟨y, hy⟩ : ∃ y, l[i]? = some y := ⟨l[i], List.getElem?_eq_getElem (by omega)⟩
          rw [ia24 (by omega) (by omega), bd1_eq, l3, ld_of h2]
          rw [show o + (i : Int).toNat * 1 = o + i by omega, h3 i y hy, bd1_eq, vB_eqi, bd1_eq]
          refine run_ifV (fun he => ?_) (fun hne => ?_)
          · rw [f28_l11010_R]
            have : y = x := by simpa using he
            subst this
            exact run_some.2 ⟨by simp [List.mem_of_getElem? hy], rfl⟩
          · rw [vP_add, bd1_eq]
            have hw : IntKind.i64.wrap ((i : Int) + 1) = ((i + 1 : Nat) : Int) := by
              unfold small at hs
              rw [IntWalk.i64_in _ (by omega)]; omega
            rw [hw]
            refine rmem_loop (.inr ⟨b', o, c, cs, T, k, rfl, h2, h3⟩) hs hb m (i + 1) (by omega) ?_ _ _ _ _ _ _ _ _ _ _ _ _ _ _ _ _ _ _ _ _ _
            rw [List.take_add_one, hy]
            have : ¬ y = x := by simpa using hne
            simp [hx, Ne.symm this]
    · rw [f28_l11010_E0]
      have hlt' : ¬ (i : Int) < l.length := by simpa using hlt
      rw [List.take_of_length_le (by omega)] at hx
      exact run_some.2 ⟨by simp [hx], rfl⟩
  termination_by m => m
theorem rmember_spec {h : H} {cu cg g : Int} {gs : Value} {l : List Int} (hI : Ints h gs l) (hs : small l) : Run (C 28 #[credV cu cg gs, .int .i64 g] h) fun v h' => v = .bool (decide (cg = g ∨ g ∈ l)) ∧ Ext h h' := by
  refine into (tmps := #[credV cu cg gs, .int .i64 g, undef, undef, undef, undef, undef, undef, undef, undef, undef, undef, undef, undef, undef, undef, undef, undef, undef, undef, undef, undef, undef, undef]) rfl (by kernel_rfl) (by kernel_rfl) ?_
  rw [f28]
  refine run_box rfl fun b h1 he hb hb' hc => ?_
  rw [fa_26_1, bd1_eq, l3, ld_of hc, show (credV cu cg gs).cells[0 + 1]? = some (.int .i64 cg) from rfl, bd1_eq, vB_eqi, bd1_eq]
  refine run_ifV (fun he1 => ?_) (fun hne => ?_)
  · have : cg = g := by simpa using he1
    exact run_some.2 ⟨by simp [this], he⟩
  · have : ¬ cg = g := by simpa using hne
    refine (rmem_loop (hI.ext he) hs hc l.length 0 (by omega) (by simp) _ _ _ _ _ _ _ _ _ _ _ _ _ _ _ _ _ _ _ _ _).mono ?_
    rintro v h' ⟨rfl, rfl⟩
    exact ⟨by simp [this], he⟩
end Go.Proofs.YtfmikgbachnneaaDoor
