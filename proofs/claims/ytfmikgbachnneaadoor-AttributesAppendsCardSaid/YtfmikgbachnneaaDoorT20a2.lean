/- Members of groups, and who is allowed, in calls that leave nothing behind. -/
import Derived.Test.YtfmikgbachnneaaDoorT20q
import Derived.Test.YtfmikgbachnneaaDoorT20t2
import Derived.Test.YtfmikgbachnneaaDoorP20
set_option linter.unusedSimpArgs false
set_option linter.unusedVariables false
namespace Go.Proofs.YtfmikgbachnneaaDoor
open Go Go.Am
set_option maxRecDepth 100000
def GcQ (h : H) (Q : Value → H → Prop) : Prop := ∀ v h1 b, Q v h1 → Q v (gcIf b h h1 v)
theorem gcIf_cases (b : Bool) (h h1 : H) (v : Value) : gcIf b h h1 v = h1 ∨ (gcIf b h h1 v = h ∧ Ext h h1) := by
  cases b with
  | false => exact .inl rfl
  | true =>
    show gc h h1 v = h1 ∨ (gc h h1 v = h ∧ Ext h h1)
    unfold gc
    split
    · rename_i hc; exact .inr ⟨rfl, hc.1⟩
    · exact .inl rfl
theorem gcQ_ext {h : H} {v0 : Value} : GcQ h fun v h' => v = v0 ∧ Ext h h' := by
  rintro v h1 b ⟨q1, q2⟩
  rcases gcIf_cases b h h1 v with k | ⟨k, _⟩ <;> rw [k]
  · exact ⟨q1, q2⟩
  · exact ⟨q1, Ext.refl _⟩
theorem gcQ_eq {h : H} {v0 : Value} : GcQ h fun v h' => v = v0 ∧ h' = h := by
  rintro v h1 b ⟨q1, q2⟩
  rcases gcIf_cases b h h1 v with k | ⟨k, _⟩ <;> rw [k]
  · exact ⟨q1, q2⟩
  · exact ⟨q1, rfl⟩
theorem gcQ_ex {h : H} {f : Int → Value} {p : Int → Prop} : GcQ h fun v h' => ∃ j : Int, v = f j ∧ p j ∧ h' = h := by
  rintro v h1 b ⟨j, q1, q2, q3⟩
  rcases gcIf_cases b h h1 v with k | ⟨k, _⟩ <;> rw [k]
  · exact ⟨j, q1, q2, q3⟩
  · exact ⟨j, q1, q2, rfl⟩
theorem intoQ {X : Hooks} {f : FuncId} {args tmps : Array Value} {h : H} {Q : Value → H → Prop} (hX : X f = none) (hQ : GcQ h Q) (hb : ((P.funcs[f]?).bind (·.body)).isSome = true)
    (ht : tmps = args ++ Array.replicate (tmpsOf P f - args.size) undef) (he : Run (kCode P (CX X) (bodyOf P f) ⟨tmps, []⟩ h (kEnd P f)) Q) : Run (CX X f args h) Q := by
  obtain ⟨v', h1, q1, q2⟩ := he
  exact ⟨v', _, enterG (nu := nu20) hX rfl hb ht q1, hQ _ _ _ q2⟩
/-- A cell. -/
def ld (h : H) (b o : Nat) : Option Value := match h[b]? with
  | some (.cells cs _ _) => cs[o]?
  | _ => none
def lda (h : H) (b o n : Nat) : Option Value := match h[b]? with
  | some (.cells cs _ _) => if o + n ≤ cs.size then some (.agg (cs.extract o (o + n))) else none
  | _ => none
theorem ld_of {h : H} {b o : Nat} {cs : Array Value} {T : TypeId} {k : Kind} (hb : h[b]? = some (.cells cs T k)) : ld h b o = cs[o]? := by simp [ld, hb]
theorem lda_of {h : H} {b o n : Nat} {cs : Array Value} {T : TypeId} {k : Kind} (hb : h[b]? = some (.cells cs T k)) : lda h b o n = if o + n ≤ cs.size then some (.agg (cs.extract o (o + n))) else none := by simp [lda, hb]
theorem fa_26_0 {b o ty : Nat} : vP P (.fieldAddr 26 (.const (.pointer (some ⟨b, o, none⟩))) 0) ty = some (.pointer (some ⟨b, o + 0, none⟩)) := by kernel_rfl
theorem fa_26_1 {b o ty : Nat} : vP P (.fieldAddr 26 (.const (.pointer (some ⟨b, o, none⟩))) 1) ty = some (.pointer (some ⟨b, o + 1, none⟩)) := by kernel_rfl
theorem fa_26_2 {b o ty : Nat} : vP P (.fieldAddr 26 (.const (.pointer (some ⟨b, o, none⟩))) 2) ty = some (.pointer (some ⟨b, o + 2, none⟩)) := by kernel_rfl
theorem fa_23_0 {b o ty : Nat} : vP P (.fieldAddr 23 (.const (.pointer (some ⟨b, o, none⟩))) 0) ty = some (.pointer (some ⟨b, o + 0, none⟩)) := by kernel_rfl
theorem fa_23_1 {b o ty : Nat} : vP P (.fieldAddr 23 (.const (.pointer (some ⟨b, o, none⟩))) 1) ty = some (.pointer (some ⟨b, o + 1, none⟩)) := by kernel_rfl
theorem fa_23_2 {b o ty : Nat} : vP P (.fieldAddr 23 (.const (.pointer (some ⟨b, o, none⟩))) 2) ty = some (.pointer (some ⟨b, o + 2, none⟩)) := by kernel_rfl
theorem fa_23_5 {b o ty : Nat} : vP P (.fieldAddr 23 (.const (.pointer (some ⟨b, o, none⟩))) 5) ty = some (.pointer (some ⟨b, o + 5, none⟩)) := by kernel_rfl
theorem fa_30_0 {b o ty : Nat} : vP P (.fieldAddr 30 (.const (.pointer (some ⟨b, o, none⟩))) 0) ty = some (.pointer (some ⟨b, o + 0, none⟩)) := by kernel_rfl
theorem fa_30_1 {b o ty : Nat} : vP P (.fieldAddr 30 (.const (.pointer (some ⟨b, o, none⟩))) 1) ty = some (.pointer (some ⟨b, o + 1, none⟩)) := by kernel_rfl
theorem fa_30_2 {b o ty : Nat} : vP P (.fieldAddr 30 (.const (.pointer (some ⟨b, o, none⟩))) 2) ty = some (.pointer (some ⟨b, o + 2, none⟩)) := by kernel_rfl
theorem fa_30_5 {b o ty : Nat} : vP P (.fieldAddr 30 (.const (.pointer (some ⟨b, o, none⟩))) 5) ty = some (.pointer (some ⟨b, o + 5, none⟩)) := by kernel_rfl
theorem fa_64_0 {b o ty : Nat} : vP P (.fieldAddr 64 (.const (.pointer (some ⟨b, o, none⟩))) 0) ty = some (.pointer (some ⟨b, o + 0, none⟩)) := by kernel_rfl
theorem fa_64_1 {b o ty : Nat} : vP P (.fieldAddr 64 (.const (.pointer (some ⟨b, o, none⟩))) 1) ty = some (.pointer (some ⟨b, o + 1, none⟩)) := by kernel_rfl
theorem l65 {b o : Nat} {h : H} : vR P (.load 65 (.const (.pointer (some ⟨b, o, none⟩)))) 65 h = lda h b o 6 := by kernel_rfl
theorem al64 {X : Hooks} {h : H} : vE P (CX X) (.alloc 64) 0 h = some (cNew (.cells #[.int .i64 0, .int .i64 0] 64 .own) h) := by kernel_rfl
theorem ix65_0 : vP P (.index 65 (.const (.agg bitsCells)) (.const (.int .i64 0))) 64 = some (.agg #[.int .i64 4, .int .i64 1]) := by kernel_rfl
theorem ix65_1 : vP P (.index 65 (.const (.agg bitsCells)) (.const (.int .i64 1))) 64 = some (.agg #[.int .i64 2, .int .i64 2]) := by kernel_rfl
theorem ix65_2 : vP P (.index 65 (.const (.agg bitsCells)) (.const (.int .i64 2))) 64 = some (.agg #[.int .i64 1, .int .i64 4]) := by kernel_rfl
theorem l3 {b o : Nat} {h : H} : vR P (.load 3 (.const (.pointer (some ⟨b, o, none⟩)))) 3 h = ld h b o := by kernel_rfl
theorem l4 {b o : Nat} {h : H} : vR P (.load 4 (.const (.pointer (some ⟨b, o, none⟩)))) 4 h = ld h b o := by kernel_rfl
theorem l24 {b o : Nat} {h : H} : vR P (.load 24 (.const (.pointer (some ⟨b, o, none⟩)))) 24 h = ld h b o := by kernel_rfl
theorem l23 {b o : Nat} {h : H} : vR P (.load 23 (.const (.pointer (some ⟨b, o, none⟩)))) 23 h = lda h b o 6 := by kernel_rfl
theorem l26 {b o : Nat} {h : H} : vR P (.load 26 (.const (.pointer (some ⟨b, o, none⟩)))) 26 h = lda h b o 3 := by kernel_rfl
theorem len24 {a : Option Addr} {n c : Nat} {h : H} : vR P (.call ⟨.builtin .len, #[(.const (.slice a n c))], #[24]⟩) 3 h = some (.int .i64 n) := by kernel_rfl
theorem ia24 {b o n c : Nat} {i : Int} (h0 : 0 ≤ i) (h1 : i < n) : vP P (.indexAddr 24 (.const (.slice (some ⟨b, o, none⟩) n c)) (.const (.int .i64 i))) 0 = some (.pointer (some ⟨b, o + i.toNat * 1, none⟩)) :=
  vP_indexAddr (e := 3) (inf := (P.info? 3).get (by kernel_rfl)) (by kernel_rfl) (by kernel_rfl) h0 h1

/-- A slice of ints. -/
abbrev Ints := IntsK .i64
def small (l : List Int) : Prop := (l.length : Int) ≤ 1000000

theorem idx_loop {X : Hooks} (hX : freeX X) {h : H} {v0 : Value} {l : List Int} {x : Int} (hI : Ints h v0 l) (hs : small l) : ∀ (m i : Nat), i + m = l.length → x ∉ l.take i → ∀ (v2 v3 v4 v5 v6 v9 v10 v11 v12 v13 v14 v15 v16 v17 v18 : Value),
    Run (kCode P (CX X) (codeAt (bodyOf P 74) [1, 0, 1, 0]) ⟨#[v0, .int .i64 x, v2, v3, v4, v5, v6, .int .i64 l.length, .int .i64 i, v9, v10, v11, v12, v13, v14, v15, v16, v17, v18], []⟩ h (kPath P (CX X) (bodyOf P 74) [1, 0, 1, 0] (kEnd P 74)))
      fun v h' => ∃ j : Int, v = .int .i64 j ∧ (0 ≤ j ↔ x ∈ l) ∧ h' = h
  | 0, i, hm, hx, v2, v3, v4, v5, v6, v9, v10, v11, v12, v13, v14, v15, v16, v17, v18 => by
    refine run_loop f74_l1010_eq ?_
    rw [f74_l1010, vP_lss, bd1_eq]
    refine run_ifV (fun hlt => ?_) (fun _ => ?_)
    · simp at hlt; omega
    · rw [f74_l1010_E0]
      refine run_some.2 ⟨-1, rfl, ?_, rfl⟩
      rw [List.take_of_length_le (by omega)] at hx
      simp [hx]
  | m + 1, i, hm, hx, v2, v3, v4, v5, v6, v9, v10, v11, v12, v13, v14, v15, v16, v17, v18 => by
    refine run_loop f74_l1010_eq ?_
    rw [f74_l1010, vP_lss, bd1_eq]
    refine run_ifV (fun _ => ?_) (fun hlt => ?_)
    · rcases hI with ⟨_, c, rfl, rfl⟩ | ⟨b, o, c, cs, T, k, rfl, h2, h3⟩
      · simp at hm
      · obtain ⟨y, hy⟩ : ∃ y, l[i]? = some y := ⟨l[i], List.getElem?_eq_getElem (by omega)⟩
        rw [ia24 (by omega) (by omega), bd1_eq, l3, ld_of h2]
        rw [show o + (i : Int).toNat * 1 = o + i by omega, h3 i y hy, bd1_eq, vB_eqi, bd1_eq]
        refine run_ifV (fun he => ?_) (fun hne => ?_)
        · rw [f74_l1010_R]
          refine run_some.2 ⟨i, rfl, ?_, rfl⟩
          have : x = y := by simpa using he
          subst this
          exact ⟨fun _ => List.mem_of_getElem? hy, fun _ => by omega⟩
        · rw [vP_add, bd1_eq]
          have hw : IntKind.i64.wrap ((i : Int) + 1) = ((i + 1 : Nat) : Int) := by
            unfold small at hs
            rw [IntWalk.i64_in _ (by omega)]; omega
          rw [hw]
          refine idx_loop hX (.inr ⟨b, o, c, cs, T, k, rfl, h2, h3⟩) hs m (i + 1) (by omega) ?_ _ _ _ _ _ _ _ _ _ _ _ _ _ _ _
          rw [List.take_add_one, hy]
          have : ¬ x = y := by simpa using hne
          simp [hx, this]
    · simp at hlt; omega

theorem index_spec {X : Hooks} (hX : freeX X) {h : H} {v0 : Value} {l : List Int} {x : Int} (hI : Ints h v0 l) (hs : small l) : Run (CX X 74 #[v0, .int .i64 x] h) fun v h' => ∃ j : Int, v = .int .i64 j ∧ (0 ≤ j ↔ x ∈ l) ∧ h' = h := by
  refine intoQ (tmps := #[v0, .int .i64 x, undef, undef, undef, undef, undef, undef, undef, undef, undef, undef, undef, undef, undef, undef, undef, undef, undef]) (hX _ (by decide) (by decide) (by decide) (by decide)) (by first | exact gcQ_ext | exact gcQ_eq | exact gcQ_ex) (by kernel_rfl) (by kernel_rfl) ?_
  obtain ⟨a, c, hv⟩ := hI.len
  rw [f74]
  rw [show vR P (.call ⟨.builtin .len, #[(.const v0)], #[24]⟩) 3 h = some (.int .i64 l.length) by rw [hv, len24], bd1_eq]
  exact idx_loop hX hI hs l.length 0 (by omega) (by simp) _ _ _ _ _ _ _ _ _ _ _ _ _ _ _
theorem contains_spec {X : Hooks} (hX : freeX X) {h : H} {v0 : Value} {l : List Int} {x : Int} (hI : Ints h v0 l) (hs : small l) : Run (CX X 71 #[v0, .int .i64 x] h) fun v h' => v = .bool (decide (x ∈ l)) ∧ h' = h := by
  refine intoQ (tmps := #[v0, .int .i64 x, undef, undef, undef, undef, undef, undef, undef]) (hX _ (by decide) (by decide) (by decide) (by decide)) (by first | exact gcQ_ext | exact gcQ_eq | exact gcQ_ex) (by kernel_rfl) (by kernel_rfl) ?_
  rw [f71]
  refine run_bd2 ((index_spec hX hI hs).mono ?_)
  rintro v h' ⟨j, rfl, hj, rfl⟩
  rw [vP_geq, bd1_eq]
  exact run_some.2 ⟨by simp [hj], rfl⟩

def attrV (m u g s n : Int) (d : Bool) : Value := .agg #[.int .i64 m, .int .i64 u, .int .i64 g, .int .i64 s, .int .i64 n, .bool d]
def credV (u g : Int) (gs : Value) : Value := .agg #[.int .i64 u, .int .i64 g, gs]
theorem member_spec {X : Hooks} (hX : freeX X) {h : H} {cu cg g : Int} {gs : Value} {l : List Int} (hI : Ints h gs l) (hs : small l) : Run (CX X 65 #[credV cu cg gs, .int .i64 g] h) fun v h' => v = .bool (decide (cg = g ∨ g ∈ l)) ∧ Ext h h' := by
  refine intoQ (tmps := #[credV cu cg gs, .int .i64 g, undef, undef, undef, undef, undef, undef, undef, undef, undef, undef, undef, undef, undef]) (hX _ (by decide) (by decide) (by decide) (by decide)) (by first | exact gcQ_ext | exact gcQ_eq | exact gcQ_ex) (by kernel_rfl) (by kernel_rfl) ?_
  rw [f65]
  refine run_box rfl fun b h1 he hb hb' hc => ?_
  rw [fa_26_1, bd1_eq, l3, ld_of hc, show (credV cu cg gs).cells[0 + 1]? = some (.int .i64 cg) from rfl, bd1_eq, vB_eqi, bd1_eq]
  refine run_ifV (fun he1 => ?_) (fun hne => ?_)
  · have : cg = g := by simpa using he1
    exact run_some.2 ⟨by simp [this], he⟩
  · have : ¬ cg = g := by simpa using hne
    rw [fa_26_2, bd1_eq, l24, ld_of hc, show (credV cu cg gs).cells[0 + 2]? = some gs from rfl, bd1_eq]
    refine run_bd2 ((contains_spec hX (hI.ext he) hs).mono ?_)
    rintro v h' ⟨rfl, rfl⟩
    exact run_some.2 ⟨by simp [this], he⟩
def classOf (m u g cu cg : Int) (l : List Int) : Int :=
  if cu = u then (IntKind.i64.wrap (m.tdiv 64)).tmod 8 else if cg = g ∨ g ∈ l then (IntKind.i64.wrap (m.tdiv 8)).tmod 8 else m.tmod 8
theorem class_spec {X : Hooks} (hX : freeX X) {h : H} {m u g s n : Int} {d : Bool} {cu cg : Int} {gs : Value} {l : List Int} (hI : Ints h gs l) (hs : small l) : Run (CX X 27 #[attrV m u g s n d, credV cu cg gs] h) fun v h' => v = .int .i64 (classOf m u g cu cg l) ∧ Ext h h' := by
  refine intoQ (tmps := #[attrV m u g s n d, credV cu cg gs, undef, undef, undef, undef, undef, undef, undef, undef, undef, undef, undef, undef, undef, undef, undef, undef, undef, undef, undef, undef, undef, undef, undef, undef, undef]) (hX _ (by decide) (by decide) (by decide) (by decide)) (by first | exact gcQ_ext | exact gcQ_eq | exact gcQ_ex) (by kernel_rfl) (by kernel_rfl) ?_
  rw [f27]
  refine run_box rfl fun b h1 he1 hb hb' hc => ?_
  refine run_box rfl fun b2 h2 he2 hb2 hb2' hc2 => ?_
  have hc1 := he2.some hc
  have a0 : ∀ (h : H), h[b]? = some (.cells (attrV m u g s n d).cells 23 .own) → ld h b (0 + 0) = some (.int .i64 m) := fun h hh => by rw [ld_of hh]; rfl
  have a1 : ld h2 b (0 + 1) = some (.int .i64 u) := by rw [ld_of hc1]; rfl
  have a2 : ld h2 b (0 + 2) = some (.int .i64 g) := by rw [ld_of hc1]; rfl
  have c0 : ld h2 b2 (0 + 0) = some (.int .i64 cu) := by rw [ld_of hc2]; rfl
  have c3 : lda h2 b2 0 3 = some (credV cu cg gs) := by rw [lda_of hc2]; rfl
  simp only [fa_26_0, fa_23_0, fa_23_1, fa_23_2, l3, l26, bd1_eq, a0 h2 hc1, a1, a2, c0, c3, vB_eqi, vP_quo (show (64 : Int) ≠ 0 by decide), vP_rem (show (8 : Int) ≠ 0 by decide)]
  refine run_ifV (fun he1' => ?_) (fun hne => ?_)
  · have : cu = u := by simpa using he1'
    exact run_some.2 ⟨by simp [classOf, this], he1.trans he2⟩
  · have hne' : ¬ cu = u := by simpa using hne
    refine run_bd2 ((member_spec hX (hI.ext (he1.trans he2)) hs).mono ?_)
    rintro v h3 ⟨rfl, he3⟩
    simp only [a0 h3 (he3.some hc1), bd1_eq, vP_quo (show (8 : Int) ≠ 0 by decide), vP_rem (show (8 : Int) ≠ 0 by decide)]
    refine run_ifV (fun hm => ?_) (fun hm => ?_)
    · have : cg = g ∨ g ∈ l := by simpa using hm
      exact run_some.2 ⟨by simp [classOf, hne', this], (he1.trans he2).trans he3⟩
    · have : ¬ (cg = g ∨ g ∈ l) := by simpa using hm
      exact run_some.2 ⟨by simp [classOf, hne', this], (he1.trans he2).trans he3⟩

theorem rmem_loop {X : Hooks} (hX : freeX X) {h : H} {gs : Value} {l : List Int} {x : Int} {b : Nat} {cu cg : Int} (hI : Ints h gs l) (hs : small l) (hb : h[b]? = some (.cells (credV cu cg gs).cells 26 .own)) :
    ∀ (m i : Nat), i + m = l.length → x ∉ l.take i → ∀ (v0 v3 v4 v6 v7 v8 v9 v10 v11 v12 v13 v14 v15 v16 v17 v18 v19 v20 v21 v22 v23 : Value),
    Run (kCode P (CX X) (codeAt (bodyOf P 28) [1, 1, 0, 1, 0]) ⟨#[v0, .int .i64 x, .pointer (some ⟨b, 0, none⟩), v3, v4, .int .i64 i, v6, v7, v8, v9, v10, v11, v12, v13, v14, v15, v16, v17, v18, v19, v20, v21, v22, v23], []⟩ h (kPath P (CX X) (bodyOf P 28) [1, 1, 0, 1, 0] (kEnd P 28)))
      fun v h' => v = .bool (decide (x ∈ l)) ∧ h' = h
  | m, i, hm, hx, v0, v3, v4, v6, v7, v8, v9, v10, v11, v12, v13, v14, v15, v16, v17, v18, v19, v20, v21, v22, v23 => by
    obtain ⟨a, c, hgs⟩ := hI.len
    have hl : ld h b (0 + 2) = some gs := by rw [ld_of hb]; rfl
    refine run_loop f28_l11010_eq ?_
    rw [f28_l11010, fa_26_2, bd1_eq, l24, hl, bd1_eq, hgs, len24, bd1_eq, vP_lss, bd1_eq, ← hgs]
    refine run_ifV (fun hlt => ?_) (fun hlt => ?_)
    · have hlt' : (i : Int) < l.length := by simpa using hlt
      rw [bd1_eq, l24, hl, bd1_eq]
      match m, hm with
      | 0, hm => omega
      | m + 1, hm =>
        rcases hI with ⟨_, c, rfl, rfl⟩ | ⟨b', o, c, cs, T, k, rfl, h2, h3⟩
        · simp at hm
        · obtain ⟨y, hy⟩ : ∃ y, l[i]? = some y := ⟨l[i], List.getElem?_eq_getElem (by omega)⟩
          rw [ia24 (by omega) (by omega), bd1_eq, l3, ld_of h2]
          rw [show o + (i : Int).toNat * 1 = o + i by omega, h3 i y hy, bd1_eq, vB_eqi, bd1_eq]
          refine run_ifV (fun he => ?_) (fun hne => ?_)
          · rw [f28_l11010_R]
            have : y = x := by simpa using he
            subst this
            exact run_some.2 ⟨by simp [List.mem_of_getElem? hy], rfl⟩
          · rw [vP_add, bd1_eq]
            have hw : IntKind.i64.wrap ((i : Int) + 1) = ((i + 1 : Nat) : Int) := by
              unfold small at hs
              rw [IntWalk.i64_in _ (by omega)]; omega
            rw [hw]
            refine rmem_loop hX (.inr ⟨b', o, c, cs, T, k, rfl, h2, h3⟩) hs hb m (i + 1) (by omega) ?_ _ _ _ _ _ _ _ _ _ _ _ _ _ _ _ _ _ _ _ _ _
            rw [List.take_add_one, hy]
            have : ¬ y = x := by simpa using hne
            simp [hx, Ne.symm this]
    · rw [f28_l11010_E0]
      have hlt' : ¬ (i : Int) < l.length := by simpa using hlt
      rw [List.take_of_length_le (by omega)] at hx
      exact run_some.2 ⟨by simp [hx], rfl⟩
  termination_by m => m
theorem rmember_spec {X : Hooks} (hX : freeX X) {h : H} {cu cg g : Int} {gs : Value} {l : List Int} (hI : Ints h gs l) (hs : small l) : Run (CX X 28 #[credV cu cg gs, .int .i64 g] h) fun v h' => v = .bool (decide (cg = g ∨ g ∈ l)) ∧ Ext h h' := by
  refine intoQ (tmps := #[credV cu cg gs, .int .i64 g, undef, undef, undef, undef, undef, undef, undef, undef, undef, undef, undef, undef, undef, undef, undef, undef, undef, undef, undef, undef, undef, undef]) (hX _ (by decide) (by decide) (by decide) (by decide)) (by first | exact gcQ_ext | exact gcQ_eq | exact gcQ_ex) (by kernel_rfl) (by kernel_rfl) ?_
  rw [f28]
  refine run_box rfl fun b h1 he hb hb' hc => ?_
  rw [fa_26_1, bd1_eq, l3, ld_of hc, show (credV cu cg gs).cells[0 + 1]? = some (.int .i64 cg) from rfl, bd1_eq, vB_eqi, bd1_eq]
  refine run_ifV (fun he1 => ?_) (fun hne => ?_)
  · have : cg = g := by simpa using he1
    exact run_some.2 ⟨by simp [this], he⟩
  · have : ¬ cg = g := by simpa using hne
    refine (rmem_loop hX (hI.ext he) hs hc l.length 0 (by omega) (by simp) _ _ _ _ _ _ _ _ _ _ _ _ _ _ _ _ _ _ _ _ _).mono ?_
    rintro v h' ⟨rfl, rfl⟩
    exact ⟨by simp [this], he⟩
/-- The masked attributes' cells, as the box holds them. -/
def G0 (h : H) : Prop := h[0]? = some (.cells bitsCells 65 .ro)
theorem veqc_int (k : IntKind) (x : Int) : veqc (.int k x) (.int k x) = true := by simp [veqc]
theorem veqc_bool (x : Bool) : veqc (.bool x) (.bool x) = true := by simp [veqc]
theorem veq_int (k : IntKind) (x : Int) : veq (.int k x) (.int k x) = true := by simp [veq, veqc]
theorem veq_bool (x : Bool) : veq (.bool x) (.bool x) = true := by simp [veq, veqc]
theorem veq_attr {m u g s n : Int} {d : Bool} : veq (attrV m u g s n d) (attrV m u g s n d) = true := by simp [veq, attrV, veqs, veqc]
theorem veq_cred {h : H} {u g : Int} {gs : Value} {l : List Int} (hI : Ints h gs l) : veq (credV u g gs) (credV u g gs) = true := by
  obtain ⟨a, c, rfl⟩ := hI.len
  simp [veq, credV, veqs, veqc]
structure AllowedAt (h0 : H) (m u g s n : Int) (d : Bool) (cu cg : Int) (gs : Value) (l : List Int) (b3 b4 : Nat) (h : H) : Prop where
  ext : Ext h0 h
  b3 : h[b3]? = some (.cells (attrV m u g s n d).cells 23 .own)
  b4 : h[b4]? = some (.cells (credV cu cg gs).cells 26 .own)
  ints : Ints h gs l
theorem AllowedAt.up {h0 : H} {m u g s n : Int} {d : Bool} {cu cg : Int} {gs : Value} {l : List Int} {b3 b4 : Nat} {h h' : H} (hA : AllowedAt h0 m u g s n d cu cg gs l b3 b4 h) (he : Ext h h') : AllowedAt h0 m u g s n d cu cg gs l b3 b4 h' :=
  ⟨hA.ext.trans he, he.some hA.b3, he.some hA.b4, hA.ints.ext he⟩
def LoopOk (X : Hooks) (h0 : H) (m u g s n : Int) (d : Bool) (cu cg : Int) (gs : Value) (l : List Int) (b3 b4 : Nat) (w : Int) (Q : Value → H → Prop) (i p : Int) : Prop :=
  ∀ (h : H) (v0 v1 v5 v6 v8 v9 v10 v11 v12 v13 v14 v15 v16 v17 v18 v19 v22 v23 v24 v25 v26 v27 v28 v29 v30 v31 v32 v33 v34 v35 v36 v37 v38 v39 v40 v41 v42 v43 v44 v45 v46 v47 v48 v49 v50 v51 v52 : Value), AllowedAt h0 m u g s n d cu cg gs l b3 b4 h →
    Run (kCode P (CX X) (codeAt (bodyOf P 9) [1, 1, 1, 1, 0, 1, 0]) ⟨#[v0, v1, .int .i64 w, .pointer (some ⟨b3, 0, none⟩), .pointer (some ⟨b4, 0, none⟩), v5, v6, .int .i64 p, v8, v9, v10, v11, v12, v13, v14, v15, v16, v17, v18, v19, .agg bitsCells, .int .i64 i, v22, v23, v24, v25, v26, v27, v28, v29, v30, v31, v32, v33, v34, v35, v36, v37, v38, v39, v40, v41, v42, v43, v44, v45, v46, v47, v48, v49, v50, v51, v52], []⟩ h (kPath P (CX X) (bodyOf P 9) [1, 1, 1, 1, 0, 1, 0] (kEnd P 9))) Q
section
variable {h0 : H} {m u g s n : Int} {d : Bool} {cu cg : Int} {gs : Value} {l : List Int} {b3 b4 : Nat} {w : Int} {Q : Value → H → Prop}
theorem loop_round {X : Hooks} (hX : freeX X) (hs : small l) {i p per acc : Int} (hi : i < 3) (hi1 : IntKind.i64.wrap (i + 1) = i + 1) (hix : vP P (.index 65 (.const (.agg bitsCells)) (.const (.int .i64 i))) 64 = some (.agg #[.int .i64 per, .int .i64 acc]))
    (hn : LoopOk X h0 m u g s n d cu cg gs l b3 b4 w Q (i + 1) (step1 (classOf m u g cu cg l) p acc per)) : LoopOk X h0 m u g s n d cu cg gs l b3 b4 w Q i p := by
  intro h v0 v1 v5 v6 v8 v9 v10 v11 v12 v13 v14 v15 v16 v17 v18 v19 v22 v23 v24 v25 v26 v27 v28 v29 v30 v31 v32 v33 v34 v35 v36 v37 v38 v39 v40 v41 v42 v43 v44 v45 v46 v47 v48 v49 v50 v51 v52 hA
  refine run_loop f9_l1111010_eq ?_
  rw [f9_l1111010, vP_lss, bd1_eq]
  refine run_ifV (fun _ => ?_) (fun hlt => by simp at hlt; omega)
  rw [hix, bd1_eq]
  refine run_alloc al64 fun b9 h1 he1 hb9 hb9' hc9 => ?_
  rw [vE_store (n := 2) (by kernel_rfl) (by kernel_rfl) rfl rfl hc9 (by decide) rfl (by decide), bd2_eq]
  have he2 : Ext h (h1.setIfInBounds b9 (.cells (putL #[.int .i64 0, .int .i64 0] 0 (Value.agg #[.int .i64 per, .int .i64 acc]).cells.toList) 64 .own)) := he1.set hb9 _
  have hc2 : (h1.setIfInBounds b9 (.cells (putL #[.int .i64 0, .int .i64 0] 0 (Value.agg #[.int .i64 per, .int .i64 acc]).cells.toList) 64 .own))[b9]? = some (.cells #[.int .i64 per, .int .i64 acc] 64 .own) := by rw [get_set hb9']; rfl
  generalize h1.setIfInBounds b9 (.cells (putL #[.int .i64 0, .int .i64 0] 0 (Value.agg #[.int .i64 per, .int .i64 acc]).cells.toList) 64 .own) = h2 at he2 hc2 ⊢
  have hA2 := hA.up he2
  have c3 : lda h2 b3 0 6 = some (attrV m u g s n d) := by rw [lda_of hA2.b3]; rfl
  have c4 : lda h2 b4 0 3 = some (credV cu cg gs) := by rw [lda_of hA2.b4]; rfl
  have d0 : ∀ (h : H), h[b9]? = some (.cells #[.int .i64 per, .int .i64 acc] 64 .own) → ld h b9 (0 + 0) = some (.int .i64 per) := fun h hh => by rw [ld_of hh]; rfl
  have d1 : ∀ (h : H), h[b9]? = some (.cells #[.int .i64 per, .int .i64 acc] 64 .own) → ld h b9 (0 + 1) = some (.int .i64 acc) := fun h hh => by rw [ld_of hh]; rfl
  simp only [l23, l26, c3, c4, bd1_eq, same_eq veq_attr, same_eq (veq_cred hA2.ints)]
  refine run_bd2 ((class_spec hX hA2.ints hs).mono ?_)
  rintro v h3 ⟨rfl, he3⟩
  have hc3 := he3.some hc2
  simp only [fa_64_0, fa_64_1, bd1_eq, l3, d0 h2 hc2, d0 h3 hc3, d1 h3 hc3, same_eq (veq_int _ _), vP_and, vB_nei, same_eq (veq_bool _), vP_or, vP_add]
  refine run_ifV (fun hne => ?_) (fun he => ?_)
  · have : ¬ iand .i64 (classOf m u g cu cg l) per = 0 := by simpa using hne
    rw [hi1]
    have e : step1 (classOf m u g cu cg l) p acc per = ior .i64 p acc := by simp [step1, this]
    rw [e] at hn
    exact hn h3 _ _ _ _ _ _ _ _ _ _ _ _ _ _ _ _ _ _ _ _ _ _ _ _ _ _ _ _ _ _ _ _ _ _ _ _ _ _ _ _ _ _ _ _ _ _ _ (hA2.up he3)
  · have : iand .i64 (classOf m u g cu cg l) per = 0 := by simpa using he
    rw [hi1]
    have e : step1 (classOf m u g cu cg l) p acc per = p := by simp [step1, this]
    rw [e] at hn
    exact hn h3 _ _ _ _ _ _ _ _ _ _ _ _ _ _ _ _ _ _ _ _ _ _ _ _ _ _ _ _ _ _ _ _ _ _ _ _ _ _ _ _ _ _ _ _ _ _ _ (hA2.up he3)
def refAl (m u g : Int) (d : Bool) (cu cg : Int) (l : List Int) (w : Int) : Bool :=
  if w < 0 ∨ 7 < w then false else
  if cu = 0 then iand .i64 w 4 == 0 || (d || iand .i64 m 73 != 0) else
  bitsOk w (if cu = u then m / 64 % 8 else if cg = g ∨ g ∈ l then m / 8 % 8 else m % 8)
theorem classOf_range (m u g cu cg : Int) (l : List Int) : classOf (m % 4096) u g cu cg l = (if cu = u then m / 64 % 8 else if cg = g ∨ g ∈ l then m / 8 % 8 else m % 8) := by
  have h0 : 0 ≤ m % 4096 := Int.emod_nonneg _ (by decide)
  have h1 : m % 4096 < 4096 := Int.emod_lt_of_pos _ (by decide)
  unfold classOf
  rw [IntWalk.i64_quo _ _ (by omega), IntWalk.i64_quo _ _ (by omega)]
  rw [Int.tmod_eq_emod_of_nonneg (by omega), Int.tmod_eq_emod_of_nonneg (by omega), Int.tmod_eq_emod_of_nonneg (by omega)]
  split
  · omega
  · split <;> omega
theorem loop_end {X : Hooks} (hX : freeX X) (hw : 0 ≤ w ∧ w ≤ 7) : LoopOk X h0 (m % 4096) u g s n d cu cg gs l b3 b4 w (fun v h' => v = .bool (refAl m u g d cu cg l w) ∧ Ext h0 h') 3 (permOf (classOf (m % 4096) u g cu cg l)) := by
  intro h v0 v1 v5 v6 v8 v9 v10 v11 v12 v13 v14 v15 v16 v17 v18 v19 v22 v23 v24 v25 v26 v27 v28 v29 v30 v31 v32 v33 v34 v35 v36 v37 v38 v39 v40 v41 v42 v43 v44 v45 v46 v47 v48 v49 v50 v51 v52 hA
  have hnw : ¬ (w < 0 ∨ 7 < w) := by omega
  refine run_loop f9_l1111010_eq ?_
  rw [f9_l1111010, vP_lss, bd1_eq]
  refine run_ifV (fun hlt => by simp at hlt) (fun _ => ?_)
  rw [f9_l1111010_E0]
  have a0 : ld h b3 (0 + 0) = some (.int .i64 (m % 4096)) := by rw [ld_of hA.b3]; rfl
  have a5 : ld h b3 (0 + 5) = some (.bool d) := by rw [ld_of hA.b3]; rfl
  have c0 : ld h b4 (0 + 0) = some (.int .i64 cu) := by rw [ld_of hA.b4]; rfl
  simp only [fa_26_0, fa_23_0, fa_23_5, l3, l4, a0, a5, c0, bd1_eq, vB_eqi, vB_nei, vP_and, vP_or, vP_andNot]
  refine run_ifV (fun hz => ?_) (fun hz => ?_)
  · have hz' : cu = 0 := by simpa using hz
    refine run_ifV (fun hd => ?_) (fun hd => ?_)
    · refine run_some.2 ⟨?_, hA.ext⟩
      rw [root_ok' w hw]
      simp [refAl, hnw, hz', hd]
    · refine run_ifV (fun hm => ?_) (fun hm => ?_)
      · refine run_some.2 ⟨?_, hA.ext⟩
        rw [root_ok' w hw]
        rw [and_73] at hm
        simp only [refAl, hnw, hz', hd, hm, if_false, if_true, Bool.or_true]
      · refine run_some.2 ⟨?_, hA.ext⟩
        rw [root_not' w hw]
        rw [and_73] at hm
        simp only [refAl, hnw, hz', hd, hm, if_false, if_true, Bool.or_false]
  · have hz' : ¬ cu = 0 := by simpa using hz
    refine run_some.2 ⟨?_, hA.ext⟩
    have hr : 0 ≤ classOf (m % 4096) u g cu cg l ∧ classOf (m % 4096) u g cu cg l ≤ 7 := by
      rw [classOf_range]
      split
      · omega
      · split <;> omega
    rw [bits_perm' w _ hw hr, classOf_range]
    simp only [refAl, hnw, hz', if_false]
end
theorem allowed_spec {X : Hooks} (hX : freeX X) {h : H} {m u g s n : Int} {d : Bool} {cu cg w : Int} {gs : Value} {l : List Int} (hG : G0 h) (hI : Ints h gs l) (hs : small l) :
    Run (CX X 9 #[attrV m u g s n d, credV cu cg gs, .int .i64 w] h) fun v h' => v = .bool (refAl m u g d cu cg l w) ∧ Ext h h' := by
  refine intoQ (tmps := #[attrV m u g s n d, credV cu cg gs, .int .i64 w, undef, undef, undef, undef, undef, undef, undef, undef, undef, undef, undef, undef, undef, undef, undef, undef, undef, undef, undef, undef, undef, undef, undef, undef, undef, undef, undef, undef, undef, undef, undef, undef, undef, undef, undef, undef, undef, undef, undef, undef, undef, undef, undef, undef, undef, undef, undef, undef, undef, undef]) (hX _ (by decide) (by decide) (by decide) (by decide)) (by first | exact gcQ_ext | exact gcQ_eq | exact gcQ_ex) (by kernel_rfl) (by kernel_rfl) ?_
  rw [f9]
  refine run_box rfl fun b3 h1 he1 hb3 hb3' hc3 => ?_
  refine run_box rfl fun b4 h2 he2 hb4 hb4' hc4 => ?_
  have hE := he1.trans he2
  rw [vP_lss, bd1_eq]
  refine run_ifV (fun hlt => ?_) (fun hlt => ?_)
  · have : w < 0 := by simpa using hlt
    exact run_some.2 ⟨by simp [refAl, this], hE⟩
  · have h0 : ¬ w < 0 := by simpa using hlt
    rw [vP_gtr, bd1_eq]
    refine run_ifV (fun hlt => ?_) (fun hlt => ?_)
    · have : 7 < w := by simpa using hlt
      exact run_some.2 ⟨by simp [refAl, this], hE⟩
    · have h7 : ¬ 7 < w := by simpa using hlt
      have hc3' := he2.some hc3
      have a0 : ld h2 b3 (0 + 0) = some (.int .i64 m) := by rw [ld_of hc3']; rfl
      simp only [fa_23_0, bd1_eq, l3, a0, vP_and]
      rw [vE_store (n := 1) (by kernel_rfl) (by kernel_rfl) rfl rfl hc3' (by decide) rfl (show 0 + 0 + 1 ≤ 6 by decide), bd2_eq]
      have hA : AllowedAt h (m % 4096) u g s n d cu cg gs l b3 b4 (h2.setIfInBounds b3 (.cells (putL (attrV m u g s n d).cells (0 + 0) (Value.int .i64 (iand .i64 m 4095)).cells.toList) 23 .own)) := by
        refine ⟨hE.set hb3 _, ?_, ?_, ?_⟩
        · rw [get_set (Nat.lt_of_lt_of_le hb3' he2.size), and_4095]; rfl
        · rw [get_set_ne (by omega)]; exact hc4
        · exact hI.ext (hE.set hb3 _)
      have hg : lda (h2.setIfInBounds b3 (.cells (putL (attrV m u g s n d).cells (0 + 0) (Value.int .i64 (iand .i64 m 4095)).cells.toList) 23 .own)) 0 0 6 = some (.agg bitsCells) := by
        have h0' : (0 : Nat) < h.size := (Array.getElem?_eq_some_iff.1 hG).1
        rw [lda_of (Ext.some (hE.set hb3 _) hG)]; rfl
      rw [l65, hg, bd1_eq]
      refine loop_round (i := 0) hX hs (by decide) (by decide) ix65_0 ?_ _ _ _ _ _ _ _ _ _ _ _ _ _ _ _ _ _ _ _ _ _ _ _ _ _ _ _ _ _ _ _ _ _ _ _ _ _ _ _ _ _ _ _ _ _ _ _ _ hA
      refine loop_round (i := 0 + 1) hX hs (by decide) (by decide) ix65_1 ?_
      refine loop_round (i := 0 + 1 + 1) hX hs (by decide) (by decide) ix65_2 ?_
      exact loop_end hX (by omega)

theorem rallowed_spec {X : Hooks} (hX : freeX X) {h : H} {m u g s n : Int} {d : Bool} {cu cg w : Int} {gs : Value} {l : List Int} (hI : Ints h gs l) (hs : small l) :
    Run (CX X 10 #[attrV m u g s n d, credV cu cg gs, .int .i64 w] h) fun v h' => v = .bool (refAl m u g d cu cg l w) ∧ Ext h h' := by
  refine intoQ (tmps := #[attrV m u g s n d, credV cu cg gs, .int .i64 w, undef, undef, undef, undef, undef, undef, undef, undef, undef, undef, undef, undef, undef, undef, undef, undef, undef, undef, undef, undef, undef, undef, undef, undef, undef, undef, undef, undef, undef, undef, undef, undef, undef, undef, undef, undef, undef, undef, undef, undef, undef, undef, undef, undef, undef, undef, undef, undef, undef, undef, undef, undef, undef, undef, undef, undef, undef, undef, undef, undef, undef, undef, undef, undef, undef, undef, undef, undef, undef, undef, undef, undef, undef, undef, undef]) (hX _ (by decide) (by decide) (by decide) (by decide)) (by first | exact gcQ_ext | exact gcQ_eq | exact gcQ_ex) (by kernel_rfl) (by kernel_rfl) ?_
  rw [f10]
  refine run_box rfl fun b3 h1 he1 hb3 hb3' hc3 => ?_
  refine run_box rfl fun b4 h2 he2 hb4 hb4' hc4 => ?_
  have hE := he1.trans he2
  have hc3' := he2.some hc3
  have a0 : ∀ h : H, h[b3]? = some (.cells (attrV m u g s n d).cells 30 .own) → ld h b3 (0 + 0) = some (.int .i64 m) := fun h hh => by rw [ld_of hh]; rfl
  have a1 : ld h2 b3 (0 + 1) = some (.int .i64 u) := by rw [ld_of hc3']; rfl
  have a2 : ld h2 b3 (0 + 2) = some (.int .i64 g) := by rw [ld_of hc3']; rfl
  have a5 : ld h2 b3 (0 + 5) = some (.bool d) := by rw [ld_of hc3']; rfl
  have c0 : ld h2 b4 (0 + 0) = some (.int .i64 cu) := by rw [ld_of hc4]; rfl
  have c3 : lda h2 b4 0 3 = some (credV cu cg gs) := by rw [lda_of hc4]; rfl
  rw [vP_lss, bd1_eq]
  refine run_ifV (fun hlt => ?_) (fun hlt => ?_)
  · have : w < 0 := by simpa using hlt
    exact run_some.2 ⟨by simp [refAl, this], hE⟩
  · have h0 : ¬ w < 0 := by simpa using hlt
    rw [vP_gtr, bd1_eq]
    refine run_ifV (fun hlt => ?_) (fun hlt => ?_)
    · have : 7 < w := by simpa using hlt
      exact run_some.2 ⟨by simp [refAl, this], hE⟩
    · have h7 : ¬ 7 < w := by simpa using hlt
      have hnw : ¬ (w < 0 ∨ 7 < w) := by omega
      have s6 : ¬ (6 : Int) < 0 := by decide
      have s3 : ¬ (3 : Int) < 0 := by decide
      have e6 : m.fdiv (2 ^ (min (6 : Int).toNat IntKind.i64.bits)) % 8 = m / 64 % 8 := by
        show m.fdiv 64 % 8 = _
        rw [Int.fdiv_eq_ediv_of_nonneg _ (by decide)]
      have e3 : m.fdiv (2 ^ (min (3 : Int).toNat IntKind.i64.bits)) % 8 = m / 8 % 8 := by
        show m.fdiv 8 % 8 = _
        rw [Int.fdiv_eq_ediv_of_nonneg _ (by decide)]
      simp only [fa_26_0, fa_30_0, fa_30_1, fa_30_2, fa_30_5, bd1_eq, l3, l4, l26, a0 h2 hc3', a1, a2, a5, c0, c3, vB_eqi, vB_nei, vP_and, and_7, vP_shr s6, vP_shr s3, e6]
      refine run_ifV (fun hz => ?_) (fun hz => ?_)
      · have hz' : cu = 0 := by simpa using hz
        have hR : refAl m u g d cu cg l w = (iand .i64 w 4 == 0 || (d || iand .i64 m 73 != 0)) := by simp only [refAl, hnw, hz', if_false, if_true]
        rw [hR]
        refine run_ifV (fun h4 => run_some.2 ⟨by simp [h4], hE⟩) (fun h4 => ?_)
        refine run_ifV (fun hd => run_some.2 ⟨by simp [hd], hE⟩) (fun hd => run_some.2 ⟨by simp [h4, hd], hE⟩)
      · have hz' : ¬ cu = 0 := by simpa using hz
        have hR : refAl m u g d cu cg l w = bitsOk w (if cu = u then m / 64 % 8 else if cg = g ∨ g ∈ l then m / 8 % 8 else m % 8) := by simp only [refAl, hnw, hz', if_false]
        rw [hR]
        refine run_ifV (fun hu => ?_) (fun hu => ?_)
        · have hu' : cu = u := by simpa using hu
          rw [if_pos hu']
          clear hR
          unfold bitsOk
          generalize (iand .i64 w 1 == 0) = A1
          generalize (iand .i64 w 2 == 0) = A2
          generalize (iand .i64 w 4 == 0) = A4
          generalize (iand .i64 (m / 64 % 8) 1 != 0) = B1
          generalize (iand .i64 (m / 64 % 8) 2 != 0) = B2
          generalize (iand .i64 (m / 64 % 8) 4 != 0) = B4
          cases A1 <;> cases A2 <;> cases A4 <;> cases B1 <;> cases B2 <;> cases B4 <;> exact run_some.2 ⟨rfl, hE⟩
        · have hu' : ¬ cu = u := by simpa using hu
          rw [if_neg hu']
          refine run_bd2 ((rmember_spec hX (hI.ext hE) hs).mono ?_)
          rintro v h3 ⟨rfl, he3⟩
          have hE3 := hE.trans he3
          simp only [bd1_eq, a0 h3 (he3.some hc3'), vP_and, and_7, vP_shr s3, e3, vB_eqi, vB_nei]
          refine run_ifV (fun hm => ?_) (fun hm => ?_)
          · have hm' : cg = g ∨ g ∈ l := by simpa using hm
            rw [if_pos hm']
            clear hm
            clear hR
            unfold bitsOk
            generalize (iand .i64 w 1 == 0) = A1
            generalize (iand .i64 w 2 == 0) = A2
            generalize (iand .i64 w 4 == 0) = A4
            generalize (iand .i64 (m / 8 % 8) 1 != 0) = B1
            generalize (iand .i64 (m / 8 % 8) 2 != 0) = B2
            generalize (iand .i64 (m / 8 % 8) 4 != 0) = B4
            cases A1 <;> cases A2 <;> cases A4 <;> cases B1 <;> cases B2 <;> cases B4 <;> exact run_some.2 ⟨rfl, hE3⟩
          · have hm' : ¬ (cg = g ∨ g ∈ l) := by simpa using hm
            rw [if_neg hm']
            clear hm
            clear hR
            unfold bitsOk
            generalize (iand .i64 w 1 == 0) = A1
            generalize (iand .i64 w 2 == 0) = A2
            generalize (iand .i64 w 4 == 0) = A4
            generalize (iand .i64 (m % 8) 1 != 0) = B1
            generalize (iand .i64 (m % 8) 2 != 0) = B2
            generalize (iand .i64 (m % 8) 4 != 0) = B4
            cases A1 <;> cases A2 <;> cases A4 <;> cases B1 <;> cases B2 <;> cases B4 <;> exact run_some.2 ⟨rfl, hE3⟩
theorem eq_of_run {X : Hooks} {f : FuncId} {args : Array Value} {h : H} {v0 : Value} (hX : X f = none) (hn : nu20 f = true) (hv : af v0 = true) (hr : Run (CX X f args h) fun v h' => v = v0 ∧ Ext h h') : CX X f args h = some (v0, h) := by
  obtain ⟨v, h', h1, rfl, h2⟩ := hr
  rw [neutral_eq hX hn hv h1 h2] at h1
  exact h1
def crV (c : Go.Tab20.Cr) (gs : Value) : Value := credV c.u c.g gs
theorem member_eq {X : Hooks} (hX : freeX X) {h : H} {c : Go.Tab20.Cr} {g : Int} {gs : Value} (hI : Ints h gs c.gs) (hs : small c.gs) : CX X 65 #[crV c gs, .int .i64 g] h = some (.bool (Go.Tab20.inGroup c g), h) :=
  eq_of_run (hX _ (by decide) (by decide) (by decide) (by decide)) (by decide) rfl (member_spec hX hI hs)
theorem rmember_eq {X : Hooks} (hX : freeX X) {h : H} {c : Go.Tab20.Cr} {g : Int} {gs : Value} (hI : Ints h gs c.gs) (hs : small c.gs) : CX X 28 #[crV c gs, .int .i64 g] h = some (.bool (Go.Tab20.inGroup c g), h) :=
  eq_of_run (hX _ (by decide) (by decide) (by decide) (by decide)) (by decide) rfl (rmember_spec hX hI hs)
def allowedT (a : Go.Tab20.At) (c : Go.Tab20.Cr) (w : Int) : Bool := refAl a.m a.u a.g a.d c.u c.g c.gs w
theorem allowed_eq {X : Hooks} (hX : freeX X) {h : H} {a : Go.Tab20.At} {c : Go.Tab20.Cr} {w : Int} {gs : Value} (hG : G0 h) (hI : Ints h gs c.gs) (hs : small c.gs) : CX X 9 #[.agg (atC a), crV c gs, .int .i64 w] h = some (.bool (allowedT a c w), h) :=
  eq_of_run (hX _ (by decide) (by decide) (by decide) (by decide)) (by decide) rfl (allowed_spec hX hG hI hs)
theorem rallowed_eq {X : Hooks} (hX : freeX X) {h : H} {a : Go.Tab20.At} {c : Go.Tab20.Cr} {w : Int} {gs : Value} (hI : Ints h gs c.gs) (hs : small c.gs) : CX X 10 #[.agg (atC a), crV c gs, .int .i64 w] h = some (.bool (allowedT a c w), h) :=
  eq_of_run (hX _ (by decide) (by decide) (by decide) (by decide)) (by decide) rfl (rallowed_spec hX hI hs)
end Go.Proofs.YtfmikgbachnneaaDoor
