/- Regions that draw their order. -/
import Derived.Test.YtfmikgbachnneaaDoorAm7
set_option linter.unusedSimpArgs false
set_option linter.unusedVariables false
namespace Go.Am

def depOf (ops : Array Oper) (i k : Nat) : Prop := ∃ o, ops[i]? = some o ∧ ∃ e ∈ o.after, Region.binds .any e = true ∧ e.on = k
inductive Anc (ops : Array Oper) : Nat → Nat → Prop where
  | base (i k : Nat) (h : depOf ops i k) : Anc ops i k
  | step (i k j : Nat) (h : depOf ops i k) (t : Anc ops k j) : Anc ops i j
theorem Anc.closed {ops : Array Oper} {D : Nat → Prop} (hD : ∀ i, D i → ∀ k, depOf ops i k → D k) {i j : Nat} (h : Anc ops i j) (hi : ∀ k, depOf ops i k → D k) : D j := by
  induction h with
  | base i k h => exact hi k h
  | step i k j h t ih => exact ih (hD k (hi k h))

theorem before_go (ops : Array Oper) : ∀ (l : List Oper) (acc : Array Nat), ops.toList.drop acc.size = l → (∀ i j, (acc.getD i 0).testBit j = true → Anc ops i j) →
    ∀ i j, ((l.foldl (fun acc o => acc.push (o.after.foldl (fun s e => if Region.binds .any e then s ||| 2 ^ e.on ||| acc.getD e.on 0 else s) 0)) acc).getD i 0).testBit j = true → Anc ops i j
  | [], acc, _, hg => hg
  | o :: l, acc, hl, hg => by
    simp only [List.foldl_cons]
    have hlt : acc.size < ops.size := by
      refine Classical.byContradiction fun hn => ?_
      rw [List.drop_eq_nil_of_le (by simpa using Nat.le_of_not_lt hn)] at hl; cases hl
    have ho : ops[acc.size]? = some o := by
      have h1 : (ops.toList.drop acc.size)[0]? = some o := by rw [hl]; rfl
      simpa using h1
    refine before_go ops l _ ?_ ?_
    · rw [Array.size_push, ← List.drop_drop, hl]; rfl
    · intro i j hb
      rw [Array.getD_eq_getD_getElem?, Array.getElem?_push] at hb
      split at hb
      · rename_i hi
        subst hi
        simp only [Option.getD_some] at hb
        rw [← Array.foldl_toList] at hb
        have key : ∀ (es : List Edge), (∀ e ∈ es, e ∈ o.after) → ∀ s : Nat, (∀ j, s.testBit j = true → Anc ops acc.size j) → ∀ j, (es.foldl (fun s e => if Region.binds .any e then s ||| 2 ^ e.on ||| acc.getD e.on 0 else s) s).testBit j = true → Anc ops acc.size j := by
          intro es
          induction es with
          | nil => intro _ s hs; exact hs
          | cons e es ih =>
            intro hes s hs
            simp only [List.foldl_cons]
            refine ih (fun x hx => hes x (by simp [hx])) _ ?_
            intro j hj
            split at hj
            · rename_i hbind
              have hdep : depOf ops acc.size e.on := ⟨o, ho, e, hes e (by simp), hbind, rfl⟩
              rw [Nat.testBit_or, Nat.testBit_or, Bool.or_eq_true, Bool.or_eq_true] at hj
              rcases hj with (hj | hj) | hj
              · exact hs j hj
              · rw [Nat.testBit_two_pow] at hj
                have : e.on = j := by simpa using hj
                exact this ▸ .base _ _ hdep
              · exact .step _ _ _ hdep (hg _ _ hj)
            · exact hs j hj
        exact key o.after.toList (fun e he => by simpa using he) 0 (by simp) j hb
      · rw [← Array.getD_eq_getD_getElem?] at hb
        exact hg i j hb

theorem before_anc {ops : Array Oper} {i j : Nat} (h : ((Region.before ops).getD i 0).testBit j = true) : Anc ops i j := by
  unfold Region.before at h
  rw [← Array.foldl_toList] at h
  exact before_go ops ops.toList #[] (by simp) (by simp) i j h

theorem cls_cases (P : Program) (o : Oper) : cls P o = 0 ∨ cls P o = 1 ∨ cls P o = 2 := by
  unfold cls
  repeat' split
  all_goals simp
theorem evOp_heap {P : Program} {call : CallF} {o : Oper} {ρ : Operand → Value} {h h1 : H} {v : Value} (hc : cls P o ≠ 2) (he : evOp P call o ρ h = some (v, h1)) : h1 = h := by
  unfold evOp at he
  rcases cls_cases P o with h0 | h0 | h0
  · rw [h0] at he
    simp only [Option.map_eq_some_iff, Prod.mk.injEq] at he
    obtain ⟨_, _, _, rfl⟩ := he; rfl
  · rw [h0] at he
    simp only [Option.map_eq_some_iff, Prod.mk.injEq] at he
    obtain ⟨_, _, _, rfl⟩ := he; rfl
  · exact absurd h0 hc

theorem evTrace_spec {P : Program} {call : CallF} {ops : Array Oper} : ∀ (l : List Oper) (a : Act) (h : H) (rs : List Rec) (a1 : Act) (h1 : H), evTrace P call ops l a h = some (rs, a1, h1) →
    ∃ (A : Nat → Act) (Hh : Nat → H) (V : Nat → Value) (ran : Nat → Bool), A 0 = a ∧ Hh 0 = h ∧ A l.length = a1 ∧ Hh l.length = h1 ∧ rs.length = l.length ∧
      ∀ i o, l[i]? = some o → rs[i]? = some ⟨o, A i, Hh i, ran i, V i⟩ ∧ want ops o (A i).tmps = some (ran i) ∧ A (i + 1) = (A i).put o.dst (V i) ∧
        (ran i = true → evOp P call o (A i).eval (Hh i) = some (V i, Hh (i + 1))) ∧ (ran i = false → V i = undef ∧ Hh (i + 1) = Hh i)
  | [], a, h, rs, a1, h1, he => by
    simp only [evTrace, Option.some.injEq, Prod.mk.injEq] at he
    obtain ⟨rfl, rfl, rfl⟩ := he
    exact ⟨fun _ => a, fun _ => h, fun _ => undef, fun _ => false, rfl, rfl, rfl, rfl, rfl, by simp⟩
  | o :: l, a, h, rs, a1, h1, he => by
    simp only [evTrace] at he
    have build : ∀ (v : Value) (h' : H) (rn : Bool) (rs' : List Rec), want ops o a.tmps = some rn → (rn = true → evOp P call o a.eval h = some (v, h')) → (rn = false → v = undef ∧ h' = h) → evTrace P call ops l (a.put o.dst v) h' = some (rs', a1, h1) → rs = ⟨o, a, h, rn, v⟩ :: rs' →
        ∃ (A : Nat → Act) (Hh : Nat → H) (V : Nat → Value) (ran : Nat → Bool), A 0 = a ∧ Hh 0 = h ∧ A (o :: l).length = a1 ∧ Hh (o :: l).length = h1 ∧ rs.length = (o :: l).length ∧
          ∀ i o', (o :: l)[i]? = some o' → rs[i]? = some ⟨o', A i, Hh i, ran i, V i⟩ ∧ want ops o' (A i).tmps = some (ran i) ∧ A (i + 1) = (A i).put o'.dst (V i) ∧
            (ran i = true → evOp P call o' (A i).eval (Hh i) = some (V i, Hh (i + 1))) ∧ (ran i = false → V i = undef ∧ Hh (i + 1) = Hh i) := by
      intro v h' rn rs' hw h2 h3 htr hrs
      obtain ⟨A, Hh, V, ran, e0, e1, e2, e3, e4, e5⟩ := evTrace_spec l _ _ _ _ _ htr
      refine ⟨fun n => match n with | 0 => a | n + 1 => A n, fun n => match n with | 0 => h | n + 1 => Hh n, fun n => match n with | 0 => v | n + 1 => V n, fun n => match n with | 0 => rn | n + 1 => ran n, rfl, rfl, e2, e3, by rw [hrs]; simp [e4], ?_⟩
      intro i o' ho'
      cases i with
      | zero =>
        simp only [List.getElem?_cons_zero, Option.some.injEq] at ho'
        subst ho'
        refine ⟨by rw [hrs]; rfl, hw, ?_, fun hr => ?_, fun hr => ?_⟩
        · exact e0
        · show evOp P call o a.eval h = some (v, Hh 0)
          rw [e1]; exact h2 hr
        · show v = undef ∧ Hh 0 = h
          rw [e1]; exact h3 hr
      | succ i =>
        simp only [List.getElem?_cons_succ] at ho'
        obtain ⟨q1, q2⟩ := e5 i o' ho'
        exact ⟨by rw [hrs]; simpa using q1, q2⟩
    split at he
    · rename_i hw
      split at he
      · rename_i v h' hop
        cases htr : evTrace P call ops l (a.put o.dst v) h' with
        | none => rw [htr] at he; simp at he
        | some r =>
        obtain ⟨rs', a2, h2⟩ := r
        rw [htr] at he
        simp only [Option.map_some, Option.some.injEq, Prod.mk.injEq] at he
        obtain ⟨q1, q2, q3⟩ := he
        subst q2; subst q3
        exact build v h' true rs' hw (fun _ => hop) (by simp) htr q1.symm
      · cases he
    · rename_i hw
      cases htr : evTrace P call ops l (a.put o.dst undef) h with
      | none => rw [htr] at he; simp at he
      | some r =>
      obtain ⟨rs', a2, h2⟩ := r
      rw [htr] at he
      simp only [Option.map_some, Option.some.injEq, Prod.mk.injEq] at he
      obtain ⟨q1, q2, q3⟩ := he
      subst q2; subst q3
      exact build undef h false rs' hw (by simp) (fun _ => ⟨rfl, rfl⟩) htr q1.symm
    · cases he

theorem veqc_eq {a b : Value} (h : veqc a b = true) : a = b := by
  unfold veqc at h
  split at h <;> first
    | (rename_i x y; cases x; cases y; simp_all; done)
    | simp_all
theorem veqs_eq : ∀ {l m : List Value}, veqs l m = true → l = m
  | [], [], _ => rfl
  | [], _ :: _, h => by simp [veqs] at h
  | _ :: _, [], h => by simp [veqs] at h
  | a :: l, b :: m, h => by
    simp only [veqs, Bool.and_eq_true] at h
    rw [veqc_eq h.1, veqs_eq h.2]
theorem veq_eq {a b : Value} (h : veq a b = true) : a = b := by
  unfold veq at h
  split at h
  · rename_i x y; rw [Array.toList_inj.1 (veqs_eq h)]
  · rename_i x y; rw [Array.toList_inj.1 (veqs_eq h)]
  · exact veqc_eq h

/-! ### the theorem -/
theorem next_ae (P : Program) (ops : Array Oper) (n : Nat) : ∀ d p, p ≤ n → n - p = d → ∃ q, p ≤ q ∧ q ≤ n ∧ (q = n ∨ isAE P ops q = true) ∧ ∀ e, p ≤ e → e < q → isAE P ops e = false
  | 0, p, hp, hd => ⟨p, Nat.le_refl _, hp, .inl (by omega), fun e h1 h2 => by omega⟩
  | d + 1, p, hp, hd => by
    cases hb : isAE P ops p with
    | true => exact ⟨p, Nat.le_refl _, hp, .inr hb, fun e h1 h2 => by omega⟩
    | false =>
      obtain ⟨q, h1, h2, h3, h4⟩ := next_ae P ops n d (p + 1) (by omega) (by omega)
      exact ⟨q, by omega, h2, h3, fun e h5 h6 => by
        by_cases he : e = p
        · subst he; exact hb
        · exact h4 e (by omega) h6⟩

def mem (L : Array Bool) (i : Nat) : Prop := L.getD i false = true
theorem mem_set {L : Array Bool} {i j : Nat} (hi : i < L.size) : mem (L.setIfInBounds i true) j ↔ mem L j ∨ j = i := by
  unfold mem
  rw [Array.getD_eq_getD_getElem?, Array.getD_eq_getD_getElem?, Array.getElem?_setIfInBounds]
  by_cases h : i = j
  · subst h; simp [hi]
  · simp [h]; intro hh; exact absurd hh.symm h

theorem unl_set {L : Array Bool} {i : Nat} (hi : i < L.size) (hn : ¬ mem L i) : (L.setIfInBounds i true).toList.countP (· == false) + 1 = L.toList.countP (· == false) := by
  have h1 : L.toList[i]'(by simpa using hi) = false := by
    unfold mem at hn
    rw [Array.getD_eq_getD_getElem?, Array.getElem?_eq_getElem hi] at hn
    simpa using hn
  rw [Array.toList_setIfInBounds, List.countP_set (by simpa using hi), h1]
  have h2 : (true == false) = false := rfl
  have h3 : (false == false) = true := rfl
  rw [h2, h3, if_pos rfl, if_neg (by decide)]
  have : 0 < L.toList.countP (· == false) := List.countP_pos_iff.2 ⟨false, by rw [← h1]; exact List.getElem_mem _, rfl⟩
  omega

structure DrawCtx (P : Program) (call : CallF) (ops : Array Oper) (A : Nat → Act) (Hh : Nat → H) (V : Nat → Value) (ran : Nat → Bool) : Prop where
  want : ∀ i o, ops[i]? = some o → want ops o (A i).tmps = some (ran i)
  put : ∀ i o, ops[i]? = some o → A (i + 1) = (A i).put o.dst (V i)
  yes : ∀ i o, ops[i]? = some o → ran i = true → evOp P call o (A i).eval (Hh i) = some (V i, Hh (i + 1))
  no : ∀ i o, ops[i]? = some o → ran i = false → V i = undef ∧ Hh (i + 1) = Hh i
  low : ∀ i k, depOf ops i k → k < i
  ae : ∀ i j, i < j → j < ops.size → isAE P ops i = true → isAE P ops j = true → Anc ops j i
  one : ∀ i j t, i < j → j < ops.size → dstOf ops i = some t → dstOf ops j ≠ some t
  haz : ∀ i j t, i < ops.size → j < ops.size → i ≠ j → dstOf ops i = some t → t ∈ looks ops j → (i < j → Anc ops j i) ∧ (j < i → Anc ops i j)
  same : ∀ i o, ops[i]? = some o → ran i = true → cls P o = 1 → ∀ s, (s = ops.size ∨ isAE P ops s = true) → s ≤ ops.size → mayAt P ops (Region.before ops) i s = true → evRead P o (A i).eval (Hh s) = some (V i)

theorem DrawCtx.heap {P : Program} {call : CallF} {ops : Array Oper} {A : Nat → Act} {Hh : Nat → H} {V : Nat → Value} {ran : Nat → Bool} (C : DrawCtx P call ops A Hh V ran) : ∀ d p q, q - p = d → p ≤ q → q ≤ ops.size → (∀ e, p ≤ e → e < q → isAE P ops e = false) → Hh q = Hh p
  | 0, p, q, hd, hp, _, _ => by rw [show q = p by omega]
  | d + 1, p, q, hd, hp, hq, hn => by
    have h1 := C.heap d p (q - 1) (by omega) (by omega) (by omega) (fun e h1 h2 => hn e h1 (by omega))
    rw [← h1]
    have hlt : q - 1 < ops.size := by omega
    have ho : ops[q - 1]? = some ops[q - 1] := Array.getElem?_eq_getElem hlt
    have hq1 : q - 1 + 1 = q := by omega
    cases hr : ran (q - 1) with
    | false => have := (C.no _ _ ho hr).2; rw [hq1] at this; exact this
    | true =>
      have h2 := C.yes _ _ ho hr
      rw [hq1] at h2
      refine evOp_heap ?_ h2
      have := hn (q - 1) (by omega) (by omega)
      unfold isAE at this
      rw [ho] at this
      simpa using this

/-- What the temporaries hold in the canonical run. -/
theorem DrawCtx.tmps {P : Program} {call : CallF} {ops : Array Oper} {A : Nat → Act} {Hh : Nat → H} {V : Nat → Value} {ran : Nat → Bool} (C : DrawCtx P call ops A Hh V ran) : ∀ i, i ≤ ops.size →
    (A i).tmps.size = (A 0).tmps.size ∧ (A i).defers = (A 0).defers ∧ (∀ j t, j < i → dstOf ops j = some t → t < (A 0).tmps.size → (A i).tmps.getD t undef = V j) ∧ (∀ t, (∀ j, j < i → dstOf ops j ≠ some t) → (A i).tmps.getD t undef = (A 0).tmps.getD t undef)
  | 0, _ => ⟨rfl, rfl, by simp, fun _ _ => rfl⟩
  | i + 1, hi => by
    obtain ⟨h1, h2, h3, h4⟩ := C.tmps i (by omega)
    have ho : ops[i]? = some ops[i] := Array.getElem?_eq_getElem (by omega)
    have hp := C.put i _ ho
    have hd : dstOf ops i = ops[i].dst := by simp [dstOf, ho]
    rw [hp]
    cases hdd : ops[i].dst with
    | none =>
      rw [hdd] at hd
      refine ⟨h1, h2, fun j t hj hjt ht => ?_, fun t hn => h4 t fun j hj => hn j (by omega)⟩
      have : j ≠ i := by rintro rfl; rw [hd] at hjt; cases hjt
      exact h3 j t (by omega) hjt ht
    | some u =>
      rw [hdd] at hd
      refine ⟨by simp [Act.put, h1], h2, fun j t hj hjt ht => ?_, fun t hn => ?_⟩
      · simp only [Act.put, Array.getD_eq_getD_getElem?, Array.getElem?_setIfInBounds]
        by_cases hji : j = i
        · subst hji
          rw [hd] at hjt; cases hjt
          rw [if_pos rfl, if_pos (by rw [h1]; exact ht)]; rfl
        · have hut : u ≠ t := by
            rintro rfl
            exact C.one j i u (by omega) (by omega) hjt hd
          rw [if_neg hut, ← Array.getD_eq_getD_getElem?]
          exact h3 j t (by omega) hjt ht
      · have hut : u ≠ t := by
          rintro rfl
          exact hn i (by omega) hd
        simp only [Act.put, Array.getD_eq_getD_getElem?, Array.getElem?_setIfInBounds]
        rw [if_neg hut, ← Array.getD_eq_getD_getElem?, ← Array.getD_eq_getD_getElem?]
        exact h4 t fun j hj => hn j (by omega)

structure DInv (P : Program) (ops : Array Oper) (A : Nat → Act) (Hh : Nat → H) (V : Nat → Value) (β0 : Nat → Option Emb) (w0 : World) (β : Nat → Option Emb) (L : Array Bool) (a' : Act) (w : World) (st : Nat) : Prop where
  size : L.size = ops.size
  closed : ∀ i, mem L i → ∀ k, depOf ops i k → mem L k
  le : st ≤ ops.size
  at_ : st = ops.size ∨ isAE P ops st = true
  acts : ∀ e, isAE P ops e = true → (mem L e ↔ e < st)
  rel : Rel P β (Hh st) w
  gok : GOk P β (Hh st)
  evo : Evo β0 (Hh 0) w0 β (Hh st) w
  tsize : a'.tmps.size = (A 0).tmps.size
  td : a'.defers = []
  old : ∀ t, (∀ j, mem L j → dstOf ops j ≠ some t) → VRh β (Hh st) ((A 0).tmps.getD t undef) (a'.tmps.getD t undef)
  new : ∀ j t, mem L j → dstOf ops j = some t → t < (A 0).tmps.size → VRh β (Hh st) (V j) (a'.tmps.getD t undef)

theorem mem_lt {L : Array Bool} {i : Nat} (h : mem L i) : i < L.size := by
  unfold mem at h
  rw [Array.getD_eq_getD_getElem?] at h
  refine Classical.byContradiction fun hn => ?_
  rw [Array.getElem?_eq_none (Nat.le_of_not_lt hn)] at h
  simp at h
theorem isAE_lt {P : Program} {ops : Array Oper} {i : Nat} (h : isAE P ops i = true) : i < ops.size := by
  unfold isAE at h
  refine Classical.byContradiction fun hn => ?_
  rw [Array.getElem?_eq_none (Nat.le_of_not_lt hn)] at h
  simp at h
theorem dst_lt {ops : Array Oper} {i : Nat} {t : Tmp} (h : dstOf ops i = some t) : i < ops.size := by
  unfold dstOf at h
  refine Classical.byContradiction fun hn => ?_
  rw [Array.getElem?_eq_none (Nat.le_of_not_lt hn)] at h
  simp at h

theorem getD_ge {c : Array Value} {t : Nat} (h : ¬ t < c.size) : c.getD t undef = undef := by
  rw [Array.getD_eq_getD_getElem?, Array.getElem?_eq_none (Nat.le_of_not_lt h)]; rfl

theorem ready_mem {ops : Array Oper} {L : Array Bool} (hs : L.size = ops.size) {i : Nat} (h : i ∈ Region.ready .any ops L) : i < ops.size ∧ ¬ mem L i ∧ ∀ k, depOf ops i k → mem L k := by
  unfold Region.ready at h
  rw [List.mem_filter, List.mem_range] at h
  obtain ⟨h1, h2⟩ := h
  refine ⟨h1, ?_, ?_⟩
  · intro hm
    unfold mem at hm
    rw [Array.getD_eq_getD_getElem?, Array.getElem?_eq_getElem (hs ▸ h1)] at hm
    rw [Array.getD_eq_getD_getElem?, Array.getElem?_eq_getElem (hs ▸ h1)] at h2
    simp only [Option.getD_some] at hm h2
    rw [hm] at h2
    simp at h2
  · rintro k ⟨o, ho, e, he, hb, rfl⟩
    rw [ho] at h2
    simp only [Option.map_some, Option.getD_some, Bool.and_eq_true] at h2
    have := (Array.all_eq_true'.1 h2.2) e he
    rw [hb] at this
    simpa [mem] using this
theorem ready_all {ops : Array Oper} {L : Array Bool} (hs : L.size = ops.size) (low : ∀ i k, depOf ops i k → k < i) (h : Region.ready .any ops L = []) : ∀ i, i < ops.size → mem L i := by
  intro i
  induction i using Nat.strongRecOn with
  | ind i ih =>
    intro hi
    refine Classical.byContradiction fun hn => ?_
    have : i ∈ Region.ready .any ops L := by
      unfold Region.ready
      rw [List.mem_filter, List.mem_range]
      refine ⟨hi, ?_⟩
      have h1 : L.getD i true = false := by
        unfold mem at hn
        rw [Array.getD_eq_getD_getElem?, Array.getElem?_eq_getElem (hs ▸ hi)] at hn
        rw [Array.getD_eq_getD_getElem?, Array.getElem?_eq_getElem (hs ▸ hi)]
        simpa using hn
      rw [h1, Array.getElem?_eq_getElem hi]
      simp only [Bool.not_false, Option.map_some, Option.getD_some, Bool.true_and]
      rw [Array.all_eq_true']
      intro e he
      cases hb : Region.binds .any e with
      | false => rfl
      | true =>
        have hd : depOf ops i e.on := ⟨ops[i], Array.getElem?_eq_getElem hi, e, he, hb, rfl⟩
        have := ih _ (low _ _ hd) (Nat.lt_trans (low _ _ hd) hi)
        simpa [mem] using this
    rw [h] at this
    cases this

theorem anc_mem {ops : Array Oper} {L : Array Bool} (hc : ∀ i, mem L i → ∀ k, depOf ops i k → mem L k) {i j : Nat} (h : Anc ops i j) (hi : ∀ k, depOf ops i k → mem L k) : mem L j := h.closed hc hi

/-- The temporaries that an operation looks at. -/
theorem DInv.look {P : Program} {call : CallF} {ops : Array Oper} {A : Nat → Act} {Hh : Nat → H} {V : Nat → Value} {ran : Nat → Bool} (C : DrawCtx P call ops A Hh V ran) {β0 : Nat → Option Emb} {w0 : World} {β : Nat → Option Emb} {L : Array Bool} {a' : Act} {w : World} {st : Nat}
    (I : DInv P ops A Hh V β0 w0 β L a' w st) {i : Nat} (hi : i < ops.size) (hn : ¬ mem L i) (hd : ∀ k, depOf ops i k → mem L k) {t : Tmp} (ht : t ∈ looks ops i) : VRh β (Hh st) ((A i).tmps.getD t undef) (a'.tmps.getD t undef) := by
  obtain ⟨c1, c2, c3, c4⟩ := C.tmps i (Nat.le_of_lt hi)
  by_cases hsz : t < (A 0).tmps.size
  · by_cases hw : ∃ j, dstOf ops j = some t
    · obtain ⟨j, hj⟩ := hw
      have hjn := dst_lt hj
      have uniq : ∀ k, dstOf ops k = some t → k = j := by
        intro k hk
        rcases Nat.lt_trichotomy k j with h | h | h
        · exact absurd hj (C.one k j t h hjn hk)
        · exact h
        · exact absurd hk (C.one j k t h (dst_lt hk) hj)
      have oldcase : ¬ j < i → ¬ mem L j → VRh β (Hh st) ((A i).tmps.getD t undef) (a'.tmps.getD t undef) := by
        intro h1 h2
        rw [c4 t fun k hk hkt => h1 (uniq k hkt ▸ hk)]
        exact I.old t fun k hk hkt => h2 (uniq k hkt ▸ hk)
      by_cases hji : j = i
      · subst hji; exact oldcase (by omega) hn
      · have hz := C.haz j i t hjn hi hji hj ht
        by_cases hlt : j < i
        · have hm : mem L j := anc_mem I.closed (hz.1 hlt) hd
          rw [c3 j t hlt hj hsz]
          exact I.new j t hm hj hsz
        · refine oldcase hlt fun hm => hn ?_
          exact anc_mem I.closed (hz.2 (by omega)) (I.closed j hm)
    · rw [c4 t fun k hk hkt => hw ⟨k, hkt⟩]
      exact I.old t fun k hk hkt => hw ⟨k, hkt⟩
  · rw [getD_ge (by rw [c1]; exact hsz), getD_ge (by rw [I.tsize]; exact hsz)]
    exact VR.undef

/-- Where the acting operations stand after one more. -/
theorem DInv.turn {P : Program} {call : CallF} {ops : Array Oper} {A : Nat → Act} {Hh : Nat → H} {V : Nat → Value} {ran : Nat → Bool} (C : DrawCtx P call ops A Hh V ran) {β0 : Nat → Option Emb} {w0 : World} {β : Nat → Option Emb} {L : Array Bool} {a' : Act} {w : World} {st : Nat}
    (I : DInv P ops A Hh V β0 w0 β L a' w st) {i : Nat} (hi : i < ops.size) (hn : ¬ mem L i) (hd : ∀ k, depOf ops i k → mem L k) :
    ∃ st', st' ≤ ops.size ∧ (st' = ops.size ∨ isAE P ops st' = true) ∧ (∀ e, isAE P ops e = true → (mem (L.setIfInBounds i true) e ↔ e < st')) ∧
      (ran i = false → Hh st' = Hh st) ∧ (ran i = true → evOp P call ops[i] (A i).eval (Hh st) = some (V i, Hh st')) := by
  have ho : ops[i]? = some ops[i] := Array.getElem?_eq_getElem hi
  have hiL : i < L.size := I.size ▸ hi
  cases hb : isAE P ops i with
  | true =>
    have hst : st = i := by
      have h1 : ¬ i < st := fun h => hn ((I.acts i hb).2 h)
      rcases Nat.lt_or_ge st i with h | h
      · rcases I.at_ with h2 | h2
        · omega
        · have := anc_mem I.closed (C.ae st i h hi h2 hb) hd
          have := (I.acts st h2).1 this
          omega
      · omega
    subst hst
    obtain ⟨q, q1, q2, q3, q4⟩ := next_ae P ops ops.size (ops.size - (st + 1)) (st + 1) (by omega) rfl
    have hq := C.heap (q - (st + 1)) (st + 1) q rfl q1 q2 q4
    refine ⟨q, q2, q3, ?_, ?_, ?_⟩
    · intro e he
      rw [mem_set hiL, I.acts e he]
      constructor
      · rintro (h | h) <;> omega
      · intro h
        by_cases h2 : e < st + 1
        · omega
        · have := q4 e (by omega) h
          rw [he] at this; cases this
    · intro hr; rw [hq]; exact (C.no _ _ ho hr).2
    · intro hr; rw [hq]; exact C.yes _ _ ho hr
  | false =>
    refine ⟨st, I.le, I.at_, ?_, fun _ => rfl, ?_⟩
    · intro e he
      rw [mem_set hiL, I.acts e he]
      constructor
      · rintro (h | h)
        · exact h
        · subst h; rw [hb] at he; cases he
      · exact .inl
    · intro hr
      have hc : cls P ops[i] ≠ 2 := by
        unfold isAE at hb; rw [ho] at hb; simpa using hb
      have h1 := C.yes _ _ ho hr
      unfold evOp at h1 ⊢
      rcases cls_cases P ops[i] with h0 | h0 | h0
      · rw [h0] at h1 ⊢
        simp only [Option.map_eq_some_iff, Prod.mk.injEq] at h1 ⊢
        obtain ⟨a, p1, p2, p3⟩ := h1
        exact ⟨a, p1, p2, trivial⟩
      · rw [h0] at h1 ⊢
        simp only [Option.map_eq_some_iff, Prod.mk.injEq]
        refine ⟨V i, ?_, rfl, trivial⟩
        refine C.same i _ ho hr h0 st I.at_ I.le ?_
        unfold mayAt
        rw [List.all_eq_true]
        intro e _
        cases he : isAE P ops e with
        | false => rfl
        | true =>
          simp only [Bool.not_true, Bool.false_or, Bool.and_eq_true, Bool.or_eq_true, Bool.not_eq_true', decide_eq_true_eq, decide_eq_false_iff_not]
          constructor
          · cases hx : ((Region.before ops).getD i 0).testBit e with
            | false => exact .inl rfl
            | true => exact .inr ((I.acts e he).1 (anc_mem I.closed (before_anc hx) hd))
          · by_cases hes : e < st
            · refine .inr ?_
              cases hx : ((Region.before ops).getD e 0).testBit i with
              | false => rfl
              | true => exact absurd (anc_mem I.closed (before_anc hx) (I.closed e ((I.acts e he).2 hes))) hn
            · exact .inl hes
      · exact absurd h0 hc

theorem DInv.step {P : Program} {call : CallF} {ops : Array Oper} {A : Nat → Act} {Hh : Nat → H} {V : Nat → Value} {ran : Nat → Bool} (C : DrawCtx P call ops A Hh V ran) {β0 : Nat → Option Emb} {w0 : World} {β : Nat → Option Emb} {L : Array Bool} {a' : Act} {w : World} {st : Nat}
    (I : DInv P ops A Hh V β0 w0 β L a' w st) {i : Nat} (hi : i < ops.size) (hn : ¬ mem L i) (hd : ∀ k, depOf ops i k → mem L k) {st' : Nat} (h1 : st' ≤ ops.size) (h2 : st' = ops.size ∨ isAE P ops st' = true) (h3 : ∀ e, isAE P ops e = true → (mem (L.setIfInBounds i true) e ↔ e < st'))
    {β' : Nat → Option Emb} {w' : World} {v' : Value} (hr : Rel P β' (Hh st') w') (hv : VRh β' (Hh st') (V i) v') (hE : Evo β (Hh st) w β' (Hh st') w') :
    DInv P ops A Hh V β0 w0 β' (L.setIfInBounds i true) (a'.put ops[i].dst v') w' st' := by
  have hiL : i < L.size := I.size ▸ hi
  have hdst : dstOf ops i = ops[i].dst := by simp [dstOf, hi]
  refine ⟨by simpa using I.size, ?_, h1, h2, h3, hr, I.gok.evo hE, I.evo.trans hE, ?_, ?_, ?_, ?_⟩
  · intro j hj k hk
    rw [mem_set hiL] at hj ⊢
    rcases hj with hj | rfl
    · exact .inl (I.closed j hj k hk)
    · exact .inl (hd k hk)
  · cases ops[i].dst with
    | none => exact I.tsize
    | some t => simpa [Act.put] using I.tsize
  · cases ops[i].dst with
    | none => exact I.td
    | some t => exact I.td
  · intro t ht
    have h4 : ∀ j, mem L j → dstOf ops j ≠ some t := fun j hj => ht j ((mem_set hiL).2 (.inl hj))
    have h5 : dstOf ops i ≠ some t := ht i ((mem_set hiL).2 (.inr rfl))
    have h6 := VR.evo (I.old t h4) hE
    rw [hdst] at h5
    cases hdd : ops[i].dst with
    | none => exact h6
    | some u =>
      rw [hdd] at h5
      simp only [Act.put, Array.getD_eq_getD_getElem?, Array.getElem?_setIfInBounds]
      rw [if_neg (fun hu => h5 (by rw [hu])), ← Array.getD_eq_getD_getElem?, ← Array.getD_eq_getD_getElem?]
      exact h6
  · intro j t hj hjt hsz
    rw [mem_set hiL] at hj
    by_cases hji : j = i
    · subst hji
      rw [hdst] at hjt
      rw [hjt]
      have hsz' : t < a'.tmps.size := by rw [I.tsize]; exact hsz
      have e1 : (a'.put (some t) v').tmps.getD t undef = v' := by
        simp [Act.put, Array.getD_eq_getD_getElem?, hsz']
      rw [e1]
      exact hv
    · have hj' : mem L j := by rcases hj with h | h; exact h; exact absurd h hji
      have h6 := VR.evo (I.new j t hj' hjt hsz) hE
      cases hdd : ops[i].dst with
      | none => exact h6
      | some u =>
        have hut : u ≠ t := by
          rintro rfl
          rw [hdd] at hdst
          rcases Nat.lt_trichotomy i j with h | h | h
          · exact C.one i j u h (dst_lt hjt) hdst hjt
          · exact hji h.symm
          · exact C.one j i u h hi hjt hdst
        simp only [Act.put, Array.getD_eq_getD_getElem?, Array.getElem?_setIfInBounds]
        rw [if_neg hut, ← Array.getD_eq_getD_getElem?]
        exact h6

theorem draw_any {P : Program} {call : CallF} (hcall : CallOk P call) {ops : Array Oper} (hops : ∀ o ∈ ops, opOk P o = true) {A : Nat → Act} {Hh : Nat → H} {V : Nat → Value} {ran : Nat → Bool} (C : DrawCtx P call ops A Hh V ran) (hAd : (A 0).defers = []) {β0 : Nat → Option Emb} {w0 : World} {Q : Exit → Act → World → Prop}
    (hq : ∀ β' a1' w', AR β' (Hh ops.size) (A ops.size) a1' → Rel P β' (Hh ops.size) w' → Evo β0 (Hh 0) w0 β' (Hh ops.size) w' → Q .normal a1' w') :
    ∀ (fuel : Nat) (β : Nat → Option Emb) (L : Array Bool) (a' : Act) (w : World) (st : Nat), L.toList.countP (· == false) = fuel → DInv P ops A Hh V β0 w0 β L a' w st → wpAny P .any ops Q fuel L a' w := by
  have fin : ∀ (β : Nat → Option Emb) (L : Array Bool) (a' : Act) (w : World) (st : Nat), DInv P ops A Hh V β0 w0 β L a' w st → (∀ i, i < ops.size → mem L i) → Q .normal a' w := by
    intro β L a' w st I hall
    have hst : st = ops.size := by
      rcases I.at_ with h | h
      · exact h
      · have hlt := isAE_lt h
        have := (I.acts st h).1 (hall st hlt)
        omega
    subst hst
    obtain ⟨c1, c2, c3, c4⟩ := C.tmps ops.size (Nat.le_refl _)
    refine hq β a' w ⟨?_, by rw [c2]; exact hAd, I.td⟩ I.rel I.evo
    refine .of_get (by rw [c1]; exact I.tsize) fun t v v' h1 h2 => ?_
    have e1 : (A ops.size).tmps.getD t undef = v := by rw [Array.getD_eq_getD_getElem?, h1]; rfl
    have e2 : a'.tmps.getD t undef = v' := by rw [Array.getD_eq_getD_getElem?, h2]; rfl
    have hsz : t < (A 0).tmps.size := by
      rw [← I.tsize]
      exact (Array.getElem?_eq_some_iff.1 h2).1
    rw [← e1, ← e2]
    by_cases hw : ∃ j, dstOf ops j = some t
    · obtain ⟨j, hj⟩ := hw
      rw [c3 j t (dst_lt hj) hj hsz]
      exact I.new j t (hall j (dst_lt hj)) hj hsz
    · rw [c4 t fun j _ hj => hw ⟨j, hj⟩]
      exact I.old t fun j _ hj => hw ⟨j, hj⟩
  intro fuel
  induction fuel with
  | zero =>
    intro β L a' w st hc I
    have hall : ∀ i, i < ops.size → mem L i := by
      intro i hi
      have hiL : i < L.size := I.size ▸ hi
      have h1 := List.countP_eq_zero.1 hc L[i] (by simp)
      unfold mem
      rw [Array.getD_eq_getD_getElem?, Array.getElem?_eq_getElem hiL]
      simpa using h1
    refine ⟨?_, fin β L a' w st I hall⟩
    cases hr : Region.ready .any ops L with
    | nil => rfl
    | cons i rs =>
      obtain ⟨hi, hn, _⟩ := ready_mem I.size (show i ∈ Region.ready .any ops L by rw [hr]; simp)
      exact absurd (hall i hi) hn
  | succ fuel ih =>
    intro β L a' w st hc I
    refine ⟨fun hr => fin β L a' w st I (ready_all I.size C.low hr), fun i hir => ?_⟩
    obtain ⟨hi, hn, hd⟩ := ready_mem I.size hir
    have hiL : i < L.size := I.size ▸ hi
    have ho : ops[i]? = some ops[i] := Array.getElem?_eq_getElem hi
    have hcnt : (L.setIfInBounds i true).toList.countP (· == false) = fuel := by
      have := unl_set hiL hn
      omega
    obtain ⟨st', s1, s2, s3, s4, s5⟩ := I.turn C hi hn hd
    have hlook : ∀ t, t ∈ (ops[i]).looksAt ops → VRh β (Hh st) ((A i).tmps.getD t undef) (a'.tmps.getD t undef) := fun t ht => I.look C hi hn hd (by unfold looks; rw [ho]; exact ht)
    unfold wpOp
    rw [ho]
    have hwant : Region.wanted ops[i] (yielded ops a'.tmps) = ran i := by
      refine want_sim (K := (· < (Hh st).size)) (β := β) (C.want i _ ho) ?_
      intro j bb t hg hdj v hv
      have ht : t ∈ (ops[i]).looksAt ops := by
        unfold Oper.looksAt
        rw [hg]
        simp only [hdj]
        simp
      have hsz : t < a'.tmps.size := by
        rw [I.tsize, ← (C.tmps i (Nat.le_of_lt hi)).1]
        exact (Array.getElem?_eq_some_iff.1 hv).1
      have h2 := hlook t ht
      rw [Array.getD_eq_getD_getElem?, hv] at h2
      refine ⟨_, Array.getElem?_eq_getElem hsz, ?_⟩
      rw [Array.getD_eq_getD_getElem?, Array.getElem?_eq_getElem hsz] at h2
      exact h2
    show (if Region.wanted ops[i] (yielded ops a'.tmps) = true then (ops[i]).wp P a' w (wpAny P .any ops Q fuel (L.setIfInBounds i true)) Q ∨ ((ops[i]).asks P a' w ∧ LetsOut Q) else wpAny P .any ops Q fuel (L.setIfInBounds i true) (a'.put (ops[i]).dst undef) w)
    rw [hwant]
    cases hran : ran i with
    | false =>
      simp only [Bool.false_eq_true, if_false]
      have hV := (C.no i _ ho hran).1
      refine ih β _ _ _ st' hcnt ?_
      refine I.step C hi hn hd s1 s2 s3 (by rw [s4 hran]; exact I.rel) (by rw [hV]; exact VR.undef) ?_
      rw [s4 hran]
      exact I.rel.refl
    | true =>
      simp only [if_true]
      refine .inl ?_
      refine evOp_sim hcall I.rel I.gok (a := A i) ?_ (s5 hran) ?_
      · intro x hx
        refine eval_vr I.gok (Array.all_eq_true'.1 (hops _ (Array.getElem_mem hi)) x hx) fun t ht => hlook t ?_
        unfold Oper.looksAt
        refine List.mem_append.2 (.inl (List.mem_filterMap.2 ⟨x, by simpa using hx, by rw [ht]⟩))
      · intro β' v' w' q1 q2 q3
        exact ih β' _ _ _ st' hcnt (I.step C hi hn hd s1 s2 s3 q2 q1 q3)

theorem rel_drawn {P : Program} {β : Nat → Option Emb} {h : H} {w : World} (hr : Rel P β h w) (n : Nat) : Rel P β h { w with drawn := n } := ⟨hr.live, hr.obj, hr.inj⟩
theorem evo_drawn {β : Nat → Option Emb} {h : H} {w : World} {n : Nat} {β' : Nat → Option Emb} {h' : H} {w' : World} (hE : Evo β h { w with drawn := n } β' h' w') : Evo β h w β' h' w' :=
  ⟨hE.hsize, hE.old, hE.ro, hE.fresh, hE.wsize, hE.keep, hE.os, hE.tape, hE.output⟩

theorem draw_ctx {P : Program} {call : CallF} {ops : Array Oper} (hdr : drawOk P ops = true) {a : Act} {h : H} {a1 : Act} {h1 : H} (he : evDraw P call ops a h = some (a1, h1)) :
    ∃ (A : Nat → Act) (Hh : Nat → H) (V : Nat → Value) (ran : Nat → Bool), DrawCtx P call ops A Hh V ran ∧ A 0 = a ∧ Hh 0 = h ∧ A ops.size = a1 ∧ Hh ops.size = h1 := by
  unfold evDraw at he
  split at he
  · rename_i rs b1 g1 htr
    split at he
    · rename_i hdyn
      simp only [Option.some.injEq, Prod.mk.injEq] at he
      obtain ⟨rfl, rfl⟩ := he
      obtain ⟨A, Hh, V, ran, e0, e1, e2, e3, e4, e5⟩ := evTrace_spec _ _ _ _ _ _ htr
      simp only [Array.length_toList] at e2 e3 e4
      have e5' : ∀ i o, ops[i]? = some o → _ := fun i o ho => e5 i o (by simpa using ho)
      unfold drawOk at hdr
      simp only [Bool.and_eq_true, List.all_eq_true] at hdr
      obtain ⟨d1, d2⟩ := hdr
      have d3 : ∀ j i, j < ops.size → i < ops.size → _ := fun j i hj hi => d2 j (List.mem_range.2 hj) i (List.mem_range.2 hi)
      refine ⟨A, Hh, V, ran, ⟨fun i o ho => (e5' i o ho).2.1, fun i o ho => (e5' i o ho).2.2.1, fun i o ho => (e5' i o ho).2.2.2.1, fun i o ho => (e5' i o ho).2.2.2.2, ?_, ?_, ?_, ?_, ?_⟩, e0, e1, e2, e3⟩
      · rintro i k ⟨o, ho, e, hee, hb, rfl⟩
        have h1 := d1 (o, i) (by
          rw [List.mem_zipIdx_iff_getElem?]; simpa using ho)
        have h2 := (Array.all_eq_true'.1 h1) e hee
        rw [hb] at h2
        simpa using h2
      · intro i j hij hj hai haj
        have h1 := (d3 j i hj (by omega)).1
        rw [if_pos hij, hai, haj] at h1
        simp only [Bool.and_self, Bool.not_true, Bool.false_or, Bool.and_eq_true] at h1
        exact before_anc h1.1
      · intro i j t hij hj hdi hdj
        have h1 := (d3 j i hj (by omega)).1
        rw [if_pos hij, hdi] at h1
        simp only [Bool.and_eq_true] at h1
        have h2 := h1.2
        rw [hdj] at h2
        simp at h2
      · intro i j t hi hj hne hdi hl
        have h1 := (d3 j i hj hi).2
        rw [hdi] at h1
        simp only at h1
        rw [if_pos (by simp [hne, hl])] at h1
        constructor
        · intro h; rw [if_pos h] at h1; exact before_anc h1
        · intro h; rw [if_neg (by omega)] at h1; exact before_anc h1
      · intro i o ho hran hc s hs hsz hmay
        unfold dynOk at hdyn
        rw [List.all_eq_true] at hdyn
        have h1 := hdyn (⟨o, A i, Hh i, ran i, V i⟩, i) (by
          rw [List.mem_zipIdx_iff_getElem?]; exact (e5' i o ho).1)
        simp only [hran, hc, beq_self_eq_true, Bool.and_self, Bool.not_true, Bool.false_or, Bool.and_eq_true, Bool.or_eq_true, Bool.not_eq_true', List.all_eq_true] at h1
        have key : ∀ g, readsSame P ⟨o, A i, Hh i, true, V i⟩ g = true → evRead P o (A i).eval g = some (V i) := by
          intro g hg
          unfold readsSame at hg
          simp only at hg
          split at hg
          · rename_i v hv
            rw [hv, veq_eq hg]
          · cases hg
        rcases hs with hs | hs
        · subst hs
          rcases h1.1 with h2 | h2
          · rw [hmay] at h2; cases h2
          · rw [e3]; exact key _ h2
        · have hlt := isAE_lt hs
          have hos : ops[s]? = some ops[s] := Array.getElem?_eq_getElem hlt
          have h2 := h1.2 (⟨ops[s], A s, Hh s, ran s, V s⟩, s) (by
            rw [List.mem_zipIdx_iff_getElem?]; exact (e5' s _ hos).1)
          rcases h2 with h2 | h2
          · rw [hmay] at h2
            unfold isAE at hs
            rw [hos] at hs
            simp only at hs h2
            rw [hs] at h2
            simp at h2
          · exact key _ h2
    · cases he
  · cases he

theorem evDraw_sim {P : Program} {call : CallF} (hcall : CallOk P call) (hm : P.follows .mixedOrders = true) {ops : Array Oper} (hops : ∀ o ∈ ops, opOk P o = true) (hdr : drawOk P ops = true) {β : Nat → Option Emb} {h : H} {w : World} {a a' a1 : Act} {h1 : H}
    (hr : Rel P β h w) (hG : GOk P β h) (ha : AR β h a a') (he : evDraw P call ops a h = some (a1, h1)) {id : Nat} {Q : Exit → Act → World → Prop}
    (hq : ∀ β' a1' w', AR β' h1 a1 a1' → Rel P β' h1 w' → Evo β h w β' h1 w' → Q .normal a1' w') : (Code.region id ops true).wp P Q a' w := by
  obtain ⟨A, Hh, V, ran, C, e0, e1, e2, e3⟩ := draw_ctx hdr he
  subst e0; subst e1; subst e2; subst e3
  refine wp_region_any hm ?_
  obtain ⟨q, q1, q2, q3, q4⟩ := next_ae P ops ops.size (ops.size - 0) 0 (Nat.zero_le _) rfl
  have hq0 := C.heap (q - 0) 0 q rfl q1 q2 q4
  have nomem : ∀ i, ¬ mem (Array.replicate ops.size false) i := by
    intro i hi
    unfold mem at hi
    rw [Array.getD_eq_getD_getElem?, Array.getElem?_replicate] at hi
    split at hi <;> simp at hi
  refine draw_any hcall hops C ha.d (β0 := β) (w0 := { w with drawn := w.drawn + 1 }) (fun β' a1' w' p1 p2 p3 => hq β' a1' w' p1 p2 (evo_drawn p3)) ops.size β _ a' _ q (by simp [List.countP_replicate]) ?_
  refine ⟨by simp, fun i hi => absurd hi (nomem i), q2, q3, fun e he => ⟨fun hi => absurd hi (nomem e), fun hlt => ?_⟩, ?_, ?_, ?_, ha.tmps.size, ha.d', ?_, fun j t hj => absurd hj (nomem j)⟩
  · have := q4 e (Nat.zero_le _) hlt
    rw [he] at this; cases this
  · rw [hq0]; exact rel_drawn hr _
  · rw [hq0]; exact hG
  · rw [hq0]; exact (rel_drawn hr _).refl
  · intro t _
    rw [hq0]
    exact getD_vr ha.tmps t
end Go.Am
