/- Pieces of code, and a map's entries in any order. -/
import Derived.Test.YtfmikgbachnneaaDoorAm19
set_option linter.unusedSimpArgs false
set_option linter.unusedVariables false
namespace Go.Am
variable {P : Program} {β : Nat → Option Emb} {h : H} {w : World}

theorem evCG_ok {ok nu : FuncId → Bool} {X : Hooks} (hS : Sound P ok X) : CallOk P (evCG P ok nu X) := by
  intro f args h v h1 he β w args' hr hG hargs
  obtain ⟨n, hn⟩ := evCG_some he
  exact evG_sim hS.mixed hS.code hS.hooks n f args h v h1 hn β w args' hr hG hargs
/-- A piece of code by its text. -/
theorem piece_sim {ok nu : FuncId → Bool} {X : Hooks} (hS : Sound P ok X) {c : Code} (hok : codeOk P c = true) {a a1 : Act} {h h1 : H} {e : Exit} (hk : kCode P (evCG P ok nu X) c a h (fun e a h => some (e, a, h)) = some (e, a1, h1))
    {β : Nat → Option Emb} {w : World} {a' : Act} (hr : Rel P β h w) (hG : GOk P β h) (ha : AR β h a a') {Q : Exit → Act → World → Prop} (hq : ∀ β' a1' w', AR β' h1 a1 a1' → Rel P β' h1 w' → Evo β h w β' h1 w' → Q e a1' w') : c.wp P Q a' w := by
  obtain ⟨e', a2, h2, q1, q2⟩ := kCode_some _ _ _ _ _ hk
  simp only [Option.some.injEq, Prod.mk.injEq] at q2
  obtain ⟨rfl, rfl, rfl⟩ := q2
  obtain ⟨n, hn⟩ := evI_limG _ _ _ _ q1
  exact evCode_sim (evG_sim hS.mixed hS.code hS.hooks n) hS.mixed c hok _ _ _ _ _ hn β w a' hr hG ha Q hq
theorem codeOk_at : ∀ (c : Code) (p : List Nat), codeOk P c = true → codeOk P (codeAt c p) = true := by
  intro c
  induction c with
  | seq x y ihx ihy =>
    intro p h
    rcases p with _ | ⟨_ | n, p⟩
    · exact h
    · simp only [codeOk, Bool.and_eq_true] at h; exact ihx p h.1
    · simp only [codeOk, Bool.and_eq_true] at h; exact ihy p h.2
  | cond c x y ihx ihy =>
    intro p h
    rcases p with _ | ⟨_ | n, p⟩
    · exact h
    · simp only [codeOk, Bool.and_eq_true] at h; exact ihx p h.1.2
    · simp only [codeOk, Bool.and_eq_true] at h; exact ihy p h.2
  | block id c ih =>
    intro p h
    rcases p with _ | ⟨n, p⟩
    · exact h
    · exact ih p h
  | scope c ih =>
    intro p h
    rcases p with _ | ⟨n, p⟩
    · exact h
    · exact ih p h
  | loop c ih =>
    intro p h
    rcases p with _ | ⟨n, p⟩
    · exact h
    · exact ih p h
  | _ => intro p h; cases p <;> exact h

theorem ERL.get {K : Nat → Prop} {l l' : List MapEntry} (h : ERL β K l l') : ∀ (i : Nat) (a' : MapEntry), l'[i]? = some a' → ∃ a, l[i]? = some a ∧ VR β K a.key a'.key ∧ VR β K a.val a'.val ∧ a'.born = a.born := by
  induction h with
  | nil => intro i a' hh; simp at hh
  | cons a a' l l' h1 h2 h3 t ih =>
    intro i b hb
    cases i with
    | zero => simp at hb; subst hb; exact ⟨a, by simp, h1, h2, h3⟩
    | succ i => simpa using ih i b (by simpa using hb)
/-- The next entry of a map that has not changed: one that is left, or the end where none is. -/
theorem next_any (hr : Rel P β h w) {o : Oper} {ρ ρ' : Operand → Value} {it : Operand} (ho : o.op = .next it false) (hit : VRh β h (ρ it) (ρ' it)) {r m clock : Nat} {seen : Array Nat} {es : Array MapEntry} {kd : Kind}
    (hv : ρ it = .pointer (some ⟨r, 0, none⟩)) (hb : h[r]? = some (.iter (some m) clock seen clock)) (hbm : h[m]? = some (.map es clock kd)) (hlt : ∀ e ∈ es.toList, e.born < clock) :
    ((∀ e ∈ es.toList, seen.contains e.born = true) ∧ EffOut P β h w o ρ' (.tuple #[.bool false]) h) ∨
    ∃ e ∈ es.toList, seen.contains e.born = false ∧ EffOut P β h w o ρ' (.tuple #[.bool true, e.key, e.val]) (h.setIfInBounds r (.iter (some m) clock (seen.push e.born) clock)) := by
  have hrun : ∀ {r : Value} {w1 : World}, (Instr.next (ρ' it) false o.type).run P w = .ok r w1 → (execOp ρ' o).run P w = .ok (.value r) w1 := by
    intro r w1 hh
    unfold execOp
    simp only [ho]
    simp [hh]
  have hnro : ∀ {r : Nat} {ob : HObj}, h[r]? = some ob → ob.isRo = false → ¬ roAt h r := by
    rintro r ob hb hro ⟨o, k1, k2⟩
    rw [hb] at k1; cases k1; rw [hro] at k2; cases k2
  obtain ⟨e, hbe⟩ := Option.isSome_iff_exists.1 (hr.live r _ hb (by simp))
  obtain ⟨o1, o2, k1, k2, k3⟩ := hr.obj r e hbe
  rw [hb] at k1; cases k1
  cases o2 <;> simp only [ORel] at k3
  obtain ⟨km, k0, rfl, rfl, rfl⟩ := k3
  rename_i m0 seen clock
  have hp : ρ' it = .pointer (some ⟨e.blk, 0, none⟩) := by
    rw [hv] at hit
    revert hit; generalize ρ' it = y; intro hit
    cases hit with | ptr _ _ a' hk ha => rw [ha e hbe, k0]
  obtain ⟨em, es', b1, b2, b3⟩ := hr.map hbm
  have hm0 : m0 = some em.blk := by cases km with | map _ r' hk hh => rw [hh em b1]
  subst hm0
  have herl : ERL β (· < h.size) es.toList es'.toList := ERL.of_get (by simpa using b3.2.1) (fun i a a' h1 h2 => b3.2.2 i a a' (by simpa using h1) (by simpa using h2))
  have hlt' : ∀ x ∈ es'.toList, x.born < clock := by
    intro x hx
    obtain ⟨i, hi⟩ := List.getElem?_of_mem hx
    obtain ⟨a, h1, _, _, h4⟩ := herl.get i x hi
    rw [h4]
    exact hlt a (List.mem_of_getElem? h1)
  have hodd : (!seen.isEmpty && !es'.isEmpty && es'.all fun x => decide (x.born ≥ clock)) = false := by
    cases hes : es'.isEmpty with
    | true => simp
    | false =>
      have : (es'.all fun x => decide (x.born ≥ clock)) = false := by
        rw [Bool.eq_false_iff]
        intro hall
        rw [Array.all_eq_true'] at hall
        have hpos : 0 < es'.size := by
          rw [Array.isEmpty_eq_false_iff] at hes
          exact Array.size_pos_iff.2 hes
        have h1 := hall es'[0] (by simp)
        have h2 := hlt' es'[0] (by simp)
        simp at h1
        omega
      rw [this]; simp
  have hnew : ∀ l : Array MapEntry, (∀ x ∈ l.toList, x ∈ es'.toList) → (l.filter fun x => decide (x.born ≥ clock)) = #[] := by
    intro l hl
    apply Array.eq_empty_of_size_eq_zero
    rw [← Array.length_toList, Array.toList_filter, List.length_eq_zero_iff, List.filter_eq_nil_iff]
    intro x hx
    have := hlt' x (hl x hx)
    simp; omega
  have hold : ∀ l : Array MapEntry, (∀ x ∈ l.toList, x ∈ es'.toList) → (l.filter fun x => decide (x.born < clock)) = l := by
    intro l hl
    rw [Array.filter_eq_self]
    intro x hx
    have := hlt' x (hl x (by simpa using hx))
    simpa using this
  generalize hL : (es'.filter fun e => !seen.contains e.born) = left
  have hsub : ∀ x ∈ left.toList, x ∈ es'.toList := by
    intro x hx
    rw [← hL, Array.toList_filter] at hx
    exact (List.mem_filter.1 hx).1
  have hgo : ∀ {r1 : Value} {w1 : World}, ((do
        let candidates := (if left.isEmpty then #[none] else #[]) ++ left.map some
        match candidates[← choose (.mapNext candidates.size)]? with
        | some (some e2) => do
          setObj e.blk (.mapIter (some em.blk) clock (seen.push e2.born) clock)
          pure (.tuple #[.bool true, e2.key, e2.val])
        | some none => pure (.tuple #[.bool false])
        | none => stuck "Next: no such candidate") : Sem Value).run P w = .ok r1 w1 → (Instr.next (ρ' it) false o.type).run P w = .ok r1 w1 := by
    intro r1 w1 hh
    rw [hp, ← hh]
    simp only [Instr.next, Sem.run_bind, run_getObj' k2 (by simp), Result.andThen_ok, run_getObj' b2 (by simp), hodd, Bool.false_eq_true, if_false, hL, hold left hsub, hnew left hsub, Array.append_empty]
    rfl
  have hl : ERL β (· < h.size) (es.toList.filter fun e => !seen.contains e.born) left.toList := by
    have := herl.filter (fun n => !seen.contains n)
    rw [← hL]; simpa using this
  by_cases h0 : left.size = 0
  · left
    have e1 : left = #[] := Array.eq_empty_of_size_eq_zero h0
    refine ⟨fun x hx => ?_, β, _, _, .inl (hrun (hgo ?_)), VR.of_af (by simp [af, afc]), hr, hr.refl⟩
    · have hlen := hl.length
      rw [e1] at hlen
      have : es.toList.filter (fun e => !seen.contains e.born) = [] := List.length_eq_zero_iff.1 (by simpa using hlen.symm)
      rw [List.filter_eq_nil_iff] at this
      simpa using this x hx
    · rw [e1]
      simp [Sem.run_bind, Question.forced]
  · right
    have hne : left.isEmpty = false := by unfold Array.isEmpty; simpa using h0
    obtain ⟨j, w1, hj, hw1, hrunj⟩ : ∃ (j : Nat) (w1 : World), j < left.size ∧ (w1 = w ∨ w1 = { w with drawn := w.drawn + 1 }) ∧ (choose (.mapNext left.size)).run P w = .ok j w1 := by
      by_cases hf : left.size ≤ 1
      · exact ⟨0, w, by omega, .inl rfl, by simp [choose, Sem.run, Question.forced, hf]⟩
      · exact ⟨_, _, Nat.mod_lt _ (by omega), .inr rfl, by
          simp only [choose, Sem.run, Question.forced, decide_eq_true_eq, hf, if_false, Question.cut]
          rfl⟩
    obtain ⟨x', hx'⟩ : ∃ x', left.toList[j]? = some x' := ⟨left[j], by simp [hj]⟩
    obtain ⟨x, hx, q1, q2, q3⟩ := hl.get j x' hx'
    have hxm := List.mem_of_getElem? hx
    rw [List.mem_filter] at hxm
    have hk2 : w1.heap[e.blk]? = some (.mapIter (some em.blk) clock seen clock) := by rcases hw1 with rfl | rfl <;> exact k2
    have hr1 : Rel P β h w1 := by rcases hw1 with rfl | rfl; exact hr; exact hr.same rfl
    have hE1 : Evo β h w β h w1 := by rcases hw1 with rfl | rfl; exact hr.refl; exact hr.evo_same rfl rfl rfl rfl
    obtain ⟨r1, r2⟩ := hr1.set (obj := .iter (some m) clock (seen.push x.born) clock) (o' := .mapIter (some em.blk) clock (seen.push x'.born) clock) (w' := { w1 with heap := w1.heap.setIfInBounds e.blk (.mapIter (some em.blk) clock (seen.push x'.born) clock) }) hbe (hnro hb rfl) ⟨km, k0, rfl, by rw [q3], rfl⟩ rfl rfl rfl rfl
    refine ⟨x, hxm.1, by simpa using hxm.2, β, .tuple #[.bool true, x'.key, x'.val], _, .inl (hrun (hgo ?_)), ?_, r1, hE1.trans r2⟩
    · have hjx : left[j]? = some x' := by simpa using hx'
      simp only [hne, Bool.false_eq_true, if_false, Array.empty_append, Array.size_map, Sem.run_bind, hrunj, Result.andThen_ok, Array.getElem?_map, hjx, Option.map_some]
      simp [run_setObj' hk2 (by simp)]
    · have hmono : ∀ {a a' : Value}, VR β (· < h.size) a a' → VR β (· < (h.setIfInBounds r (.iter (some m) clock (seen.push x.born) clock)).size) a a' := fun q => q.mono (fun b hb => by simpa using hb) (fun _ _ => .inl rfl)
      exact .tuple _ _ (.cons _ _ _ _ (.bool _) (.cons _ _ _ _ (hmono q1) (.cons _ _ _ _ (hmono q2) .nil)))
/-- A region that takes the next entry, and tells whether there was one. -/
theorem next_wp {id : Nat} {ops : Array Oper} {o1 o2 : Oper} {it t1 t2 : Tmp} (hops : ops.toList = [o1, o2]) (g1 : o1.guard = none) (g2 : o2.guard = none) (h1 : o1.op = .next (.tmp it) false) (d1 : o1.dst = some t1) (h2 : o2.op = .extract (.tmp t1) 0) (d2 : o2.dst = some t2) (hok : opOk P o2 = true)
    (hr : Rel P β h w) (hG : GOk P β h) {a a' : Act} (ha : AR β h a a') {r m clock : Nat} {seen : Array Nat} {es : Array MapEntry} {kd : Kind}
    (hv : a.eval (.tmp it) = .pointer (some ⟨r, 0, none⟩)) (hput : ∀ v, (a.put (some t1) v).eval (.tmp t1) = v) (hb : h[r]? = some (.iter (some m) clock seen clock)) (hbm : h[m]? = some (.map es clock kd)) (hlt : ∀ e ∈ es.toList, e.born < clock)
    {Q : Exit → Act → World → Prop} (hq0 : (∀ e ∈ es.toList, seen.contains e.born = true) → ∀ β' a1' w', AR β' h ((a.put (some t1) (.tuple #[.bool false])).put (some t2) (.bool false)) a1' → Rel P β' h w' → Evo β h w β' h w' → Q .normal a1' w')
    (hq1 : ∀ e ∈ es.toList, seen.contains e.born = false → ∀ β' a1' w', AR β' (h.setIfInBounds r (.iter (some m) clock (seen.push e.born) clock)) ((a.put (some t1) (.tuple #[.bool true, e.key, e.val])).put (some t2) (.bool true)) a1' → Rel P β' (h.setIfInBounds r (.iter (some m) clock (seen.push e.born) clock)) w' → Evo β h w β' (h.setIfInBounds r (.iter (some m) clock (seen.push e.born) clock)) w' → Q .normal a1' w') :
    (Code.region id ops false).wp P Q a' w := by
  refine wp_region_list ?_
  rw [hops]
  refine wpList_step fun K hK => ?_
  have hw1 : ∀ y, Region.wanted o1 y = true := fun y => by unfold Region.wanted; rw [g1]
  rw [hw1]
  simp only [if_true]
  -- behind the first
  have second : ∀ (β1 : Nat → Option Emb) (h1' : H) (w1 : World) (v v' : Value) (b : Bool), VRh β1 h1' v v' → Rel P β1 h1' w1 → Evo β h w β1 h1' w1 → (∃ c, v = .tuple c ∧ c[0]? = some (.bool b)) →
      (∀ β' a1' w', AR β' h1' ((a.put (some t1) v).put (some t2) (.bool b)) a1' → Rel P β' h1' w' → Evo β h w β' h1' w' → Q .normal a1' w') → wpList P ops Q [o2] (a'.put o1.dst v') w1 := by
    rintro β1 h1' w1 v v' b hv1 hr1 hE1 ⟨c, rfl, hc⟩ hq
    refine wpList_step fun K hK => ?_
    have hw2 : ∀ y, Region.wanted o2 y = true := fun y => by unfold Region.wanted; rw [g2]
    rw [hw2]
    simp only [if_true]
    have ha1 : AR β1 h1' (a.put (some t1) (.tuple c)) (a'.put o1.dst v') := by rw [d1]; exact (ha.evo hE1).put hv1 _
    have hG1 := hG.evo hE1
    have he : evOp P (fun _ _ _ => none) o2 (a.put (some t1) (.tuple c)).eval h1' = some (.bool b, h1') := by
      have hcls : cls P o2 = 0 := by unfold cls; rw [h2]
      unfold evOp
      rw [hcls]
      simp only [evPure, h2, hput, Instr.extract, hc]
      simp [quiet, pure]
    refine evOp_sim (call := fun _ _ _ => none) (fun _ _ _ _ _ hh => by cases hh) hr1 hG1 (ha1.er hG1 hok) he fun β' v2 w2 q1 q2 q3 => hK _ _ ?_
    show Q .normal _ _
    refine hq β' _ w2 ?_ q2 (hE1.trans q3)
    rw [d2]
    exact (ha1.evo q3).put q1 _
  rcases next_any (ρ := a.eval) (ρ' := a'.eval) hr h1 (show VRh β h (a.eval (.tmp it)) (a'.eval (.tmp it)) from getD_vr ha.tmps it) hv hb hbm hlt with ⟨hall, β', v', w', q1, q2, q3, q4⟩ | ⟨e, he, hs, β', v', w', q1, q2, q3, q4⟩
  · unfold Oper.wp
    have key := second β' h w' _ v' false q2 q3 q4 ⟨_, rfl, rfl⟩ (hq0 hall)
    rcases q1 with q1 | ⟨q1, rfl⟩
    · rw [q1]; exact hK _ _ key
    · rw [q1]; exact hK _ _ key
  · unfold Oper.wp
    have key := second β' _ w' _ v' true q2 q3 q4 ⟨_, rfl, rfl⟩ (hq1 e he hs)
    rcases q1 with q1 | ⟨q1, rfl⟩
    · rw [q1]; exact hK _ _ key
    · rw [q1]; exact hK _ _ key

end Go.Am
