/- Code and calls. -/
import Derived.Test.YtfmikgbachnneaaDoorAm8
import Derived.LoopN
import Derived.Scope
import Derived.Laws.Sem
set_option linter.unusedSimpArgs false
set_option linter.unusedVariables false
namespace Go.Am

def codeOk (P : Program) : Code → Bool
  | .region _ ops true => ops.all (opOk P) && drawOk P ops
  | .region _ ops false => ops.all (opOk P)
  | .seq x y => codeOk P x && codeOk P y
  | .cond c x y => operOk P c && codeOk P x && codeOk P y
  | .block _ c => codeOk P c
  | .loop c => codeOk P c
  | .scope c => codeOk P c
  | _ => true

def Exit.soft : Exit → Bool
  | .normal | .exit _ | .ret => true
  | _ => false

theorem evIter_soft {f : Act → H → Option (Exit × Act × H)} (hf : ∀ a h e a1 h1, f a h = some (e, a1, h1) → Exit.soft e = true) : ∀ n a h e a1 h1, evIter f n a h = some (e, a1, h1) → Exit.soft e = true
  | 0, _, _, _, _, _, he => by simp [evIter] at he
  | n + 1, a, h, e, a1, h1, he => by
    simp only [evIter] at he
    split at he
    · exact evIter_soft hf n _ _ _ _ _ he
    · exact hf _ _ _ _ _ he

theorem evCode_soft {P : Program} {call : CallF} {n : Nat} : ∀ (c : Code) (a : Act) (h : H) (e : Exit) (a1 : Act) (h1 : H), evCode P call n c a h = some (e, a1, h1) → Exit.soft e = true := by
  intro c
  induction c with
  | skip => intro a h e a1 h1 he; simp only [evCode, Option.some.injEq, Prod.mk.injEq] at he; rw [← he.1]; rfl
  | region id ops d =>
    intro a h e a1 h1 he
    cases d <;> (simp only [evCode, Option.map_eq_some_iff, Prod.mk.injEq] at he; obtain ⟨_, _, h2, _⟩ := he; rw [← h2]; rfl)
  | seq x y ihx ihy =>
    intro a h e a1 h1 he
    simp only [evCode] at he
    split at he
    · exact ihy _ _ _ _ _ he
    · exact ihx _ _ _ _ _ he
  | cond c x y ihx ihy =>
    intro a h e a1 h1 he
    simp only [evCode] at he
    split at he
    · exact ihx _ _ _ _ _ he
    · exact ihy _ _ _ _ _ he
    · cases he
  | block id c ih =>
    intro a h e a1 h1 he
    simp only [evCode] at he
    split at he
    · split at he <;> (simp only [Option.some.injEq, Prod.mk.injEq] at he; rw [← he.1]; rfl)
    · exact ih _ _ _ _ _ he
  | loop c ih =>
    intro a h e a1 h1 he
    simp only [evCode] at he
    exact evIter_soft ih _ _ _ _ _ _ he
  | rangeFunc => intro a h e a1 h1 he; simp [evCode] at he
  | exit => intro a h e a1 h1 he; simp only [evCode, Option.some.injEq, Prod.mk.injEq] at he; rw [← he.1]; rfl
  | scope c ih => intro a h e a1 h1 he; simp only [evCode] at he; exact ih _ _ _ _ _ he
  | label => intro a h e a1 h1 he; simp only [evCode, Option.some.injEq, Prod.mk.injEq] at he; rw [← he.1]; rfl
  | goto => intro a h e a1 h1 he; simp [evCode] at he
  | ret => intro a h e a1 h1 he; simp only [evCode, Option.some.injEq, Prod.mk.injEq] at he; rw [← he.1]; rfl
  | refuse => intro a h e a1 h1 he; simp [evCode] at he

/-- What is to be shown of code. -/
def CSim (P : Program) (f : Act → H → Option (Exit × Act × H)) (W : (Exit → Act → World → Prop) → Act → World → Prop) : Prop :=
  ∀ (a : Act) (h : H) (e : Exit) (a1 : Act) (h1 : H), f a h = some (e, a1, h1) → ∀ (β : Nat → Option Emb) (w : World) (a' : Act), Rel P β h w → GOk P β h → AR β h a a' →
    ∀ Q : Exit → Act → World → Prop, (∀ β' a1' w', AR β' h1 a1 a1' → Rel P β' h1 w' → Evo β h w β' h1 w' → Q e a1' w') → W Q a' w

theorem evIter_sim {P : Program} {f : Act → H → Option (Exit × Act × H)} {c : Code} (hc : CSim P f (c.wp P)) : ∀ n, CSim P (evIter f n) (fun Q a w => Code.rounds P c Q n a w)
  | 0 => by intro a h e a1 h1 he; simp [evIter] at he
  | n + 1 => by
    intro a h e a1 h1 he β w a' hr hG ha Q hq
    simp only [evIter] at he
    show c.wp P (Exit.then (Code.rounds P c Q n) Q) a' w
    split at he
    · rename_i a2 h2 hf
      refine hc a h _ a2 h2 hf β w a' hr hG ha _ fun β' a2' w' p1 p2 p3 => ?_
      exact evIter_sim hc n _ _ _ _ _ he β' w' a2' p2 (hG.evo p3) p1 Q fun β'' a1' w'' q1 q2 q3 => hq β'' a1' w'' q1 q2 (p3.trans q3)
    · rename_i hn
      refine hc a h _ a1 h1 he β w a' hr hG ha _ fun β' a1' w' p1 p2 p3 => ?_
      cases e with
      | normal => exact absurd he (hn _ _)
      | exit id => exact hq β' a1' w' p1 p2 p3
      | goto l => exact hq β' a1' w' p1 p2 p3
      | ret => exact hq β' a1' w' p1 p2 p3
      | panic ch => exact hq β' a1' w' p1 p2 p3
      | outgrown => exact hq β' a1' w' p1 p2 p3

theorem evCode_sim {P : Program} {call : CallF} (hcall : CallOk P call) (hm : P.follows .mixedOrders = true) {n : Nat} : ∀ (c : Code), codeOk P c = true → CSim P (evCode P call n c) (c.wp P) := by
  intro c
  induction c with
  | skip =>
    intro _ a h e a1 h1 he β w a' hr hG ha Q hq
    simp only [evCode, Option.some.injEq, Prod.mk.injEq] at he
    obtain ⟨rfl, rfl, rfl⟩ := he
    exact wp_skip (hq β a' w ha hr hr.refl)
  | region id ops d =>
    intro hok a h e a1 h1 he β w a' hr hG ha Q hq
    cases d with
    | false =>
      simp only [evCode, Option.map_eq_some_iff, Prod.mk.injEq] at he
      obtain ⟨⟨a2, h2⟩, hev, rfl, rfl, rfl⟩ := he
      exact wp_region_list (evOps_sim hcall ops.toList β h w a a' a2 h2 (fun o ho => Array.all_eq_true'.1 hok o (by simpa using ho)) hr hG ha hev hq)
    | true =>
      simp only [evCode, Option.map_eq_some_iff, Prod.mk.injEq] at he
      obtain ⟨⟨a2, h2⟩, hev, rfl, rfl, rfl⟩ := he
      simp only [codeOk, Bool.and_eq_true] at hok
      exact evDraw_sim hcall hm (fun o ho => Array.all_eq_true'.1 hok.1 o ho) hok.2 hr hG ha hev hq
  | seq x y ihx ihy =>
    intro hok a h e a1 h1 he β w a' hr hG ha Q hq
    simp only [codeOk, Bool.and_eq_true] at hok
    simp only [evCode] at he
    refine wp_seq ?_
    split at he
    · rename_i a2 h2 hx
      refine ihx hok.1 a h _ a2 h2 hx β w a' hr hG ha _ fun β' a2' w' p1 p2 p3 => ?_
      exact ihy hok.2 _ _ _ _ _ he β' w' a2' p2 (hG.evo p3) p1 Q fun β'' a1' w'' q1 q2 q3 => hq β'' a1' w'' q1 q2 (p3.trans q3)
    · rename_i hn
      refine ihx hok.1 a h _ a1 h1 he β w a' hr hG ha _ fun β' a1' w' p1 p2 p3 => ?_
      cases e with
      | normal => exact absurd he (hn _ _)
      | exit id => exact hq β' a1' w' p1 p2 p3
      | goto l => exact hq β' a1' w' p1 p2 p3
      | ret => exact hq β' a1' w' p1 p2 p3
      | panic ch => exact hq β' a1' w' p1 p2 p3
      | outgrown => exact hq β' a1' w' p1 p2 p3
  | cond c x y ihx ihy =>
    intro hok a h e a1 h1 he β w a' hr hG ha Q hq
    simp only [codeOk, Bool.and_eq_true] at hok
    simp only [evCode] at he
    have hv : VRh β h (a.eval c) (a'.eval c) := eval_vr hG hok.1.1 fun t _ => getD_vr ha.tmps t
    split at he
    · rename_i hc
      rw [hc] at hv
      exact wp_cond_true (vr_bool hv) (ihx hok.1.2 _ _ _ _ _ he β w a' hr hG ha Q hq)
    · rename_i hc
      rw [hc] at hv
      exact wp_cond_false (vr_bool hv) (ihy hok.2 _ _ _ _ _ he β w a' hr hG ha Q hq)
    · cases he
  | block id c ih =>
    intro hok a h e a1 h1 he β w a' hr hG ha Q hq
    simp only [codeOk] at hok
    simp only [evCode] at he
    refine wp_block ?_
    split at he
    · rename_i i a2 h2 hx
      refine ih hok a h _ a2 h2 hx β w a' hr hG ha _ fun β' a2' w' p1 p2 p3 => ?_
      simp only [Exit.inBlock]
      split at he <;> rename_i hi <;>
        (simp only [Option.some.injEq, Prod.mk.injEq] at he
         obtain ⟨rfl, rfl, rfl⟩ := he
         first | rw [if_pos hi] | rw [if_neg hi]
         exact hq β' a2' w' p1 p2 p3)
    · rename_i hn
      refine ih hok a h _ a1 h1 he β w a' hr hG ha _ fun β' a1' w' p1 p2 p3 => ?_
      cases e with
      | normal => exact hq β' a1' w' p1 p2 p3
      | exit id => exact absurd he (hn _ _ _)
      | goto l => exact hq β' a1' w' p1 p2 p3
      | ret => exact hq β' a1' w' p1 p2 p3
      | panic ch => exact hq β' a1' w' p1 p2 p3
      | outgrown => exact hq β' a1' w' p1 p2 p3
  | loop c ih =>
    intro hok a h e a1 h1 he β w a' hr hG ha Q hq
    simp only [evCode] at he
    exact wp_loop_rounds n (evIter_sim (ih hok) n a h e a1 h1 he β w a' hr hG ha Q hq)
  | rangeFunc => intro _ a h e a1 h1 he; simp [evCode] at he
  | exit id =>
    intro _ a h e a1 h1 he β w a' hr hG ha Q hq
    simp only [evCode, Option.some.injEq, Prod.mk.injEq] at he
    obtain ⟨rfl, rfl, rfl⟩ := he
    exact wp_exit (hq β a' w ha hr hr.refl)
  | scope c ih =>
    intro hok a h e a1 h1 he β w a' hr hG ha Q hq
    simp only [evCode] at he
    refine wp_scope_straight (ih hok a h e a1 h1 he β w a' hr hG ha _ fun β' a1' w' p1 p2 p3 => ?_)
    have hs := evCode_soft c _ _ _ _ _ he
    cases e with
    | normal => exact hq β' a1' w' p1 p2 p3
    | exit id => exact hq β' a1' w' p1 p2 p3
    | goto l => cases hs
    | ret => exact hq β' a1' w' p1 p2 p3
    | panic ch => exact hq β' a1' w' p1 p2 p3
    | outgrown => exact hq β' a1' w' p1 p2 p3
  | label l =>
    intro _ a h e a1 h1 he β w a' hr hG ha Q hq
    simp only [evCode, Option.some.injEq, Prod.mk.injEq] at he
    obtain ⟨rfl, rfl, rfl⟩ := he
    exact wp_label (hq β a' w ha hr hr.refl)
  | goto => intro _ a h e a1 h1 he; simp [evCode] at he
  | ret =>
    intro _ a h e a1 h1 he β w a' hr hG ha Q hq
    simp only [evCode, Option.some.injEq, Prod.mk.injEq] at he
    obtain ⟨rfl, rfl, rfl⟩ := he
    exact wp_ret (hq β a' w ha hr hr.refl)
  | refuse => intro _ a h e a1 h1 he; simp [evCode] at he

/-! ### results -/
def resOne (tmps : Array Value) : ResultVar → Sem Value
  | .tmp t => pure (tmps.getD t undef)
  | .cell a t => do loadVar t (← asAddr (tmps.getD a undef))

theorem cLoad_ptr {P : Program} {t : TypeId} {x v : Value} {h : H} (he : cLoad P t x h = some v) : ∃ b o, x = .pointer (some ⟨b, o, none⟩) := by
  unfold cLoad at he
  split at he
  · exact ⟨_, _, rfl⟩
  · cases he

theorem cRes_sim {P : Program} {β : Nat → Option Emb} {h : H} {w : World} (hr : Rel P β h w) {c c' : Array Value} (hc : VRA β (· < h.size) c c') {r : ResultVar} {v : Value} (he : cRes P c h r = some v) :
    ∃ v', (resOne c' r).run P w = .ok v' w ∧ VRh β h v v' := by
  cases r with
  | tmp t =>
    simp only [cRes, Option.some.injEq] at he
    subst he
    exact ⟨_, rfl, getD_vr hc t⟩
  | cell a t =>
    simp only [cRes] at he
    have hx := getD_vr hc a
    obtain ⟨b, o, hbo⟩ := cLoad_ptr he
    obtain ⟨v', h1, h2⟩ := cLoad_sim hr hx he
    refine ⟨v', ?_, h2⟩
    rw [hbo] at hx
    simp only [resOne]
    generalize c'.getD a undef = x' at hx h1 ⊢
    cases hx with
    | ptr _ _ a' hk ha => 
      simpa only [asAddr, Instr.loadAt, Instr.sureAddr, Sem.run_bind, Sem.run_pure, Result.andThen_ok] using h1

theorem mapM_sim {P : Program} {β : Nat → Option Emb} {h : H} {w : World} (hr : Rel P β h w) {c c' : Array Value} (hc : VRA β (· < h.size) c c') : ∀ (l : List ResultVar) (vs : List Value), l.mapM (cRes P c h) = some vs →
    ∃ vs', (l.mapM (resOne c')).run P w = .ok vs' w ∧ VRL β (· < h.size) vs vs'
  | [], vs, he => by
    simp only [List.mapM_nil] at he
    cases he
    exact ⟨[], by simp, .nil⟩
  | r :: l, vs, he => by
    rw [List.mapM_cons] at he
    simp only [Option.bind_eq_bind, Option.bind_eq_some_iff] at he
    obtain ⟨v, h1, vs1, h2, h3⟩ := he
    cases h3
    obtain ⟨v', p1, p2⟩ := cRes_sim hr hc h1
    obtain ⟨vs', q1, q2⟩ := mapM_sim hr hc l vs1 h2
    refine ⟨v' :: vs', ?_, .cons _ _ _ _ p2 q2⟩
    rw [List.mapM_cons]
    simp only [Sem.run_bind, p1, q1, Result.andThen_ok, Sem.run_pure]

theorem results_sim {P : Program} {β : Nat → Option Emb} {h : H} {w : World} (hr : Rel P β h w) {c c' : Array Value} (hc : VRA β (· < h.size) c c') {fn : Func} {v : Value} (he : evResults P fn c h = some v) :
    ∃ v', (results fn c').run P w = .ok v' w ∧ VRh β h v v' := by
  unfold evResults at he
  simp only [Option.map_eq_some_iff] at he
  obtain ⟨vs, h1, h2⟩ := he
  obtain ⟨vs', q1, q2⟩ := mapM_sim hr hc _ _ h1
  have hres : results fn c' = (fn.results.toList.mapM (resOne c')) >>= fun vs => pure (if h : vs.toArray.size = 1 then vs.toArray[0] else .tuple vs.toArray) := by
    unfold results
    rw [Array.mapM_eq_mapM_toList]
    simp only [map_eq_pure_bind, bind_assoc, pure_bind]
    rfl
  rw [hres]
  simp only [Sem.run_bind, q1, Result.andThen_ok, Sem.run_pure]
  refine ⟨_, rfl, ?_⟩
  split at h2
  · subst h2
    cases q2 with
    | cons _ _ _ _ p1 p2 =>
      cases p2
      exact p1
  · rename_i hn
    subst h2
    have hlen := q2.length
    have hne : ¬ vs'.toArray.size = 1 := by
      intro h1
      rw [List.size_toArray, hlen] at h1
      match vs, hn, h1 with
      | [v], hn, _ => exact hn v rfl
    rw [dif_neg hne]
    exact .tuple _ _ q2

theorem evCall_sim {P : Program} (hm : P.follows .mixedOrders = true) {ok : FuncId → Bool} {X : Hooks} (hok : ∀ f fn c, ok f = true → P.funcs[f]? = some fn → fn.body = some c → codeOk P c = true)
    (hX : ∀ f g, X f = some g → CallOk P (fun f' args h => if f' = f then g args h else none)) : ∀ n, CallOk P (evCall P ok X n)
  | 0 => by intro f args h v h1 he; simp [evCall] at he
  | n + 1 => by
    intro f args h v h1 he β w args' hr hG hargs
    simp only [evCall] at he
    split at he
    · rename_i g hg
      exact hX f g hg f args h v h1 (by simp [he]) β w args' hr hG hargs
    · split at he
      · cases he
      rename_i hokf
      split at he
      · rename_i fn hfn
        split at he
        · rename_i c hc
          have key : ∀ (e : Exit) (a : Act) (h2 : H), evCode P (evCall P ok X n) n c { tmps := args ++ Array.replicate (fn.ntmps - args.size) undef, defers := [] } h = some (e, a, h2) → (e = .normal ∨ e = .ret) → (evResults P fn a.tmps h2).map (·, h2) = some (v, h1) →
              Calls P f args' w fun e w' => ∃ v' β', e = .returned v' ∧ VRh β' h1 v v' ∧ Rel P β' h1 w' ∧ Evo β h w β' h1 w' := by
            intro e a h2 hev hexit hres
            simp only [Option.map_eq_some_iff, Prod.mk.injEq] at hres
            obtain ⟨v0, hres, rfl, rfl⟩ := hres
            refine calls_of_wp hfn hc ?_
            have hsz : args'.size = args.size := hargs.size
            refine evCode_sim (evCall_sim hm hok hX n) hm c (hok f fn c (by simpa using hokf) hfn hc) _ h e a h2 hev β w _ hr hG ⟨?_, rfl, rfl⟩ _ fun β' a' w' p1 p2 p3 => ?_
            · rw [hsz]
              refine hargs.append (.of_get rfl fun i u u' h3 h4 => ?_)
              rw [Array.getElem?_replicate] at h3 h4
              split at h3
              · cases h3; split at h4 <;> cases h4 <;> exact VR.undef
              · cases h3
            · obtain ⟨v', q1, q2⟩ := results_sim p2 p1.tmps hres
              have hpost : a'.defers = [] ∧ ∃ v, (results fn a'.tmps).run P w' = .ok v w' ∧ ∃ v' β', Ending.returned v = .returned v' ∧ VRh β' h2 v0 v' ∧ Rel P β' h2 w' ∧ Evo β h w β' h2 w' :=
                ⟨p1.d', v', q1, v', β', rfl, q2, p2, p3⟩
              rcases hexit with rfl | rfl <;> exact hpost
          split at he
          · rename_i a h2 hev; exact key _ a h2 hev (.inl rfl) he
          · rename_i a h2 hev; exact key _ a h2 hev (.inr rfl) he
          · cases he
        · cases he
      · cases he
end Go.Am
