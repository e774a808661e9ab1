/- One operation, and regions whose order is fixed. -/
import Derived.Test.YtfmikgbachnneaaDoorAm6
set_option linter.unusedSimpArgs false
set_option linter.unusedVariables false
namespace Go.Am
section
variable {P : Program} {β : Nat → Option Emb} {h : H} {w : World}

def GOk (P : Program) (β : Nat → Option Emb) (h : H) : Prop := P.globals.size ≤ h.size ∧ ∀ g e, g < P.globals.size → β g = some e → e.blk = g ∧ e.shift = 0
theorem GOk.evo (hG : GOk P β h) {β' : Nat → Option Emb} {h' : H} {w' : World} (hE : Evo β h w β' h' w') : GOk P β' h' :=
  ⟨Nat.le_trans hG.1 hE.hsize, fun g e hg he => by
    rcases hE.old g (Nat.lt_of_lt_of_le hg hG.1) with k | k
    · exact hG.2 g e hg (k ▸ he)
    · rw [k] at he; cases he⟩

structure AR (β : Nat → Option Emb) (h : H) (a a' : Act) : Prop where
  tmps : VRA β (· < h.size) a.tmps a'.tmps
  d : a.defers = []
  d' : a'.defers = []

theorem VR.evo {v v' : Value} (hv : VRh β h v v') {β' : Nat → Option Emb} {h' : H} {w' : World} (hE : Evo β h w β' h' w') : VRh β' h' v v' := hv.mono (fun _ hb => Nat.lt_of_lt_of_le hb hE.hsize) hE.old
theorem VRA.evo {v v' : Array Value} (hv : VRA β (· < h.size) v v') {β' : Nat → Option Emb} {h' : H} {w' : World} (hE : Evo β h w β' h' w') : VRA β' (· < h'.size) v v' := hv.mono (fun _ hb => Nat.lt_of_lt_of_le hb hE.hsize) hE.old
theorem AR.evo {a a' : Act} (ha : AR β h a a') {β' : Nat → Option Emb} {h' : H} {w' : World} (hE : Evo β h w β' h' w') : AR β' h' a a' := ⟨ha.tmps.evo hE, ha.d, ha.d'⟩
theorem AR.put {a a' : Act} (ha : AR β h a a') {v v' : Value} (hv : VRh β h v v') (d : Option Tmp) : AR β h (a.put d v) (a'.put d v') := by
  cases d with
  | none => exact ha
  | some t => exact ⟨ha.tmps.set hv t, ha.d, ha.d'⟩

theorem eval_vr (hG : GOk P β h) {a a' : Act} {x : Operand} (hx : operOk P x = true) (ht : ∀ t, x = .tmp t → VRh β h (a.tmps.getD t undef) (a'.tmps.getD t undef)) : VRh β h (a.eval x) (a'.eval x) := by
  cases x with
  | tmp t => exact ht t rfl
  | const v => exact VR.of_af hx
  | global g =>
    have hg : g < P.globals.size := by simpa [operOk] using hx
    exact .ptr _ _ _ (Nat.lt_of_lt_of_le hg hG.1) fun e he => by rw [(hG.2 g e hg he).1, (hG.2 g e hg he).2]
  | func f => exact .func _ _ _ _ _ .nil .nil
theorem getD_vr {c c' : Array Value} {K : Nat → Prop} (hc : VRA β K c c') (t : Nat) : VR β K (c.getD t undef) (c'.getD t undef) := by
  rw [Array.getD_eq_getD_getElem?, Array.getD_eq_getD_getElem?]
  cases hv : c[t]? with
  | none =>
    have : c'[t]? = none := by rw [Array.getElem?_eq_none_iff, hc.size]; simpa using hv
    rw [this]; exact VR.undef
  | some v =>
    obtain ⟨v', h1, h2⟩ := hc.get hv
    rw [h1]; exact h2
theorem AR.er {a a' : Act} (ha : AR β h a a') (hG : GOk P β h) {o : Oper} (ho : opOk P o = true) : ER β (· < h.size) o a.eval a'.eval := fun x hx =>
  eval_vr hG (Array.all_eq_true'.1 ho x hx) fun t _ => getD_vr ha.tmps t

def CallOk (P : Program) (call : CallF) : Prop := ∀ f args h v h1, call f args h = some (v, h1) → ∀ β w args', Rel P β h w → GOk P β h → VRA β (· < h.size) args args' →
  Calls P f args' w fun e w' => ∃ v' β', e = .returned v' ∧ VRh β' h1 v v' ∧ Rel P β' h1 w' ∧ Evo β h w β' h1 w'

theorem evOp_sim {call : CallF} (hcall : CallOk P call) (hr : Rel P β h w) (hG : GOk P β h) {o : Oper} {a a' : Act} (hρ : ER β (· < h.size) o a.eval a'.eval) {v : Value} {h1 : H} (he : evOp P call o a.eval h = some (v, h1))
    {next : Act → World → Prop} {Q : Exit → Act → World → Prop} (hn : ∀ β' v' w', VRh β' h1 v v' → Rel P β' h1 w' → Evo β h w β' h1 w' → next (a'.put o.dst v') w') : o.wp P a' w next Q := by
  unfold Oper.wp
  unfold evOp at he
  split at he
  · rename_i hc
    cases hp : evPure P o a.eval with
    | none => rw [hp] at he; simp at he
    | some u =>
      rw [hp] at he
      simp only [Option.map_some, Option.some.injEq, Prod.mk.injEq] at he
      obtain ⟨rfl, rfl⟩ := he
      obtain ⟨v', q1, q2⟩ := evPure_sim hρ hc hp
      rw [q1 w]
      exact hn β v' w q2 hr hr.refl
  · cases hp : evRead P o a.eval h with
    | none => rw [hp] at he; simp at he
    | some u =>
      rw [hp] at he
      simp only [Option.map_some, Option.some.injEq, Prod.mk.injEq] at he
      obtain ⟨rfl, rfl⟩ := he
      obtain ⟨v', q1, q2⟩ := evRead_sim hr hρ hp
      rw [q1]
      exact hn β v' w q2 hr hr.refl
  · rcases evEff_sim hr hρ he with ⟨β', v', w', q1, q2, q3, q4⟩ | ⟨g, args, args', q1, q2, q3⟩
    · rcases q1 with q1 | ⟨q1, rfl⟩
      · rw [q1]; exact hn β' v' w' q2 q3 q4
      · rw [q1]; exact hn β' undef w' q2 q3 q4
    · rw [q3]
      refine (hcall _ _ _ _ _ q1 β w args' hr hG q2).mono ?_
      rintro e w' ⟨v', β', rfl, p1, p2, p3⟩
      exact hn β' v' w' p1 p2 p3

theorem want_sim {K : Nat → Prop} {ops : Array Oper} {o : Oper} {c c' : Array Value} {b : Bool} (hw : want ops o c = some b)
    (ht : ∀ j bb t, o.guard = some (j, bb) → (ops[j]?).bind (·.dst) = some t → ∀ v, c[t]? = some v → ∃ v', c'[t]? = some v' ∧ VR β K v v') : Region.wanted o (yielded ops c') = b := by
  unfold want at hw
  unfold Region.wanted
  cases hg : o.guard with
  | none => rw [hg] at hw; cases hw; rfl
  | some p =>
    obtain ⟨j, bb⟩ := p
    rw [hg] at hw
    simp only at hw ⊢
    cases hd : (ops[j]?).bind (·.dst) with
    | none => rw [hd] at hw; simp at hw
    | some t =>
      rw [hd] at hw
      simp only [Option.bind_some] at hw
      cases hv : c[t]? with
      | none => rw [hv] at hw; simp at hw
      | some v =>
        rw [hv] at hw
        obtain ⟨v', h1, h2⟩ := ht j bb t hg hd v hv
        simp only [yielded, hd, Option.bind_some, h1]
        split at hw
        · rename_i c0 heq
          cases heq
          cases hw
          rw [vr_bool h2]
          cases c0 <;> cases bb <;> rfl
        · rename_i c0 heq
          cases heq
          split at hw
          · cases hw
            cases h2 with
            | tuple _ c'' hc =>
              cases bb <;> rfl
          · cases hw
        · cases hw

theorem evOps_sim {call : CallF} (hcall : CallOk P call) {ops : Array Oper} {Q : Exit → Act → World → Prop} : ∀ (l : List Oper) (β : Nat → Option Emb) (h : H) (w : World) (a a' a1 : Act) (h1 : H), (∀ o ∈ l, opOk P o = true) → Rel P β h w → GOk P β h → AR β h a a' →
    evOps P call ops l a h = some (a1, h1) → (∀ β' a1' w', AR β' h1 a1 a1' → Rel P β' h1 w' → Evo β h w β' h1 w' → Q .normal a1' w') → wpList P ops Q l a' w
  | [], β, h, w, a, a', a1, h1, _, hr, _, ha, he, hq => by
    simp only [evOps, Option.some.injEq, Prod.mk.injEq] at he
    obtain ⟨rfl, rfl⟩ := he
    exact hq β a' w ha hr hr.refl
  | o :: rest, β, h, w, a, a', a1, h1, ho, hr, hG, ha, he, hq => by
    simp only [evOps] at he
    refine wpList_step fun K hK => ?_
    split at he
    · rename_i hw
      rw [want_sim hw (fun _ _ t _ _ v hv => ha.tmps.get hv)]
      simp only [if_true]
      split at he
      · rename_i v h2 hop
        refine evOp_sim hcall hr hG (ha.er hG (ho o (by simp))) hop fun β' v' w' q1 q2 q3 => hK _ _ ?_
        exact evOps_sim hcall rest β' h2 w' _ _ a1 h1 (fun x hx => ho x (by simp [hx])) q2 (hG.evo q3) ((ha.evo q3).put q1 o.dst) he fun β'' a1' w'' p1 p2 p3 => hq β'' a1' w'' p1 p2 (q3.trans p3)
      · cases he
    · rename_i hw
      rw [want_sim hw (fun _ _ t _ _ v hv => ha.tmps.get hv)]
      simp only [Bool.false_eq_true, if_false]
      refine hK _ _ ?_
      exact evOps_sim hcall rest β h w _ _ a1 h1 (fun x hx => ho x (by simp [hx])) hr hG (ha.put VR.undef o.dst) he hq
    · cases he
end
end Go.Am
