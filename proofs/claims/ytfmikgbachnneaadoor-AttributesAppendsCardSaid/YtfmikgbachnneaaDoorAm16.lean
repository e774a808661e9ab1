/- The evaluator that drops what a call has left behind. -/
import Derived.Test.YtfmikgbachnneaaDoorAm15
set_option linter.unusedSimpArgs false
set_option linter.unusedVariables false
namespace Go.Am

/-! ### values that point below n only -/
def noB : Nat → Option Emb := fun _ => none
def Clo (n : Nat) (v : Value) : Prop := VR noB (· < n) v v
def CloO (n : Nat) : HObj → Prop
  | .cells cs _ _ => ∀ (i : Nat) (v : Value), cs[i]? = some v → Clo n v
  | .map es _ _ => ∀ (i : Nat) (x : MapEntry), es[i]? = some x → Clo n x.key ∧ Clo n x.val
  | .iter m _ _ _ => Clo n (.map m)
  | _ => True
section
variable {β β' : Nat → Option Emb} {K K' : Nat → Prop}
mutual
theorem VR.clo : ∀ {v v' : Value}, VR β K v v' → VR noB K v v
  | _, _, .any v' => .any _
  | _, _, .bool b => .bool b
  | _, _, .int k n => .int k n
  | _, _, .float k b => .float k b
  | _, _, .complex k a b => .complex k a b
  | _, _, .string s => .string s
  | _, _, .ptrNil => .ptrNil
  | _, _, .ptr b o a' hk h => .ptr b o _ hk (fun e he => by cases he)
  | _, _, .sliceNil l c => .sliceNil l c
  | _, _, .slice b o len cap a' cap' hk h => .slice b o len cap _ cap hk (fun e he => by cases he)
  | _, _, .mapNil => .mapNil
  | _, _, .map r r' hk h => .map r r hk (fun e he => by cases he)
  | _, _, .func fn f c f' c' hf hc => .func fn f c f c (VRL.clo hf) (VRL.clo hc)
  | _, _, .nilFunc => .nilFunc
  | _, _, .nilIface => .nilIface
  | _, _, .iface t v v' h => .iface t v v (VR.clo h)
  | _, _, .agg c c' h => .agg c c (VRL.clo h)
  | _, _, .tuple c c' h => .tuple c c (VRL.clo h)
theorem VRL.clo : ∀ {l l' : List Value}, VRL β K l l' → VRL noB K l l
  | _, _, .nil => .nil
  | _, _, .cons v v' l l' h t => .cons v v l l (VR.clo h) (VRL.clo t)
end
mutual
theorem VR.narrow (hb : ∀ b, K' b → β' b = β b ∨ β' b = none) : ∀ {v v' : Value}, VR β K v v' → VR noB K' v v → VR β' K' v v'
  | _, _, .any v', _ => .any v'
  | _, _, .bool b, _ => .bool b
  | _, _, .int k n, _ => .int k n
  | _, _, .float k b, _ => .float k b
  | _, _, .complex k a b, _ => .complex k a b
  | _, _, .string s, _ => .string s
  | _, _, .ptrNil, _ => .ptrNil
  | _, _, .ptr b o a' hk h, hc => by
    cases hc with
    | ptr _ _ _ hk' _ => exact .ptr b o a' hk' (fun e he => by rcases hb b hk' with h1 | h1 <;> rw [h1] at he; exact h e he; cases he)
  | _, _, .sliceNil l c, _ => .sliceNil l c
  | _, _, .slice b o len cap a' cap' hk h, hc => by
    cases hc with
    | slice _ _ _ _ _ _ hk' _ => exact .slice b o len cap a' cap' hk' (fun e he => by rcases hb b hk' with h1 | h1 <;> rw [h1] at he; exact h e he; cases he)
  | _, _, .mapNil, _ => .mapNil
  | _, _, .map r r' hk h, hc => by
    cases hc with
    | map _ _ hk' _ => exact .map r r' hk' (fun e he => by rcases hb r hk' with h1 | h1 <;> rw [h1] at he; exact h e he; cases he)
  | _, _, .func fn f c f' c' hf hc, hh => by
    cases hh with
    | func _ _ _ _ _ k1 k2 => exact .func fn f c f' c' (VRL.narrow hb hf k1) (VRL.narrow hb hc k2)
  | _, _, .nilFunc, _ => .nilFunc
  | _, _, .nilIface, _ => .nilIface
  | _, _, .iface t v v' h, hc => by
    cases hc with
    | iface _ _ _ k => exact .iface t v v' (VR.narrow hb h k)
  | _, _, .agg c c' h, hc => by
    cases hc with
    | agg _ _ k => exact .agg c c' (VRL.narrow hb h k)
  | _, _, .tuple c c' h, hc => by
    cases hc with
    | tuple _ _ k => exact .tuple c c' (VRL.narrow hb h k)
theorem VRL.narrow (hb : ∀ b, K' b → β' b = β b ∨ β' b = none) : ∀ {l l' : List Value}, VRL β K l l' → VRL noB K' l l → VRL β' K' l l'
  | _, _, .nil, _ => .nil
  | _, _, .cons v v' l l' h t, hc => by
    cases hc with
    | cons _ _ _ _ k1 k2 => exact .cons v v' l l' (VR.narrow hb h k1) (VRL.narrow hb t k2)
end
theorem Clo.mono {n m : Nat} (hn : n ≤ m) {v : Value} (h : Clo n v) : Clo m v := VR.mono (fun _ hb => Nat.lt_of_lt_of_le hb hn) (fun _ _ => .inl rfl) h
theorem CloO.mono {n m : Nat} (hn : n ≤ m) {o : HObj} (h : CloO n o) : CloO m o := by
  cases o with
  | cells cs T k => exact fun i v hv => (h i v hv).mono hn
  | map es c k => exact fun i x hx => ⟨(h i x hx).1.mono hn, (h i x hx).2.mono hn⟩
  | iter m s a b => exact Clo.mono hn h
  | _ => trivial
theorem Clo.of_af {n : Nat} {v : Value} (h : af v = true) : Clo n v := VR.of_af h
theorem ORel.clo {P : Program} {n : Nat} {e : Emb} {o : HObj} {o' : Obj} (h : ORel P β (· < n) e o o') : CloO n o := by
  cases o with
  | cells cs T k =>
    cases o' <;> simp only [ORel] at h
    exact fun i v hv => let ⟨_, _, b⟩ := h.2.2.1 i v hv; b.clo
  | map es clock k =>
    cases o' <;> simp only [ORel] at h
    obtain ⟨h1, h2, h3⟩ := h
    intro i x hx
    have hi := (Array.getElem?_eq_some_iff.1 hx).1
    have := h3 i x _ hx (Array.getElem?_eq_getElem (by omega))
    exact ⟨this.1.clo, this.2.1.clo⟩
  | iter m s a b =>
    cases o' <;> simp only [ORel] at h
    exact h.1.clo
  | _ => trivial
theorem ORel.narrow {P : Program} {n : Nat} (hb : ∀ b, b < n → β' b = β b ∨ β' b = none) {e : Emb} {o : HObj} {o' : Obj} (h : ORel P β K e o o') (hc : CloO n o) : ORel P β' (· < n) e o o' := by
  cases o with
  | cells cs T k =>
    cases o' <;> simp only [ORel] at h ⊢
    exact ⟨h.1, h.2.1, fun i v hv => let ⟨v', a, b⟩ := h.2.2.1 i v hv; ⟨v', a, b.narrow hb (hc i v hv)⟩, h.2.2.2⟩
  | map es clock k =>
    cases o' <;> simp only [ORel] at h ⊢
    obtain ⟨h1, h2, h3⟩ := h
    exact ⟨h1, h2, fun i x x' a b => let ⟨u, v, w⟩ := h3 i x x' a b; ⟨u.narrow hb (hc i x a).1, v.narrow hb (hc i x a).2, w⟩⟩
  | iter m since seen stepped =>
    cases o' <;> simp only [ORel] at h ⊢
    exact ⟨h.1.narrow hb hc, h.2⟩
  | siter s pos => cases o' <;> simp only [ORel] at h ⊢; exact h
  | dead => cases o' <;> simp [ORel] at h
end

/-! ### dropping the last blocks -/
open Classical in
noncomputable def gc (h h1 : H) (v : Value) : H := if Ext h h1 ∧ Clo h.size v then h else h1
theorem gc_same {h h1 : H} {v : Value} (he : Ext h h1) (hv : Clo h.size v) : gc h h1 v = h := by unfold gc; rw [if_pos ⟨he, hv⟩]
noncomputable def gcIf (b : Bool) (h h1 : H) (v : Value) : H := match b with
  | true => gc h h1 v
  | false => h1

theorem gc_sim {P : Program} {β β' : Nat → Option Emb} {h h1 : H} {w w' : World} {v v' : Value} (hr : Rel P β h w) (hr1 : Rel P β' h1 w') (hv : VRh β' h1 v v') (hE : Evo β h w β' h1 w') :
    ∃ β'', VRh β'' (gc h h1 v) v v' ∧ Rel P β'' (gc h h1 v) w' ∧ Evo β h w β'' (gc h h1 v) w' := by
  by_cases hc : Ext h h1 ∧ Clo h.size v
  · obtain ⟨hx, hcl⟩ := hc
    rw [gc_same hx hcl]
    let β'' : Nat → Option Emb := fun b => if b < h.size then β' b else none
    have hin : ∀ b e, β'' b = some e → b < h.size ∧ β' b = some e := fun b e hb => by
      simp only [β''] at hb
      split at hb
      · exact ⟨by assumption, hb⟩
      · cases hb
    have hbb : ∀ b, b < h.size → β'' b = β' b := fun b hb => by simp only [β'', if_pos hb]
    have hlt : ∀ b o, h[b]? = some o → b < h.size := fun b o hb => (Array.getElem?_eq_some_iff.1 hb).1
    refine ⟨β'', ?_, ⟨?_, ?_, ?_⟩, ?_⟩
    · exact hv.narrow (fun b hb => .inl (hbb b hb)) hcl
    · intro b o hb hd
      rw [hbb b (hlt b o hb)]
      exact hr1.live b o (by rw [hx.get b (hlt b o hb)]; exact hb) hd
    · intro b e hb
      obtain ⟨hl, hb'⟩ := hin b e hb
      obtain ⟨o, o', k1, k2, k3⟩ := hr1.obj b e hb'
      rw [hx.get b hl] at k1
      refine ⟨o, o', k1, k2, ?_⟩
      refine k3.narrow (fun b hb => .inl (hbb b hb)) ?_
      have : β b = some e := by
        rcases hE.old b hl with q | q
        · rw [← q]; exact hb'
        · rw [q] at hb'; cases hb'
      obtain ⟨o2, o2', q1, _, q3⟩ := hr.obj b e this
      rw [k1] at q1; cases q1
      exact q3.clo
    · intro b c e f hb hc hbc
      obtain ⟨hl, hb'⟩ := hin b e hb
      obtain ⟨hl2, hc'⟩ := hin c f hc
      rcases hr1.inj b c e f hb' hc' hbc with k | ⟨k1, k2⟩
      · exact .inl k
      · exact .inr ⟨(roAt_of_eq (hx.get b hl)).1 k1, (roAt_of_eq (hx.get c hl2)).1 k2⟩
    · refine ⟨Nat.le_refl _, fun b hb => ?_, fun b e hb hro => ?_, fun b e hb hn => absurd (hin b e hb).1 hn, hE.wsize, hE.keep, hE.os, hE.tape, hE.output⟩
      · rw [hbb b hb]; exact hE.old b hb
      · exact ⟨by rw [hbb b (hr.lt hb)]; exact (hE.ro b e hb hro).1, rfl⟩
  · have hg : gc h h1 v = h1 := by unfold gc; rw [if_neg hc]
    rw [hg]
    exact ⟨β', hv, hr1, hE⟩
theorem gcIf_sim {P : Program} {β β' : Nat → Option Emb} {h h1 : H} {w w' : World} {v v' : Value} (b : Bool) (hr : Rel P β h w) (hr1 : Rel P β' h1 w') (hv : VRh β' h1 v v') (hE : Evo β h w β' h1 w') :
    ∃ β'', VRh β'' (gcIf b h h1 v) v v' ∧ Rel P β'' (gcIf b h h1 v) w' ∧ Evo β h w β'' (gcIf b h h1 v) w' := by
  cases b with
  | true => exact gc_sim hr hr1 hv hE
  | false => exact ⟨β', hv, hr1, hE⟩

noncomputable def evG (P : Program) (ok nu : FuncId → Bool) (X : Hooks) : Nat → CallF
  | 0, _, _, _ => none
  | n + 1, f, args, h => match X f with
    | some g => g args h
    | none => if ok f = false then none else match P.funcs[f]? with
      | some fn => match fn.body with
        | some c => match evCode P (evG P ok nu X n) n c { tmps := args ++ Array.replicate (fn.ntmps - args.size) undef, defers := [] } h with
          | some (.normal, a, h1) | some (.ret, a, h1) => (evResults P fn a.tmps h1).map fun v => (v, gcIf (nu f) h h1 v)
          | _ => none
        | none => none
      | none => none
theorem evG_sim {P : Program} (hm : P.follows .mixedOrders = true) {ok nu : FuncId → Bool} {X : Hooks} (hok : ∀ f fn c, ok f = true → P.funcs[f]? = some fn → fn.body = some c → codeOk P c = true)
    (hX : ∀ f g, X f = some g → CallOk P (fun f' args h => if f' = f then g args h else none)) : ∀ n, CallOk P (evG P ok nu X n)
  | 0 => by intro f args h v h1 he; simp [evG] at he
  | n + 1 => by
    intro f args h v h1 he β w args' hr hG hargs
    simp only [evG] at he
    split at he
    · rename_i g hg
      exact hX f g hg f args h v h1 (by simp [he]) β w args' hr hG hargs
    · split at he
      · cases he
      rename_i hokf
      split at he
      · rename_i fn hfn
        split at he
        · rename_i c hc
          have key : ∀ (e : Exit) (a : Act) (h2 : H), evCode P (evG P ok nu X n) n c { tmps := args ++ Array.replicate (fn.ntmps - args.size) undef, defers := [] } h = some (e, a, h2) → (e = .normal ∨ e = .ret) → (evResults P fn a.tmps h2).map (fun v => (v, gcIf (nu f) h h2 v)) = some (v, h1) →
              Calls P f args' w fun e w' => ∃ v' β', e = .returned v' ∧ VRh β' h1 v v' ∧ Rel P β' h1 w' ∧ Evo β h w β' h1 w' := by
            intro e a h2 hev hexit hres
            simp only [Option.map_eq_some_iff, Prod.mk.injEq] at hres
            obtain ⟨v0, hres, rfl, rfl⟩ := hres
            refine calls_of_wp hfn hc ?_
            have hsz : args'.size = args.size := hargs.size
            refine evCode_sim (evG_sim hm hok hX n) hm c (hok f fn c (by simpa using hokf) hfn hc) _ h e a h2 hev β w _ hr hG ⟨?_, rfl, rfl⟩ _ fun β' a' w' p1 p2 p3 => ?_
            · rw [hsz]
              refine hargs.append (.of_get rfl fun i u u' h3 h4 => ?_)
              rw [Array.getElem?_replicate] at h3 h4
              split at h3
              · cases h3; split at h4 <;> cases h4 <;> exact VR.undef
              · cases h3
            · obtain ⟨v', q1, q2⟩ := results_sim p2 p1.tmps hres
              obtain ⟨β'', r1, r2, r3⟩ := gcIf_sim (nu f) hr p2 q2 p3
              have hpost : a'.defers = [] ∧ ∃ v, (results fn a'.tmps).run P w' = .ok v w' ∧ ∃ v' β', Ending.returned v = .returned v' ∧ VRh β' (gcIf (nu f) h h2 v0) v0 v' ∧ Rel P β' (gcIf (nu f) h h2 v0) w' ∧ Evo β h w β' (gcIf (nu f) h h2 v0) w' :=
                ⟨p1.d', v', q1, v', β'', rfl, r1, r2, r3⟩
              rcases hexit with rfl | rfl <;> exact hpost
          split at he
          · rename_i a h2 hev; exact key _ a h2 hev (.inl rfl) he
          · rename_i a h2 hev; exact key _ a h2 hev (.inr rfl) he
          · cases he
        · cases he
      · cases he

theorem evG_mono {P : Program} {ok nu : FuncId → Bool} {X : Hooks} : ∀ (n m : Nat), n ≤ m → CallLe (evG P ok nu X n) (evG P ok nu X m)
  | 0, _, _ => by intro f a h r he; simp [evG] at he
  | n + 1, 0, hn => by omega
  | n + 1, m + 1, hn => by
    intro f a h r he
    simp only [evG] at he ⊢
    split at he
    · exact he
    · split at he
      · cases he
      rename_i hok
      rw [if_neg hok]
      split at he
      · rename_i fn hfn
        split at he
        · rename_i c hc
          skip
          cases hx : evCode P (evG P ok nu X n) n c { tmps := a ++ Array.replicate (fn.ntmps - a.size) undef, defers := [] } h with
          | none => rw [hx] at he; simp at he
          | some q =>
            rw [evCode_mono (evG_mono n m (by omega)) (show n ≤ m by omega) _ _ _ _ hx]
            rw [hx] at he
            exact he
        · cases he
      · cases he
noncomputable def evCG (P : Program) (ok nu : FuncId → Bool) (X : Hooks) : CallF := fun f args h => lim fun n => evG P ok nu X n f args h
theorem evCG_some {P : Program} {ok nu : FuncId → Bool} {X : Hooks} {f : FuncId} {args : Array Value} {h : H} {r : Value × H} (he : evCG P ok nu X f args h = some r) : ∃ n, evG P ok nu X n f args h = some r := lim_some he
theorem evCG_of {P : Program} {ok nu : FuncId → Bool} {X : Hooks} {f : FuncId} {args : Array Value} {h : H} {r : Value × H} {n : Nat} (he : evG P ok nu X n f args h = some r) : evCG P ok nu X f args h = some r :=
  lim_of (fun _ _ r hn hx => evG_mono _ _ hn _ _ _ r hx) he

section
variable {P : Program} {ok nu : FuncId → Bool} {X : Hooks}
theorem evOp_limG {o : Oper} {ρ : Operand → Value} {h : H} {r : Value × H} (he : evOp P (evCG P ok nu X) o ρ h = some r) : ∃ n, evOp P (evG P ok nu X n) o ρ h = some r := by
  unfold evOp at he ⊢
  split at he
  · exact ⟨0, he⟩
  · exact ⟨0, he⟩
  · cases hop : o.op with
    | call c =>
      cases hcc : c.callee with
      | value f =>
        simp only [evEff, hop, hcc] at he ⊢
        split at he
        · rename_i g fi ca hf
          split at he
          · obtain ⟨n, hn⟩ := evCG_some he
            exact ⟨n, by rename_i hcb; simp only [hcb, if_true]; exact hn⟩
          · cases he
        · cases he
      | builtin b => exact ⟨0, by cases b <;> simp only [evEff, hop, hcc] at he ⊢ <;> first | exact he | cases he⟩
      | invoke r m => simp only [evEff, hop, hcc] at he; cases he
    | makeMap t r => cases r with
      | none => exact ⟨0, by simpa only [evEff, hop] using he⟩
      | some x => simp [evEff, hop] at he
    | _ => exact ⟨0, by simp only [evEff, hop] at he ⊢; exact he⟩
theorem evOps_limG {ops : Array Oper} : ∀ (l : List Oper) (a : Act) (h : H) (r : Act × H), evOps P (evCG P ok nu X) ops l a h = some r → ∃ n, evOps P (evG P ok nu X n) ops l a h = some r
  | [], _, _, _, he => ⟨0, he⟩
  | o :: l, a, h, r, he => by
    simp only [evOps] at he ⊢
    split at he
    · split at he
      · rename_i v h' hop
        obtain ⟨n, hn⟩ := evOp_limG hop
        obtain ⟨m, hm⟩ := evOps_limG l _ _ _ he
        refine ⟨max n m, ?_⟩
        rw [evOp_mono (evG_mono n (max n m) (Nat.le_max_left _ _)) hn]
        exact evOps_mono (evG_mono m (max n m) (Nat.le_max_right _ _)) _ _ _ _ hm
      · cases he
    · exact evOps_limG l _ _ _ he
    · cases he
theorem evTrace_limG {ops : Array Oper} : ∀ (l : List Oper) (a : Act) (h : H) (r : List Rec × Act × H), evTrace P (evCG P ok nu X) ops l a h = some r → ∃ n, evTrace P (evG P ok nu X n) ops l a h = some r
  | [], _, _, _, he => ⟨0, he⟩
  | o :: l, a, h, r, he => by
    simp only [evTrace] at he ⊢
    split at he
    · split at he
      · rename_i v h' hop
        simp only [Option.map_eq_some_iff] at he
        obtain ⟨x, h1, h2⟩ := he
        obtain ⟨n, hn⟩ := evOp_limG hop
        obtain ⟨m, hm⟩ := evTrace_limG l _ _ _ h1
        refine ⟨max n m, ?_⟩
        rw [evOp_mono (evG_mono n (max n m) (Nat.le_max_left _ _)) hn]
        simp only [Option.map_eq_some_iff]
        exact ⟨x, evTrace_mono (evG_mono m (max n m) (Nat.le_max_right _ _)) _ _ _ _ hm, h2⟩
      · cases he
    · simp only [Option.map_eq_some_iff] at he
      obtain ⟨x, h1, h2⟩ := he
      obtain ⟨m, hm⟩ := evTrace_limG l _ _ _ h1
      exact ⟨m, by simp only [Option.map_eq_some_iff]; exact ⟨x, hm, h2⟩⟩
    · cases he
theorem evI_limG : ∀ (c : Code) (a : Act) (h : H) (r : Exit × Act × H), evI P (evCG P ok nu X) c a h = some r → ∃ n, evCode P (evG P ok nu X n) n c a h = some r := by
  intro c
  induction c with
  | skip => intro a h r he; exact ⟨0, he⟩
  | region id ops d =>
    intro a h r he
    cases d <;> simp only [evI, Option.map_eq_some_iff] at he
    · obtain ⟨x, h1, h2⟩ := he
      obtain ⟨n, hn⟩ := evOps_limG _ _ _ _ h1
      exact ⟨n, by simp only [evCode, Option.map_eq_some_iff]; exact ⟨x, hn, h2⟩⟩
    · obtain ⟨x, h1, h2⟩ := he
      unfold evDraw at h1
      split at h1
      · rename_i rs a1 g1 htr
        obtain ⟨n, hn⟩ := evTrace_limG _ _ _ _ htr
        refine ⟨n, ?_⟩
        simp only [evCode, Option.map_eq_some_iff]
        refine ⟨x, ?_, h2⟩
        unfold evDraw
        rw [hn]
        exact h1
      · cases h1
  | seq x y ihx ihy =>
    intro a h r he
    simp only [evI] at he
    cases hx : evI P (evCG P ok nu X) x a h with
    | none => rw [hx] at he; simp at he
    | some q =>
      obtain ⟨n, hn⟩ := ihx _ _ _ hx
      rw [hx] at he
      obtain ⟨e, a1, h1⟩ := q
      cases e with
      | normal =>
        obtain ⟨m, hm⟩ := ihy _ _ _ he
        refine ⟨max n m, ?_⟩
        simp only [evCode]
        rw [evCode_mono (evG_mono n (max n m) (Nat.le_max_left _ _)) (Nat.le_max_left _ _) _ _ _ _ hn]
        exact evCode_mono (evG_mono m (max n m) (Nat.le_max_right _ _)) (Nat.le_max_right _ _) _ _ _ _ hm
      | _ => exact ⟨n, by simp only [evCode]; rw [hn]; exact he⟩
  | cond c x y ihx ihy =>
    intro a h r he
    simp only [evI] at he
    split at he
    · rename_i hc
      obtain ⟨n, hn⟩ := ihx _ _ _ he
      exact ⟨n, by simp only [evCode, hc]; exact hn⟩
    · rename_i hc
      obtain ⟨n, hn⟩ := ihy _ _ _ he
      exact ⟨n, by simp only [evCode, hc]; exact hn⟩
    · cases he
  | block id c ih =>
    intro a h r he
    simp only [evI] at he
    cases hx : evI P (evCG P ok nu X) c a h with
    | none => rw [hx] at he; simp at he
    | some q =>
      obtain ⟨n, hn⟩ := ih _ _ _ hx
      rw [hx] at he
      exact ⟨n, by simp only [evCode]; rw [hn]; exact he⟩
  | loop c ih =>
    intro a h r he
    simp only [evI] at he
    obtain ⟨m, hm⟩ := lim_some he
    obtain ⟨n, hn⟩ := evIter_lim (g := fun n => evCode P (evG P ok nu X n) n c) (fun n m a h r hnm q => evCode_mono (evG_mono n m hnm) hnm _ _ _ _ q) ih m _ _ _ hm
    exact ⟨n, hn⟩
  | rangeFunc => intro a h r he; simp [evI] at he
  | exit => intro a h r he; exact ⟨0, he⟩
  | scope c ih => intro a h r he; simp only [evI] at he; exact ih _ _ _ he
  | label => intro a h r he; exact ⟨0, he⟩
  | goto => intro a h r he; simp [evI] at he
  | ret => intro a h r he; exact ⟨0, he⟩
  | refuse => intro a h r he; simp [evI] at he
end

/-- A hooked function. -/
theorem hookG {P : Program} {ok nu : FuncId → Bool} {X : Hooks} {f : FuncId} {g : Array Value → H → Option (Value × H)} {args : Array Value} {h : H} {r : Value × H} (hX : X f = some g) (he : g args h = some r) : evCG P ok nu X f args h = some r :=
  evCG_of (n := 1) (by simp only [evG, hX]; exact he)
/-- A function by its text. -/
theorem enterG {P : Program} {ok nu : FuncId → Bool} {X : Hooks} {f : FuncId} {args : Array Value} {tmps : Array Value} {h h1 : H} {v : Value} (hX : X f = none) (hok : ok f = true) (hb : ((P.funcs[f]?).bind (·.body)).isSome = true)
    (ht : tmps = args ++ Array.replicate (tmpsOf P f - args.size) undef) (he : kCode P (evCG P ok nu X) (bodyOf P f) ⟨tmps, []⟩ h (kEnd P f) = some (v, h1)) : evCG P ok nu X f args h = some (v, gcIf (nu f) h h1 v) := by
  subst ht
  cases hfn : P.funcs[f]? with
  | none => rw [hfn] at hb; simp at hb
  | some fn =>
    cases hc : fn.body with
    | none => rw [hfn] at hb; simp [hc] at hb
    | some c =>
      have hk : kEnd P f = fun e a h1 => match e with
          | .normal => kRes P a.tmps h1 fn.results.toList []
          | .ret => kRes P a.tmps h1 fn.results.toList []
          | _ => none := by
        funext e a h1
        unfold kEnd resOf
        rw [hfn]
        cases e <;> rfl
      rw [hk] at he
      simp only [bodyOf, tmpsOf, hfn, Option.bind_some, hc] at he
      obtain ⟨e, a1, h2, q1, q2⟩ := kCode_some _ _ _ _ _ he
      obtain ⟨n, hn⟩ := evI_limG _ _ _ _ q1
      refine evCG_of (n := n + 1) ?_
      simp only [evG, hX, hok, hfn, hc, hn]
      rw [if_neg (by simp)]
      have fin : kRes P a1.tmps h2 fn.results.toList [] = some (v, h1) → (evResults P fn a1.tmps h2).map (fun v => (v, gcIf (nu f) h h2 v)) = some (v, gcIf (nu f) h h1 v) := by
        intro hk
        obtain ⟨vs, r1, r2⟩ := kRes_some _ _ _ hk
        unfold evResults
        rw [r1]
        simp only [List.nil_append, Prod.mk.injEq] at r2
        obtain ⟨r3, rfl⟩ := r2
        simp only [Option.map_some, r3]
        rfl
      cases e with
      | normal => exact fin q2
      | ret => exact fin q2
      | _ => cases q2
theorem neutral_eq {P : Program} {ok nu : FuncId → Bool} {X : Hooks} {f : FuncId} {args : Array Value} {h h' : H} {v : Value} (hX : X f = none) (hn : nu f = true) (hv : af v = true) (he : evCG P ok nu X f args h = some (v, h')) (hE : Ext h h') : h' = h := by
  obtain ⟨n, hn'⟩ := evCG_some he
  cases n with
  | zero => simp [evG] at hn'
  | succ n =>
    simp only [evG, hX, hn] at hn'
    split at hn'
    · cases hn'
    have fin : ∀ h1 : H, gcIf true h h1 v = h' → h' = h := by
      intro h1 hg
      have hg' : gc h h1 v = h' := hg
      by_cases hx : Ext h h1
      · rw [gc_same hx (Clo.of_af hv)] at hg'; exact hg'.symm
      · unfold gc at hg'
        rw [if_neg (fun q => hx q.1)] at hg'
        subst hg'
        exact absurd hE hx
    split at hn'
    · split at hn'
      · split at hn'
        · simp only [Option.map_eq_some_iff, Prod.mk.injEq] at hn'
          obtain ⟨v', _, rfl, hg⟩ := hn'
          exact fin _ hg
        · simp only [Option.map_eq_some_iff, Prod.mk.injEq] at hn'
          obtain ⟨v', _, rfl, hg⟩ := hn'
          exact fin _ hg
        · cases hn'
      · cases hn'
    · cases hn'
/-- The law's run. -/
theorem law_runG {P : Program} {ok nu : FuncId → Bool} {X : Hooks} (hS : Sound P ok X) {f : FuncId} {args : Array Value} {W : World} {v : Value} {h1 : H} (hv : af v = true)
    (he : evCG P ok nu X f (args.map (canonV (hsz P W))) (canonH P W) = some (v, h1)) : Calls P f args W fun e W' => e = .returned v ∧ Go.RowKit.Below W.heap.size W W' := by
  obtain ⟨n, hn⟩ := evCG_some he
  refine (evG_sim hS.mixed hS.code hS.hooks n f _ _ v h1 hn (canonB W) W args (canon_rel P W) (canon_gok P W) (by rw [canonH_size]; exact canonA_vr args)).mono ?_
  rintro e W' ⟨v', β', rfl, p1, p2, p3⟩
  exact ⟨by rw [VR.af_eq hv p1], p3.below fun b e he => canon_ro he⟩
end Go.Am
