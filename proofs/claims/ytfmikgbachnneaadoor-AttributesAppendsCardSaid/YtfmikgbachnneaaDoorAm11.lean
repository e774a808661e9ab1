/- Without fuel, and in continuations: what a printed text of a function is compared with. -/
import Derived.Test.YtfmikgbachnneaaDoorAm10
set_option linter.unusedSimpArgs false
set_option linter.unusedVariables false
namespace Go.Am

/-! ### more fuel, same answer -/
def CallLe (c c' : CallF) : Prop := ∀ f a h r, c f a h = some r → c' f a h = some r

section
variable {P : Program} {call call' : CallF}
theorem evEff_mono (hc : CallLe call call') {o : Oper} {ρ : Operand → Value} {h : H} {r : Value × H} (he : evEff P call o ρ h = some r) : evEff P call' o ρ h = some r := by
  cases hop : o.op with
  | call c =>
    cases hcc : c.callee with
    | value f =>
      simp only [evEff, hop, hcc] at he ⊢
      split at he
      · rename_i g fi ca hf
        split at he
        · rename_i hcb
          simp only [hcb, if_true]
          exact hc _ _ _ _ he
        · cases he
      · cases he
    | builtin b => cases b <;> simp only [evEff, hop, hcc] at he ⊢ <;> first | exact he | cases he
    | invoke r m => simp only [evEff, hop, hcc] at he; cases he
  | makeMap t r => cases r with
    | none => simpa only [evEff, hop] using he
    | some x => simp [evEff, hop] at he
  | _ => simp only [evEff, hop] at he ⊢; exact he
theorem evOp_mono (hc : CallLe call call') {o : Oper} {ρ : Operand → Value} {h : H} {r : Value × H} (he : evOp P call o ρ h = some r) : evOp P call' o ρ h = some r := by
  unfold evOp at he ⊢
  split at he
  · exact he
  · exact he
  · exact evEff_mono hc he
theorem evOps_mono (hc : CallLe call call') {ops : Array Oper} : ∀ (l : List Oper) (a : Act) (h : H) (r : Act × H), evOps P call ops l a h = some r → evOps P call' ops l a h = some r
  | [], _, _, _, he => he
  | o :: l, a, h, r, he => by
    simp only [evOps] at he ⊢
    split at he
    · split at he
      · rename_i v h' hop
        rw [evOp_mono hc hop]
        exact evOps_mono hc l _ _ _ he
      · cases he
    · exact evOps_mono hc l _ _ _ he
    · cases he
theorem evTrace_mono (hc : CallLe call call') {ops : Array Oper} : ∀ (l : List Oper) (a : Act) (h : H) (r : List Rec × Act × H), evTrace P call ops l a h = some r → evTrace P call' ops l a h = some r
  | [], _, _, _, he => he
  | o :: l, a, h, r, he => by
    simp only [evTrace] at he ⊢
    split at he
    · split at he
      · rename_i v h' hop
        rw [evOp_mono hc hop]
        simp only [Option.map_eq_some_iff] at he ⊢
        obtain ⟨x, h1, h2⟩ := he
        exact ⟨x, evTrace_mono hc l _ _ _ h1, h2⟩
      · cases he
    · simp only [Option.map_eq_some_iff] at he ⊢
      obtain ⟨x, h1, h2⟩ := he
      exact ⟨x, evTrace_mono hc l _ _ _ h1, h2⟩
    · cases he
theorem evDraw_mono (hc : CallLe call call') {ops : Array Oper} {a : Act} {h : H} {r : Act × H} (he : evDraw P call ops a h = some r) : evDraw P call' ops a h = some r := by
  unfold evDraw at he ⊢
  split at he
  · rename_i rs a1 h1 htr
    rw [evTrace_mono hc _ _ _ _ htr]
    exact he
  · cases he
theorem evIter_mono {f f' : Act → H → Option (Exit × Act × H)} (hf : ∀ a h r, f a h = some r → f' a h = some r) : ∀ (n m : Nat), n ≤ m → ∀ a h r, evIter f n a h = some r → evIter f' m a h = some r
  | 0, _, _, _, _, _, he => by simp [evIter] at he
  | n + 1, 0, hn, _, _, _, _ => by omega
  | n + 1, m + 1, hn, a, h, r, he => by
    simp only [evIter] at he ⊢
    cases hx : f a h with
    | none => rw [hx] at he; simp at he
    | some x =>
      rw [hf _ _ _ hx]
      rw [hx] at he
      obtain ⟨e, a1, h1⟩ := x
      cases e with
      | normal => exact evIter_mono hf n m (by omega) _ _ _ he
      | _ => exact he
theorem evCode_mono (hc : CallLe call call') {n m : Nat} (hn : n ≤ m) : ∀ (c : Code) (a : Act) (h : H) (r : Exit × Act × H), evCode P call n c a h = some r → evCode P call' m c a h = some r := by
  intro c
  induction c with
  | skip => intro a h r he; exact he
  | region id ops d =>
    intro a h r he
    cases d <;> simp only [evCode, Option.map_eq_some_iff] at he ⊢
    · obtain ⟨x, h1, h2⟩ := he; exact ⟨x, evOps_mono hc _ _ _ _ h1, h2⟩
    · obtain ⟨x, h1, h2⟩ := he; exact ⟨x, evDraw_mono hc h1, h2⟩
  | seq x y ihx ihy =>
    intro a h r he
    simp only [evCode] at he ⊢
    cases hx : evCode P call n x a h with
    | none => rw [hx] at he; simp at he
    | some q =>
      rw [ihx _ _ _ hx]
      rw [hx] at he
      obtain ⟨e, a1, h1⟩ := q
      cases e with
      | normal => exact ihy _ _ _ he
      | _ => exact he
  | cond c x y ihx ihy =>
    intro a h r he
    simp only [evCode] at he ⊢
    split at he
    · exact ihx _ _ _ he
    · exact ihy _ _ _ he
    · cases he
  | block id c ih =>
    intro a h r he
    simp only [evCode] at he ⊢
    cases hx : evCode P call n c a h with
    | none => rw [hx] at he; simp at he
    | some q =>
      rw [ih _ _ _ hx]
      rw [hx] at he
      exact he
  | loop c ih =>
    intro a h r he
    simp only [evCode] at he ⊢
    exact evIter_mono ih n m hn _ _ _ he
  | rangeFunc => intro a h r he; simp [evCode] at he
  | exit => intro a h r he; exact he
  | scope c ih => intro a h r he; simp only [evCode] at he ⊢; exact ih _ _ _ he
  | label => intro a h r he; exact he
  | goto => intro a h r he; simp [evCode] at he
  | ret => intro a h r he; exact he
  | refuse => intro a h r he; simp [evCode] at he
end

theorem evCall_mono {P : Program} {ok : FuncId → Bool} {X : Hooks} : ∀ (n m : Nat), n ≤ m → CallLe (evCall P ok X n) (evCall P ok X m)
  | 0, _, _ => by intro f a h r he; simp [evCall] at he
  | n + 1, 0, hn => by omega
  | n + 1, m + 1, hn => by
    intro f a h r he
    simp only [evCall] at he ⊢
    split at he
    · exact he
    · split at he
      · cases he
      rename_i hok
      rw [if_neg hok]
      split at he
      · rename_i fn hfn
        split at he
        · rename_i c hc
          skip
          cases hx : evCode P (evCall P ok X n) n c { tmps := a ++ Array.replicate (fn.ntmps - a.size) undef, defers := [] } h with
          | none => rw [hx] at he; simp at he
          | some q =>
            rw [evCode_mono (evCall_mono n m (by omega)) (show n ≤ m by omega) _ _ _ _ hx]
            rw [hx] at he
            exact he
        · cases he
      · cases he

/-! ### no fuel -/
open Classical in
noncomputable def lim {α : Type} (f : Nat → Option α) : Option α := if h : ∃ r n, f n = some r then some h.choose else none
theorem lim_some {α : Type} {f : Nat → Option α} {r : α} (h : lim f = some r) : ∃ n, f n = some r := by
  unfold lim at h
  split at h
  · rename_i hh; cases h; exact hh.choose_spec
  · cases h
theorem lim_of {α : Type} {f : Nat → Option α} (mono : ∀ n m r, n ≤ m → f n = some r → f m = some r) {n : Nat} {r : α} (h : f n = some r) : lim f = some r := by
  have hh : ∃ r n, f n = some r := ⟨r, n, h⟩
  unfold lim
  rw [dif_pos hh]
  obtain ⟨m, hm⟩ := hh.choose_spec
  have h1 := mono n (max n m) _ (Nat.le_max_left _ _) h
  have h2 := mono m (max n m) _ (Nat.le_max_right _ _) hm
  rw [h1] at h2
  exact h2.symm ▸ rfl

noncomputable def evC (P : Program) (ok : FuncId → Bool) (X : Hooks) : CallF := fun f args h => lim fun n => evCall P ok X n f args h
theorem evC_some {P : Program} {ok : FuncId → Bool} {X : Hooks} {f : FuncId} {args : Array Value} {h : H} {r : Value × H} (he : evC P ok X f args h = some r) : ∃ n, evCall P ok X n f args h = some r := lim_some he
theorem evC_of {P : Program} {ok : FuncId → Bool} {X : Hooks} {f : FuncId} {args : Array Value} {h : H} {r : Value × H} {n : Nat} (he : evCall P ok X n f args h = some r) : evC P ok X f args h = some r :=
  lim_of (fun _ _ r hn hx => evCall_mono _ _ hn _ _ _ r hx) he

/-- The canonical code evaluator, its loops without fuel. -/
noncomputable def evI (P : Program) (call : CallF) : Code → Act → H → Option (Exit × Act × H)
  | .skip, a, h => some (.normal, a, h)
  | .region _ ops false, a, h => (evOps P call ops ops.toList a h).map fun (a1, h1) => (.normal, a1, h1)
  | .region _ ops true, a, h => (evDraw P call ops a h).map fun (a1, h1) => (.normal, a1, h1)
  | .seq x y, a, h => match evI P call x a h with
    | some (.normal, a1, h1) => evI P call y a1 h1
    | r => r
  | .cond c x y, a, h => match a.eval c with
    | .bool true => evI P call x a h
    | .bool false => evI P call y a h
    | _ => none
  | .block id c, a, h => match evI P call c a h with
    | some (.exit i, a1, h1) => if i = id then some (.normal, a1, h1) else some (.exit i, a1, h1)
    | r => r
  | .loop c, a, h => lim fun n => evIter (evI P call c) n a h
  | .exit id, a, h => some (.exit id, a, h)
  | .scope c, a, h => evI P call c a h
  | .label _, a, h => some (.normal, a, h)
  | .ret, a, h => some (.ret, a, h)
  | _, _, _ => none

section
variable {P : Program} {ok : FuncId → Bool} {X : Hooks}
theorem evOp_lim {o : Oper} {ρ : Operand → Value} {h : H} {r : Value × H} (he : evOp P (evC P ok X) o ρ h = some r) : ∃ n, evOp P (evCall P ok X n) o ρ h = some r := by
  unfold evOp at he ⊢
  split at he
  · exact ⟨0, he⟩
  · exact ⟨0, he⟩
  · cases hop : o.op with
    | call c =>
      cases hcc : c.callee with
      | value f =>
        simp only [evEff, hop, hcc] at he ⊢
        split at he
        · rename_i g fi ca hf
          split at he
          · obtain ⟨n, hn⟩ := evC_some he
            exact ⟨n, by rename_i hcb; simp only [hcb, if_true]; exact hn⟩
          · cases he
        · cases he
      | builtin b => exact ⟨0, by cases b <;> simp only [evEff, hop, hcc] at he ⊢ <;> first | exact he | cases he⟩
      | invoke r m => simp only [evEff, hop, hcc] at he; cases he
    | makeMap t r => cases r with
      | none => exact ⟨0, by simpa only [evEff, hop] using he⟩
      | some x => simp [evEff, hop] at he
    | _ => exact ⟨0, by simp only [evEff, hop] at he ⊢; exact he⟩
theorem evOps_lim {ops : Array Oper} : ∀ (l : List Oper) (a : Act) (h : H) (r : Act × H), evOps P (evC P ok X) ops l a h = some r → ∃ n, evOps P (evCall P ok X n) ops l a h = some r
  | [], _, _, _, he => ⟨0, he⟩
  | o :: l, a, h, r, he => by
    simp only [evOps] at he ⊢
    split at he
    · split at he
      · rename_i v h' hop
        obtain ⟨n, hn⟩ := evOp_lim hop
        obtain ⟨m, hm⟩ := evOps_lim l _ _ _ he
        refine ⟨max n m, ?_⟩
        rw [evOp_mono (evCall_mono n (max n m) (Nat.le_max_left _ _)) hn]
        exact evOps_mono (evCall_mono m (max n m) (Nat.le_max_right _ _)) _ _ _ _ hm
      · cases he
    · exact evOps_lim l _ _ _ he
    · cases he
theorem evTrace_lim {ops : Array Oper} : ∀ (l : List Oper) (a : Act) (h : H) (r : List Rec × Act × H), evTrace P (evC P ok X) ops l a h = some r → ∃ n, evTrace P (evCall P ok X n) ops l a h = some r
  | [], _, _, _, he => ⟨0, he⟩
  | o :: l, a, h, r, he => by
    simp only [evTrace] at he ⊢
    split at he
    · split at he
      · rename_i v h' hop
        simp only [Option.map_eq_some_iff] at he
        obtain ⟨x, h1, h2⟩ := he
        obtain ⟨n, hn⟩ := evOp_lim hop
        obtain ⟨m, hm⟩ := evTrace_lim l _ _ _ h1
        refine ⟨max n m, ?_⟩
        rw [evOp_mono (evCall_mono n (max n m) (Nat.le_max_left _ _)) hn]
        simp only [Option.map_eq_some_iff]
        exact ⟨x, evTrace_mono (evCall_mono m (max n m) (Nat.le_max_right _ _)) _ _ _ _ hm, h2⟩
      · cases he
    · simp only [Option.map_eq_some_iff] at he
      obtain ⟨x, h1, h2⟩ := he
      obtain ⟨m, hm⟩ := evTrace_lim l _ _ _ h1
      exact ⟨m, by simp only [Option.map_eq_some_iff]; exact ⟨x, hm, h2⟩⟩
    · cases he
theorem evIter_lim {f : Act → H → Option (Exit × Act × H)} {g : Nat → Act → H → Option (Exit × Act × H)} (hg : ∀ n m a h r, n ≤ m → g n a h = some r → g m a h = some r) (hf : ∀ a h r, f a h = some r → ∃ n, g n a h = some r) :
    ∀ m a h r, evIter f m a h = some r → ∃ n, evIter (g n) n a h = some r
  | 0, _, _, _, he => by simp [evIter] at he
  | m + 1, a, h, r, he => by
    simp only [evIter] at he
    cases hx : f a h with
    | none => rw [hx] at he; simp at he
    | some x =>
      obtain ⟨n, hn⟩ := hf _ _ _ hx
      rw [hx] at he
      obtain ⟨e, a1, h1⟩ := x
      cases e with
      | normal =>
        obtain ⟨k, hk⟩ := evIter_lim hg hf m _ _ _ he
        refine ⟨max n k + 1, ?_⟩
        simp only [evIter]
        rw [hg n _ _ _ _ (by omega) hn]
        exact evIter_mono (fun a h r q => hg _ _ a h r (by omega) q) k _ (by omega) _ _ _ hk
      | _ =>
        refine ⟨n + 1, ?_⟩
        simp only [evIter]
        rw [hg n _ _ _ _ (by omega) hn]
        exact he
theorem evI_lim : ∀ (c : Code) (a : Act) (h : H) (r : Exit × Act × H), evI P (evC P ok X) c a h = some r → ∃ n, evCode P (evCall P ok X n) n c a h = some r := by
  intro c
  induction c with
  | skip => intro a h r he; exact ⟨0, he⟩
  | region id ops d =>
    intro a h r he
    cases d <;> simp only [evI, Option.map_eq_some_iff] at he
    · obtain ⟨x, h1, h2⟩ := he
      obtain ⟨n, hn⟩ := evOps_lim _ _ _ _ h1
      exact ⟨n, by simp only [evCode, Option.map_eq_some_iff]; exact ⟨x, hn, h2⟩⟩
    · obtain ⟨x, h1, h2⟩ := he
      unfold evDraw at h1
      split at h1
      · rename_i rs a1 g1 htr
        obtain ⟨n, hn⟩ := evTrace_lim _ _ _ _ htr
        refine ⟨n, ?_⟩
        simp only [evCode, Option.map_eq_some_iff]
        refine ⟨x, ?_, h2⟩
        unfold evDraw
        rw [hn]
        exact h1
      · cases h1
  | seq x y ihx ihy =>
    intro a h r he
    simp only [evI] at he
    cases hx : evI P (evC P ok X) x a h with
    | none => rw [hx] at he; simp at he
    | some q =>
      obtain ⟨n, hn⟩ := ihx _ _ _ hx
      rw [hx] at he
      obtain ⟨e, a1, h1⟩ := q
      cases e with
      | normal =>
        obtain ⟨m, hm⟩ := ihy _ _ _ he
        refine ⟨max n m, ?_⟩
        simp only [evCode]
        rw [evCode_mono (evCall_mono n (max n m) (Nat.le_max_left _ _)) (Nat.le_max_left _ _) _ _ _ _ hn]
        exact evCode_mono (evCall_mono m (max n m) (Nat.le_max_right _ _)) (Nat.le_max_right _ _) _ _ _ _ hm
      | _ => exact ⟨n, by simp only [evCode]; rw [hn]; exact he⟩
  | cond c x y ihx ihy =>
    intro a h r he
    simp only [evI] at he
    split at he
    · rename_i hc
      obtain ⟨n, hn⟩ := ihx _ _ _ he
      exact ⟨n, by simp only [evCode, hc]; exact hn⟩
    · rename_i hc
      obtain ⟨n, hn⟩ := ihy _ _ _ he
      exact ⟨n, by simp only [evCode, hc]; exact hn⟩
    · cases he
  | block id c ih =>
    intro a h r he
    simp only [evI] at he
    cases hx : evI P (evC P ok X) c a h with
    | none => rw [hx] at he; simp at he
    | some q =>
      obtain ⟨n, hn⟩ := ih _ _ _ hx
      rw [hx] at he
      exact ⟨n, by simp only [evCode]; rw [hn]; exact he⟩
  | loop c ih =>
    intro a h r he
    simp only [evI] at he
    obtain ⟨m, hm⟩ := lim_some he
    obtain ⟨n, hn⟩ := evIter_lim (g := fun n => evCode P (evCall P ok X n) n c) (fun n m a h r hnm q => evCode_mono (evCall_mono n m hnm) hnm _ _ _ _ q) ih m _ _ _ hm
    exact ⟨n, hn⟩
  | rangeFunc => intro a h r he; simp [evI] at he
  | exit => intro a h r he; exact ⟨0, he⟩
  | scope c ih => intro a h r he; simp only [evI] at he; exact ih _ _ _ he
  | label => intro a h r he; exact ⟨0, he⟩
  | goto => intro a h r he; simp [evI] at he
  | ret => intro a h r he; exact ⟨0, he⟩
  | refuse => intro a h r he; simp [evI] at he
end
end Go.Am
