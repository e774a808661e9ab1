/- From any world: its read-only copy; closed runs; what a law's walk must show. -/
import Derived.Test.YtfmikgbachnneaaDoorAm9
import Derived.Below
set_option linter.unusedSimpArgs false
set_option linter.unusedVariables false
namespace Go.Am
open Go.RowKit

/-- One cell, as far as it can be told. -/
def canonC (n : Nat) : Value → Value
  | .pointer (some ⟨b, o, none⟩) => if b < n then .pointer (some ⟨b, o, none⟩) else blankv
  | .slice (some ⟨b, o, none⟩) l c => if b < n ∧ l ≤ c then .slice (some ⟨b, o, none⟩) l c else blankv
  | .map (some r) => if r < n then .map (some r) else blankv
  | .pointer (some _) | .slice (some _) _ _ => blankv
  | .agg _ | .tuple _ | .chan _ => blankv
  | .func fn f c => if f.isEmpty && c.isEmpty then .func fn f c else blankv
  | .iface t v => if afc v then .iface t v else blankv
  | v => if afc v then v else blankv
def canonV (n : Nat) : Value → Value
  | .agg cs => .agg (cs.map (canonC n))
  | v => canonC n v
def canonO (n : Nat) : Obj → HObj
  | .cells cs T _ => .cells (cs.map (canonC n)) T .ro
  | .map es clock => .map (es.map fun e => { key := canonV n e.key, val := canonV n e.val, born := e.born }) clock .ro
  | _ => .dead
def canonB (W : World) (b : Nat) : Option Emb :=
  match W.heap[b]? with
  | some (.cells cs _ _) => some ⟨b, 0, cs.size, none⟩
  | some (.map _ _) => some ⟨b, 0, 0, none⟩
  | _ => none
def hsz (P : Program) (W : World) : Nat := max P.globals.size W.heap.size
/-- The read-only copy of a world's heap. -/
def canonH (P : Program) (W : World) : H := W.heap.map (canonO (hsz P W)) ++ Array.replicate (P.globals.size - W.heap.size) .dead

theorem canonH_size (P : Program) (W : World) : (canonH P W).size = hsz P W := by
  simp [canonH, hsz]; omega
theorem canonH_get {P : Program} {W : World} {b : Nat} {o : Obj} (h : W.heap[b]? = some o) : (canonH P W)[b]? = some (canonO (hsz P W) o) := by
  have hb := (Array.getElem?_eq_some_iff.1 h).1
  unfold canonH
  rw [Array.getElem?_append_left (by simpa using hb), Array.getElem?_map, h]; rfl
theorem canonB_some {W : World} {b : Nat} {e : Emb} (h : canonB W b = some e) : e.blk = b ∧ e.shift = 0 ∧ e.g = none := by
  unfold canonB at h
  split at h <;> first | (cases h; exact ⟨rfl, rfl, rfl⟩) | cases h

theorem canonC_vr {W : World} {n : Nat} (v : Value) : VR (canonB W) (· < n) (canonC n v) v := by
  unfold canonC blankv
  split
  · split
    · rename_i b o hb
      exact .ptr _ _ _ hb fun e he => by rw [(canonB_some he).1, (canonB_some he).2.1, Nat.zero_add]
    · exact .any _
  · split
    · rename_i b o l c hb
      refine .slice _ _ _ _ _ _ hb.1 fun e he => ⟨hb.2, Nat.le_refl _, fun _ => by rw [(canonB_some he).1, (canonB_some he).2.1, Nat.zero_add], ?_⟩
      rw [(canonB_some he).2.2]
    · exact .any _
  · split
    · rename_i r hr
      exact .map _ _ hr fun e he => (canonB_some he).1.symm
    · exact .any _
  · exact .any _
  · exact .any _
  · exact .any _
  · exact .any _
  · exact .any _
  · split
    · rename_i f c hfc
      simp only [Bool.and_eq_true, Array.isEmpty_iff] at hfc
      obtain ⟨rfl, rfl⟩ := hfc
      exact .func _ _ _ _ _ .nil .nil
    · exact .any _
  · split
    · rename_i hv
      exact .iface _ _ _ (VR.of_afc hv)
    · exact .any _
  · split
    · rename_i hv
      exact VR.of_afc hv
    · exact .any _
theorem canonV_vr {W : World} {n : Nat} (v : Value) : VR (canonB W) (· < n) (canonV n v) v := by
  unfold canonV
  split
  · rename_i cs
    refine .agg _ _ (VRA.of_get (by simp) fun i u u' h1 h2 => ?_)
    rw [Array.getElem?_map, h2] at h1
    cases h1
    exact canonC_vr u'
  · exact canonC_vr v
theorem canonA_vr {W : World} {n : Nat} (args : Array Value) : VRA (canonB W) (· < n) (args.map (canonV n)) args :=
  .of_get (by simp) fun i u u' h1 h2 => by
    rw [Array.getElem?_map, h2] at h1
    cases h1
    exact canonV_vr u'

theorem canon_rel (P : Program) (W : World) : Rel P (canonB W) (canonH P W) W := by
  refine ⟨?_, ?_, ?_⟩
  · intro b o hb hne
    cases hw : W.heap[b]? with
    | none =>
      unfold canonH at hb
      rw [Array.getElem?_append] at hb
      split at hb
      · rename_i hlt
        rw [Array.getElem?_eq_none_iff] at hw
        rw [Array.size_map] at hlt
        omega
      · rw [Array.getElem?_replicate] at hb
        split at hb
        · cases hb; exact absurd rfl hne
        · cases hb
    | some o' =>
      rw [canonH_get hw] at hb
      cases hb
      unfold canonB
      rw [hw]
      cases o' <;> first | rfl | exact absurd rfl hne
  · intro b e he
    unfold canonB at he
    split at he
    · rename_i cs T fr hw
      cases he
      refine ⟨_, _, canonH_get hw, hw, ?_⟩
      refine ⟨rfl, by simp, fun i v hv => ?_, rfl, by simp⟩
      simp only [Array.getElem?_map, Option.map_eq_some_iff] at hv
      obtain ⟨u, hu, rfl⟩ := hv
      refine ⟨u, by simpa using hu, ?_⟩
      rw [canonH_size]
      exact canonC_vr u
    · rename_i es clock hw
      cases he
      refine ⟨_, _, canonH_get hw, hw, ?_⟩
      refine ⟨rfl, by simp, fun i x x' h1 h2 => ?_⟩
      rw [Array.getElem?_map, h2] at h1
      cases h1
      rw [canonH_size]
      exact ⟨canonV_vr _, canonV_vr _, rfl⟩
    · cases he
  · intro b c e f he hf hbf
    exact .inl (by rw [← (canonB_some he).1, ← (canonB_some hf).1, hbf])
theorem canon_gok (P : Program) (W : World) : GOk P (canonB W) (canonH P W) :=
  ⟨by rw [canonH_size]; exact Nat.le_max_left _ _, fun g e _ he => ⟨(canonB_some he).1, (canonB_some he).2.1⟩⟩
theorem canon_ro {P : Program} {W : World} {b : Nat} {e : Emb} (h : canonB W b = some e) : roAt (canonH P W) b := by
  unfold canonB at h
  split at h
  · rename_i hw; exact ⟨_, canonH_get hw, rfl⟩
  · rename_i hw; exact ⟨_, canonH_get hw, rfl⟩
  · cases h

/-- Behind a run from read-only blocks nothing that was there has turned. -/
theorem Evo.below {β : Nat → Option Emb} {h : H} {w : World} {β' : Nat → Option Emb} {h' : H} {w' : World} (hE : Evo β h w β' h' w') (hro : ∀ b e, β b = some e → roAt h b) : Below w.heap.size w w' :=
  ⟨hE.os, hE.tape, hE.output, hE.wsize, fun c hc => hE.keep c hc fun b e he _ => hro b e he⟩

structure Sound (P : Program) (ok : FuncId → Bool) (X : Hooks) : Prop where
  mixed : P.follows .mixedOrders = true
  code : ∀ f fn c, ok f = true → P.funcs[f]? = some fn → fn.body = some c → codeOk P c = true
  hooks : ∀ f g, X f = some g → CallOk P (fun f' args h => if f' = f then g args h else none)

/-- WHAT A LAW's WALK MUST SHOW: a canonical run from the world's read-only copy. -/
theorem law_run {P : Program} {ok : FuncId → Bool} {X : Hooks} (hS : Sound P ok X) {n : Nat} {f : FuncId} {args : Array Value} {W : World} {v : Value} {h1 : H} (hv : af v = true)
    (he : evCall P ok X n f (args.map (canonV (hsz P W))) (canonH P W) = some (v, h1)) : Calls P f args W fun e W' => e = .returned v ∧ Below W.heap.size W W' := by
  refine (evCall_sim hS.mixed hS.code hS.hooks n f _ _ v h1 he (canonB W) W args (canon_rel P W) (canon_gok P W) (by rw [canonH_size]; exact canonA_vr args)).mono ?_
  rintro e W' ⟨v', β', rfl, p1, p2, p3⟩
  exact ⟨by rw [VR.af_eq hv p1], p3.below fun b e he => canon_ro he⟩

/-! ### closed runs as hooks -/
/-- Globals that a closed run reads, with their cells. -/
def heapOf (n : Nat) : List (Nat × TypeId × Array Value) → H
  | [] => Array.replicate n .dead
  | (g, T, cs) :: r => (heapOf n r).setIfInBounds g (.cells cs T .ro)
def hasGlobals (h : H) (l : List (Nat × TypeId × Array Value)) : Bool := l.all fun (g, T, cs) => match h[g]? with | some (.cells ds U .ro) => T == U && veqs ds.toList cs.toList && cs.all afc | _ => false
def outTrue (r : Option (Value × H)) : Bool := match r with | some (.bool true, _) => true | _ => false
/-- The hook of a function without arguments that answers true, and reads the globals l. -/
def trueHook (l : List (Nat × TypeId × Array Value)) : Array Value → H → Option (Value × H) := fun args h => if args.isEmpty && hasGlobals h l then some (.bool true, h) else none

theorem heapOf_size (n : Nat) : ∀ l, (heapOf n l).size = n
  | [] => by simp [heapOf]
  | (g, T, cs) :: r => by simp [heapOf, heapOf_size n r]
theorem heapOf_get (n : Nat) : ∀ l b o, (heapOf n l)[b]? = some o → o = .dead ∨ ∃ T cs, (b, T, cs) ∈ l ∧ o = .cells cs T .ro
  | [], b, o, h => by
    simp only [heapOf, Array.getElem?_replicate] at h
    split at h
    · cases h; exact .inl rfl
    · cases h
  | (g, T, cs) :: r, b, o, h => by
    simp only [heapOf, Array.getElem?_setIfInBounds] at h
    split at h
    · rename_i hgb
      split at h
      · cases h; subst hgb; exact .inr ⟨T, cs, by simp, rfl⟩
      · cases h
    · rcases heapOf_get n r b o h with h1 | ⟨T', cs', h1, h2⟩
      · exact .inl h1
      · exact .inr ⟨T', cs', by simp [h1], h2⟩

theorem trueHook_ok {P : Program} {ok : FuncId → Bool} {X : Hooks} (hS : Sound P ok X) {l : List (Nat × TypeId × Array Value)} {n : Nat} {f : FuncId} (hl : (l.all fun x => decide (x.1 < P.globals.size)) = true)
    (hrun : outTrue (evCall P ok X n f #[] (heapOf P.globals.size l)) = true) : CallOk P (fun f' args h => if f' = f then trueHook l args h else none) := by
  intro f' args h v h1 he β w args' hr hG hargs
  simp only [trueHook] at he
  split at he
  · rename_i hf
    subst hf
    split at he
    · rename_i hc
      simp only [Bool.and_eq_true, Array.isEmpty_iff] at hc
      obtain ⟨rfl, hglob⟩ := hc
      cases he
      have hargs' : args' = #[] := by
        have := hargs.size
        simpa using this
      subst hargs'
      generalize hev : evCall P ok X n f' #[] (heapOf P.globals.size l) = r at hrun
      match r, hrun with
      | some (.bool true, g1), _ =>
        let β0 : Nat → Option Emb := fun b => if ((heapOf P.globals.size l)[b]?).any (fun o => !(o matches .dead)) then β b else none
        have hβ0 : ∀ b e, β0 b = some e → ∃ T cs, (heapOf P.globals.size l)[b]? = some (.cells cs T .ro) ∧ (b, T, cs) ∈ l ∧ β b = some e := by
          intro b e hb
          simp only [β0] at hb
          split at hb
          · rename_i hany
            cases hh : (heapOf P.globals.size l)[b]? with
            | none => rw [hh] at hany; simp at hany
            | some o =>
              rw [hh] at hany
              rcases heapOf_get _ _ _ _ hh with rfl | ⟨T, cs, h2, rfl⟩
              · simp at hany
              · exact ⟨T, cs, rfl, h2, hb⟩
          · cases hb
        have hgl : ∀ b T cs, (b, T, cs) ∈ l → h[b]? = some (.cells cs T .ro) ∧ cs.all afc = true ∧ b < P.globals.size := by
          intro b T cs hm
          have h1 := List.all_eq_true.1 hglob _ hm
          have h2 := List.all_eq_true.1 hl _ hm
          simp only at h1
          split at h1
          · rename_i ds U hb
            simp only [Bool.and_eq_true, beq_iff_eq] at h1
            obtain ⟨⟨rfl, h3⟩, h4⟩ := h1
            rw [hb, Array.toList_inj.1 (veqs_eq h3)]
            exact ⟨rfl, h4, by simpa using h2⟩
          · cases h1
        have hrel : Rel P β0 (heapOf P.globals.size l) w := by
          refine ⟨?_, ?_, ?_⟩
          · intro b o hb hne
            rcases heapOf_get _ _ _ _ hb with rfl | ⟨T, cs, hm, rfl⟩
            · exact absurd rfl hne
            · simp only [β0, hb]
              exact hr.live b _ (hgl b T cs hm).1 (by simp)
          · intro b e hb
            obtain ⟨T, cs, h1, hm, h2⟩ := hβ0 b e hb
            obtain ⟨o, o', h3, h4, h5⟩ := hr.obj b e h2
            rw [(hgl b T cs hm).1] at h3
            cases h3
            refine ⟨_, o', h1, h4, ?_⟩
            cases o' <;> simp only [ORel] at h5 ⊢
            obtain ⟨q1, q2, q3, q4⟩ := h5
            refine ⟨q1, q2, fun i v hv => ?_, q4⟩
            obtain ⟨v', q5, q6⟩ := q3 i v hv
            have hafc := Array.all_eq_true'.1 (hgl b T cs hm).2.1 v (Array.mem_of_getElem? hv)
            refine ⟨v', q5, ?_⟩
            rw [VR.afc_eq hafc q6]
            exact VR.of_afc hafc
          · intro b c e f he hf hbf
            obtain ⟨T, cs, h1, hm, h2⟩ := hβ0 b e he
            obtain ⟨T', cs', h1', hm', h2'⟩ := hβ0 c f hf
            exact .inr ⟨⟨_, h1, rfl⟩, ⟨_, h1', rfl⟩⟩
        have hgok : GOk P β0 (heapOf P.globals.size l) := by
          refine ⟨by rw [heapOf_size]; exact Nat.le_refl _, fun g e hg he => ?_⟩
          obtain ⟨_, _, _, _, h2⟩ := hβ0 g e he
          exact hG.2 g e hg h2
        refine (evCall_sim hS.mixed hS.code hS.hooks n f' #[] _ _ g1 hev β0 w #[] hrel hgok .nil).mono ?_
        rintro e w' ⟨v', β', rfl, p1, p2, p3⟩
        have hb : Below w.heap.size w w' := p3.below fun b e he => by
          obtain ⟨T, cs, h1, _⟩ := hβ0 b e he
          exact ⟨_, h1, rfl⟩
        have hlt : ∀ b e, β b = some e → e.blk < w.heap.size := fun b e he => by
          obtain ⟨o, o', _, h4, _⟩ := hr.obj b e he
          exact (Array.getElem?_eq_some_iff.1 h4).1
        refine ⟨v', β, rfl, ?_, ⟨hr.live, fun b e he => ?_, hr.inj⟩, ?_⟩
        · rw [vr_bool p1]; exact .bool _
        · obtain ⟨o, o', h3, h4, h5⟩ := hr.obj b e he
          exact ⟨o, o', h3, by rw [hb.block _ (hlt b e he)]; exact h4, h5⟩
        · refine ⟨Nat.le_refl _, fun _ _ => .inl rfl, fun _ _ hb _ => ⟨hb, rfl⟩, fun b e he hn => ?_, hb.size, fun c hc _ => hb.block c hc, hb.os, hb.tape, hb.output⟩
          obtain ⟨o, _, h3, _⟩ := hr.obj b e he
          exact absurd (Array.getElem?_eq_some_iff.1 h3).1 hn
    · cases he
  · cases he
end Go.Am
