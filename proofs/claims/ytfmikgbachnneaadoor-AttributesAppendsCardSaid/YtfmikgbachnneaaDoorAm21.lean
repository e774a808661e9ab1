/- A slice of whole numbers, sorted by the library. -/
import Derived.Test.YtfmikgbachnneaaDoorAm20
import Derived.Sort.Grow
set_option linter.unusedSimpArgs false
set_option linter.unusedVariables false
namespace Go.Am
variable {P : Program} {β : Nat → Option Emb} {h : H} {w : World}

/-- What the library's sort does with whole numbers. -/
def SortC (P : Program) (f : FuncId) : Prop := ∀ (blk off cap : Nat) (zs : List Int) (w : World), Go.Sort.Holds (Value.int .i64) w blk off zs.toArray → blk < w.heap.size → zs.length < 4611686018427387904 →
  Calls P f #[.slice (some ⟨blk, off, none⟩) zs.length cap] w fun e w' => e = .returned (.tuple #[]) ∧ ∃ n os, w' = Go.Sort.grow (Go.Sort.putRow (Value.int .i64) (Go.Sort.ahead w n) blk off (zs.mergeSort fun x y => decide (x ≤ y)).toArray) os
def intCs (l : List Int) : Array Value := (l.map fun n => Value.int .i64 n).toArray
/-- Blocks laid behind. -/
theorem Rel.behind (hr : Rel P β h w) {w' : World} {os : Array Obj} (hh : w'.heap = w.heap ++ os) (h1 : w'.os = w.os) (h2 : w'.tape = w.tape) (h3 : w'.output = w.output) : Rel P β h w' ∧ Evo β h w β h w' := by
  have hget : ∀ b, b < w.heap.size → w'.heap[b]? = w.heap[b]? := fun b hb => by rw [hh, Array.getElem?_append_left hb]
  refine ⟨⟨hr.live, fun b e hb => ?_, hr.inj⟩, ⟨Nat.le_refl _, fun _ _ => .inl rfl, fun b e hb _ => ⟨hb, rfl⟩, fun b e hb hn => absurd (hr.lt hb) hn, by rw [hh]; simp, fun c hc _ => hget c hc, h1, h2, h3⟩⟩
  obtain ⟨o, o', k1, k2, k3⟩ := hr.obj b e hb
  exact ⟨o, o', k1, by rw [hget _ (hr.blk_lt hb)]; exact k2, k3⟩
theorem sort_sim {f : FuncId} (hS : SortC P f) (hr : Rel P β h w) {b T : Nat} {l : List Int} (hb : h[b]? = some (.cells (intCs l) T .grown)) (hne : l ≠ []) (hsmall : l.length < 4611686018427387904) {v' : Value} (hv : VRh β h (.slice (some ⟨b, 0, none⟩) l.length l.length) v') :
    Calls P f #[v'] w fun e w' => e = .returned (.tuple #[]) ∧ Rel P β (h.setIfInBounds b (.cells (intCs (l.mergeSort fun x y => decide (x ≤ y))) T .grown)) w' ∧ Evo β h w β (h.setIfInBounds b (.cells (intCs (l.mergeSort fun x y => decide (x ≤ y))) T .grown)) w' := by
  obtain ⟨e, hbe⟩ := Option.isSome_iff_exists.1 (hr.live b _ hb (by simp))
  obtain ⟨o1, o2, k1, k2, k3⟩ := hr.obj b e hbe
  rw [hb] at k1; cases k1
  cases o2 <;> simp only [ORel] at k3
  rename_i cs' T' fr
  obtain ⟨rfl, hsz, hcells, hg, hroom, hfr⟩ := k3
  have hpos : 0 < l.length := List.length_pos_iff.2 hne
  have hcs : (intCs l).size = l.length := by simp [intCs]
  have hcell : ∀ j, (hj : j < l.length) → cs'[e.shift + j]? = some (.int .i64 l[j]) := by
    intro j hj
    obtain ⟨u, h1, h2⟩ := hcells j (.int .i64 l[j]) (by simp [intCs, hj])
    rw [h1, vr_int h2]
  cases hv with
  | slice _ _ _ _ a' cap' hk hsl =>
    obtain ⟨s1, s2, s3, s4⟩ := hsl e hbe
    have ha := s3 (by omega)
    subst ha
    simp only [Nat.add_zero]
    have hH : Go.Sort.Holds (Value.int .i64) w e.blk e.shift l.toArray := by
      intro j hj
      have hj' : j < l.length := by simpa using hj
      refine ⟨?_, ?_⟩
      · simp only [World.cell?, k2]
        rw [if_neg (by simp), hcell j hj']
        simp [hj']
      · simp only [World.frozen?, k2]
        have hlt : e.shift + j < cs'.size := by omega
        rcases hfr with hfr | hfr
        · simp; omega
        · simp; omega
    refine (hS e.blk e.shift cap' l w hH (hr.blk_lt hbe) hsmall).mono ?_
    rintro en w' ⟨rfl, n, os, rfl⟩
    have hlen : (l.mergeSort fun x y => decide (x ≤ y)).length = l.length := List.length_mergeSort _
    generalize hzs : (l.mergeSort fun x y => decide (x ≤ y)) = zs at hlen
    have hr1 : Rel P β h (Go.Sort.ahead w n) := hr.same rfl
    have hE1 : Evo β h w β h (Go.Sort.ahead w n) := hr.evo_same rfl rfl rfl rfl
    have hnro : ¬ roAt h b := by
      rintro ⟨o, k1, k2⟩
      rw [hb] at k1; cases k1; cases k2
    have hheap : (Go.Sort.putRow (Value.int .i64) (Go.Sort.ahead w n) e.blk e.shift zs.toArray).heap = (Go.Sort.ahead w n).heap.setIfInBounds e.blk (.cells (Go.Sort.putCells (Value.int .i64) e.shift zs.toArray cs') T' fr) := by
      apply Array.ext_getElem?
      intro i
      simp only [Go.Sort.putRow, Go.Sort.mapBlock, Go.Sort.ahead]
      rw [Array.getElem?_modify, Array.getElem?_setIfInBounds]
      by_cases hi : e.blk = i
      · subst hi
        rw [if_pos rfl, if_pos rfl, if_pos (hr.blk_lt hbe), k2]
        rfl
      · rw [if_neg hi, if_neg hi]
    obtain ⟨r1, r2⟩ := hr1.set (obj := .cells (intCs zs) T' .grown) (o' := .cells (Go.Sort.putCells (Value.int .i64) e.shift zs.toArray cs') T' fr) (w' := Go.Sort.putRow (Value.int .i64) (Go.Sort.ahead w n) e.blk e.shift zs.toArray) hbe hnro (by
      have hpsz : (Go.Sort.putCells (Value.int .i64) e.shift zs.toArray cs').size = cs'.size := by simp [Go.Sort.putCells]
      refine ⟨rfl, by rw [hpsz]; exact hsz, fun i v hi => ?_, ?_, ?_, ?_⟩
      · have hil : i < zs.length := by
          have := (Array.getElem?_eq_some_iff.1 hi).1
          simpa [intCs] using this
        have hvi : v = .int .i64 zs[i] := by
          simp [intCs, hil] at hi
          exact hi.symm
        subst hvi
        refine ⟨.int .i64 zs[i], ?_, .int _ _⟩
        have hlt : e.shift + i < cs'.size := by omega
        simp [Go.Sort.putCells, hlt, hil]
      · rw [hg]; simp [intCs, hlen]
      · simp [intCs]; omega
      · rw [hpsz]; exact hfr) hheap rfl rfl rfl
    obtain ⟨q1, q2⟩ := r1.behind (w' := Go.Sort.grow (Go.Sort.putRow (Value.int .i64) (Go.Sort.ahead w n) e.blk e.shift zs.toArray) os) (os := os) rfl rfl rfl rfl
    exact ⟨rfl, q1, (hE1.trans r2).trans q2⟩
/-- One of the blocks made since is kept, as the first behind those that were there. -/
theorem recanon {β' : Nat → Option Emb} {h' : H} {w' : World} {b n : Nat} {cs : Array Value} {T : TypeId} {k : Kind} {v' : Value} (hr : Rel P β h w) (hr1 : Rel P β' h' w') (hE : Evo β h w β' h' w') (hx : Ext h h') (hb : h'[b]? = some (.cells cs T k)) (hnb : h.size ≤ b) (hcs : ∀ (i : Nat) (v : Value), cs[i]? = some v → afc v = true)
    (hv : VRh β' h' (.slice (some ⟨b, 0, none⟩) n n) v') (hro : k ≠ .ro) :
    ∃ β1, VRh β1 (h.push (.cells cs T k)) (.slice (some ⟨h.size, 0, none⟩) n n) v' ∧ Rel P β1 (h.push (.cells cs T k)) w' ∧ Evo β h w β1 (h.push (.cells cs T k)) w' := by
  obtain ⟨e, hbe⟩ := Option.isSome_iff_exists.1 (hr1.live b _ hb (by simp))
  let β1 : Nat → Option Emb := fun c => if c < h.size then β' c else if c = h.size then some e else none
  have hlo : ∀ c, c < h.size → β1 c = β' c := fun c hc => by simp only [β1, if_pos hc]
  have hat : β1 h.size = some e := by simp [β1]
  have hcase : ∀ c f, β1 c = some f → (c < h.size ∧ β' c = some f) ∨ (c = h.size ∧ f = e) := by
    intro c f hc
    simp only [β1] at hc
    split at hc
    · exact .inl ⟨by assumption, hc⟩
    · split at hc
      · cases hc; exact .inr ⟨by assumption, rfl⟩
      · cases hc
  have hget : ∀ c, c < h.size → (h.push (.cells cs T k))[c]? = h[c]? := fun c hc => gp2 hc
  have hold : ∀ c f, c < h.size → β' c = some f → β c = some f := by
    intro c f hc hf
    rcases hE.old c hc with q | q
    · rw [← q]; exact hf
    · rw [q] at hf; cases hf
  have hnro : ¬ roAt h' b := by
    rintro ⟨o, k1, k2⟩
    rw [hb] at k1; cases k1
    cases k <;> first | exact hro rfl | cases k2
  have hnew : (h.push (.cells cs T k))[h.size]? = some (.cells cs T k) := gp1
  refine ⟨β1, ?_, ⟨?_, ?_, ?_⟩, ?_⟩
  · cases hv with
    | slice _ _ _ _ a' cap' hk hs =>
      refine .slice _ _ _ _ _ _ (by simp) fun f hf => ?_
      rw [hat] at hf; cases hf
      exact hs e hbe
  · intro c o hc hd
    by_cases hcl : c < h.size
    · rw [hlo c hcl]
      rw [hget c hcl] at hc
      exact hr1.live c o (hx.some hc) hd
    · have : c = h.size := by
        have := lt_get hc
        simp at this; omega
      subst this
      rw [hat]; rfl
  · intro c f hc
    rcases hcase c f hc with ⟨hcl, hf⟩ | ⟨rfl, rfl⟩
    · obtain ⟨o, o', k1, k2, k3⟩ := hr1.obj c f hf
      rw [hx.get c hcl] at k1
      refine ⟨o, o', by rw [hget c hcl]; exact k1, k2, ?_⟩
      obtain ⟨o2, o2', q1, _, q3⟩ := hr.obj c f (hold c f hcl hf)
      rw [k1] at q1; cases q1
      have hclo := q3.clo
      have h3 := k3.narrow (K := (· < h'.size)) (β' := β1) (n := h.size) (fun c hc => .inl (hlo c hc)) hclo
      exact h3.mono (fun c hc => by simp; omega) (fun c _ => .inl rfl)
    · obtain ⟨o, o', k1, k2, k3⟩ := hr1.obj b f hbe
      rw [hb] at k1; cases k1
      refine ⟨_, o', hnew, k2, ?_⟩
      cases o' <;> simp only [ORel] at k3 ⊢
      refine ⟨k3.1, k3.2.1, fun i v hi => ?_, k3.2.2.2⟩
      obtain ⟨u, u1, u2⟩ := k3.2.2.1 i v hi
      refine ⟨u, u1, ?_⟩
      rw [VR.afc_eq (hcs i v hi) u2]
      exact VR.of_afc (hcs i v hi)
  · intro c d f g hc hd hfg
    rcases hcase c f hc with ⟨hcl, hf⟩ | ⟨rfl, rfl⟩
    · rcases hcase d g hd with ⟨hdl, hg⟩ | ⟨rfl, rfl⟩
      · rcases hr1.inj c d f g hf hg hfg with q | ⟨q1, q2⟩
        · exact .inl q
        · exact .inr ⟨(roAt_of_eq (by rw [hget c hcl, hx.get c hcl])).2 q1, (roAt_of_eq (by rw [hget d hdl, hx.get d hdl])).2 q2⟩
      · rcases hr1.inj c b f g hf hbe hfg with q | ⟨q1, q2⟩
        · omega
        · exact absurd q2 hnro
    · rcases hcase d g hd with ⟨hdl, hg⟩ | ⟨rfl, rfl⟩
      · rcases hr1.inj b d f g hbe hg hfg with q | ⟨q1, q2⟩
        · omega
        · exact absurd q1 hnro
      · exact .inl rfl
  · refine ⟨by simp, fun c hc => by rw [hlo c hc]; exact hE.old c hc, fun c f hc hcr => ?_, fun c f hc hn => ?_, hE.wsize, hE.keep, hE.os, hE.tape, hE.output⟩
    · have hcl := hr.lt hc
      exact ⟨by rw [hlo c hcl]; exact (hE.ro c f hc hcr).1, hget c hcl⟩
    · rcases hcase c f hc with ⟨hcl, hf⟩ | ⟨rfl, rfl⟩
      · exact absurd hcl hn
      · exact hE.fresh b f hbe (by omega)

/-! ### the sort as a hook -/
def intsOfC (cs : Array Value) : List Int := cs.toList.map fun | .int .i64 n => n | _ => 0
theorem intsOfC_of (l : List Int) : intsOfC (intCs l) = l := by
  unfold intsOfC intCs
  rw [List.map_map]
  conv => rhs; rw [← List.map_id l]
  rfl
open Classical in
/-- What the sort makes of a slice of whole numbers of the call's own. -/
noncomputable def sortH : Array Value → H → Option (Value × H) := fun args h => match args.toList with
  | [.slice none 0 _] => some (.tuple #[], h)
  | [.slice (some ⟨b, 0, none⟩) n c] => match h[b]? with
    | some (.cells cs T .grown) => if cs = intCs (intsOfC cs) ∧ n = (intsOfC cs).length ∧ c = n ∧ 0 < n ∧ n < 4611686018427387904 then some (.tuple #[], h.setIfInBounds b (.cells (intCs ((intsOfC cs).mergeSort fun x y => decide (x ≤ y))) T .grown)) else none
    | _ => none
  | _ => none
theorem sortH_ok {f : FuncId} (hS : SortC P f) (hN : ∀ (p : Option Addr) (cap : Nat) (w : World), Calls P f #[.slice p 0 cap] w fun e w' => e = .returned (.tuple #[]) ∧ w' = w) : CallOk P (fun f' args h => if f' = f then sortH args h else none) := by
  intro f' args h v h1 he β w args' hr hG hargs
  simp only at he
  split at he
  · rename_i hf
    subst hf
    unfold sortH at he
    split at he
    · rename_i c hal
      simp only [Option.some.injEq, Prod.mk.injEq] at he
      obtain ⟨rfl, rfl⟩ := he
      have ha : VRL β (· < h.size) [.slice none 0 c] args'.toList := by have := hargs; unfold VRA at this; rw [hal] at this; exact this
      cases hl : args'.toList with
      | nil => rw [hl] at ha; cases ha
      | cons v' l' =>
        rw [hl] at ha
        cases ha with
        | cons _ _ _ _ k1 k2 =>
          cases k2
          cases k1
          have : args' = #[.slice none 0 c] := by rw [← Array.toArray_toList (xs := args'), hl]
          subst this
          refine (hN none c w).mono ?_
          rintro e w' ⟨rfl, rfl⟩
          exact ⟨_, β, rfl, .tuple _ _ .nil, hr, hr.refl⟩
    · rename_i b n c hal
      split at he
      · rename_i cs T hb
        split at he
        · rename_i hc
          obtain ⟨c1, rfl, rfl, c4, c5⟩ := hc
          simp only [Option.some.injEq, Prod.mk.injEq] at he
          obtain ⟨rfl, rfl⟩ := he
          have ha : VRL β (· < h.size) [.slice (some ⟨b, 0, none⟩) (intsOfC cs).length (intsOfC cs).length] args'.toList := by have := hargs; unfold VRA at this; rw [hal] at this; exact this
          cases hl : args'.toList with
          | nil => rw [hl] at ha; cases ha
          | cons v' l' =>
            rw [hl] at ha
            cases ha with
            | cons _ _ _ _ k1 k2 =>
              cases k2
              have : args' = #[v'] := by rw [← Array.toArray_toList (xs := args'), hl]
              subst this
              refine (sort_sim hS hr (l := intsOfC cs) (by rw [← c1]; exact hb) (List.length_pos_iff.1 c4) c5 k1).mono ?_
              rintro e w' ⟨rfl, q1, q2⟩
              exact ⟨_, β, rfl, .tuple _ _ .nil, q1, q2⟩
        · cases he
      · cases he
    · cases he
  · cases he

end Go.Am
