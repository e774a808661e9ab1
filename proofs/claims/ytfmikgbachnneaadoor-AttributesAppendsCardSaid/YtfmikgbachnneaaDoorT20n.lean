/- What always holds of a table is kept by each call. -/
import Derived.Test.YtfmikgbachnneaaDoorT20m
set_option linter.unusedSimpArgs false
set_option linter.unusedVariables false
namespace Go.Tab20
open Go Go.Am
variable {T : Tb} {id n : Int}

theorem get_upd_same {α : Type} {l : List (Int × α)} {id : Int} {x y : α} (h : get l id = some y) : get (upd l id x) id = some x := by
  induction l with
  | nil => cases h
  | cons a l ih =>
    unfold get upd at *
    rw [List.map_cons, List.find?_cons]
    rw [List.find?_cons] at h
    by_cases ha : a.1 = id
    · simp [ha]
    · rw [if_neg ha, beq_eq_false_iff_ne.2 ha]
      rw [beq_eq_false_iff_ne.2 ha] at h
      exact ih h
theorem get_upd_ne {α : Type} {l : List (Int × α)} {id k : Int} {x : α} (h : k ≠ id) : get (upd l id x) k = get l k := by
  induction l with
  | nil => rfl
  | cons a l ih =>
    unfold get upd at *
    rw [List.map_cons, List.find?_cons, List.find?_cons]
    by_cases ha : a.1 = id
    · rw [if_pos ha, beq_eq_false_iff_ne.2 (Ne.symm h), beq_eq_false_iff_ne.2 (by rw [ha]; exact Ne.symm h)]
      exact ih
    · rw [if_neg ha]
      by_cases hk : a.1 = k
      · simp [hk]
      · rw [beq_eq_false_iff_ne.2 hk]
        exact ih
theorem get_upd_some {α : Type} {l : List (Int × α)} {id k : Int} {x : α} (h : (get l k).isSome = true) : (get (upd l id x) k).isSome = true := by
  by_cases hk : k = id
  · subst hk
    obtain ⟨y, hy⟩ := Option.isSome_iff_exists.1 h
    rw [get_upd_same hy]; rfl
  · rw [get_upd_ne hk]; exact h
theorem get_app {α : Type} {l : List (Int × α)} {k m : Int} {x : α} (h : (get l k).isSome = true) : (get (l ++ [(m, x)]) k).isSome = true := by
  obtain ⟨y, hy⟩ := Option.isSome_iff_exists.1 h
  unfold get at *
  rw [List.find?_append]
  simp only [Option.map_eq_some_iff] at hy
  obtain ⟨p, hp, _⟩ := hy
  rw [hp]; rfl
theorem get_app_new {α : Type} {l : List (Int × α)} {last : Int} {x : α} (h : Ord l last) : get (l ++ [(last + 1, x)]) (last + 1) = some x := by
  unfold get
  rw [List.find?_append]
  have : l.find? (fun p => p.1 == last + 1) = none := by
    rw [List.find?_eq_none]
    intro p hp
    have := h.le p hp
    simp; omega
  rw [this]
  simp
theorem get_rem_ne {α : Type} {l : List (Int × α)} {id k : Int} (h : k ≠ id) : get (rem l id) k = get l k := by
  induction l with
  | nil => rfl
  | cons a l ih =>
    unfold get rem at *
    by_cases ha : a.1 = id
    · rw [List.eraseP_cons_of_pos (by simpa using ha), List.find?_cons, beq_eq_false_iff_ne.2 (by rw [ha]; exact Ne.symm h)]
    · rw [List.eraseP_cons_of_neg (by simpa using ha), List.find?_cons, List.find?_cons]
      by_cases hk : a.1 = k
      · simp [hk]
      · rw [beq_eq_false_iff_ne.2 hk]; exact ih
theorem Inv.live' (h : Inv T) : ∀ p ∈ T.bs, (get T.os p.2.ob).isSome = true := fun p hp => by
  obtain ⟨a, ha⟩ := h.live p hp; rw [ha]; rfl
theorem inv_mk (h1 : Ord T.os T.lo) (h2 : Ord T.bs T.lb) (h3 : 0 ≤ T.lo) (h4 : 0 ≤ T.lb) (h5 : ∀ p ∈ T.os, 0 ≤ p.2.s ∧ p.2.s ≤ 16384 ∧ 0 ≤ p.2.n ∧ p.2.n ≤ 9223372036854775807) (h6 : ∀ p ∈ T.bs, 0 ≤ p.2.off ∧ p.2.off ≤ 16384 ∧ 1 ≤ p.2.re ∧ p.2.re ≤ 200) (h7 : ∀ p ∈ T.bs, (get T.os p.2.ob).isSome = true) : Inv T :=
  ⟨h1, h2, h3, h4, h5, h6, fun p hp => Option.isSome_iff_exists.1 (h7 p hp)⟩
/-- A block of the same object is laid in another's place. -/
theorem inv_setB (h : Inv T) {b x : Bk} (hg : get T.bs id = some b) (hob : x.ob = b.ob) (hx : 0 ≤ x.off ∧ x.off ≤ 16384 ∧ 1 ≤ x.re ∧ x.re ≤ 200) : Inv { T with bs := upd T.bs id x } := by
  refine inv_mk h.os h.bs.upd h.lo h.lb h.size (fun p hp => ?_) (fun p hp => ?_)
  · rcases mem_upd hp with rfl | ⟨hp, _⟩
    · exact hx
    · exact h.off p hp
  · rcases mem_upd hp with rfl | ⟨hp, _⟩
    · simp only [hob]; exact h.live' _ (get_mem hg)
    · exact h.live' p hp
theorem inv_setO (h : Inv T) {x : At} (hx : 0 ≤ x.s ∧ x.s ≤ 16384 ∧ 0 ≤ x.n ∧ x.n ≤ 9223372036854775807) : Inv { T with os := upd T.os id x } := by
  refine inv_mk h.os.upd h.bs h.lo h.lb (fun p hp => ?_) h.off (fun p hp => get_upd_some (h.live' p hp))
  rcases mem_upd hp with rfl | ⟨hp, _⟩
  · exact hx
  · exact h.size p hp
theorem inv_create (h : Inv T) {a : At} (ha : a.n ≤ 9223372036854775807) : Inv (create T a).2.2 := by
  unfold create
  split
  · exact h
  · rename_i hc
    split
    · exact h
    · refine inv_mk (h.os.add h.lo) h.bs (by have := h.lo; simp only; omega) h.lb (fun p hp => ?_) h.off (fun p hp => get_app (h.live' p hp))
      rcases List.mem_append.1 hp with hp | hp
      · exact h.size p hp
      · simp only [List.mem_singleton] at hp; subst hp; simp only; omega
theorem inv_open (h : Inv T) {al : At → Cr → Int → Bool} {ob : Int} {c : Cr} {b : Bk} : Inv (openB al T ob c b).2.2 := by
  unfold openB
  split
  · exact h
  · rename_i a ha
    split
    · exact h
    split
    · exact h
    split
    · exact h
    split
    · exact h
    split
    · exact h
    · refine inv_mk h.os (h.bs.add h.lb) h.lo (by have := h.lb; simp only; omega) h.size (fun p hp => ?_) (fun p hp => ?_)
      · rcases List.mem_append.1 hp with hp | hp
        · exact h.off p hp
        · simp only [List.mem_singleton] at hp; subst hp; simp
      · rcases List.mem_append.1 hp with hp | hp
        · exact h.live' p hp
        · simp only [List.mem_singleton] at hp; subst hp; simp only [ha]; rfl
theorem inv_dup (h : Inv T) : Inv (dup T id).2 := by
  unfold dup
  split
  · exact h
  · rename_i b hb
    have := h.off _ (get_mem hb)
    simp only at this
    split
    · exact h
    · exact inv_setB h hb rfl (by simp only; omega)
theorem inv_remB (h : Inv T) : Inv { T with bs := rem T.bs id } :=
  inv_mk h.os h.bs.rem h.lo h.lb h.size (fun p hp => h.off p (List.mem_of_mem_eraseP hp)) (fun p hp => h.live' p (List.mem_of_mem_eraseP hp))
theorem inv_sweep (h : Inv T) {ob : Int} : Inv (sweep T ob).2 := by
  unfold sweep
  split
  · exact h
  · split
    · exact h
    · rename_i hc
      refine inv_mk h.os.rem h.bs h.lo h.lb (fun p hp => h.size p (List.mem_of_mem_eraseP hp)) h.off (fun p hp => ?_)
      have hne : p.2.ob ≠ ob := by
        intro he
        apply hc
        right
        unfold opens
        rw [List.length_map, List.length_filter_pos_iff]
        exact ⟨p, hp, by simp [he]⟩
      simp only
      rw [get_rem_ne hne]
      exact h.live' p hp
theorem inv_close (h : Inv T) : Inv (close T id).2.2 := by
  unfold close
  split
  · exact h
  · rename_i b hb
    have := h.off _ (get_mem hb)
    simp only at this
    split
    · exact inv_setB h hb rfl (by simp only; omega)
    · exact inv_sweep (inv_remB h)
theorem inv_read (h : Inv T) : Inv (read T id n).2.2.2 := by
  unfold Tab20.read
  split
  · exact h
  · rename_i b hb
    have hb' := h.off _ (get_mem hb)
    simp only at hb'
    split
    · exact h
    split
    · exact h
    split
    · exact h
    · rename_i a ha
      have hs := h.size _ (get_mem ha)
      simp only at hs
      exact inv_setB h hb rfl (by simp only; omega)
theorem inv_write (h : Inv T) : Inv (write T id n).2.2.2 := by
  unfold Tab20.write
  split
  · exact h
  · rename_i b hb
    have hb' := h.off _ (get_mem hb)
    simp only at hb'
    split
    · exact h
    split
    · exact h
    split
    · exact h
    · rename_i a ha
      have hs := h.size _ (get_mem ha)
      simp only at hs
      have hk : 0 ≤ (if b.ap = true then a.s else b.off) ∧ (if b.ap = true then a.s else b.off) ≤ 16384 := by split <;> omega
      simp only
      generalize (if b.ap = true then a.s else b.off) = at_ at hk ⊢
      split
      · exact h
      · have h2 := inv_setB (x := { b with off := at_ + max (min n (16384 - at_)) 0 }) h hb rfl (by simp only; omega)
        exact inv_setO (T := { T with bs := upd T.bs id { b with off := at_ + max (min n (16384 - at_)) 0 } }) h2 (by simp only; omega)
theorem inv_seek (h : Inv T) {off wh : Int} : Inv (seek T id off wh).2.2 := by
  unfold Tab20.seek
  split
  · exact h
  · rename_i b hb
    have hb' := h.off _ (get_mem hb)
    simp only at hb'
    split
    · exact h
    split
    · exact h
    · rename_i a ha
      simp only
      generalize (if wh = 0 then 0 else if wh = 1 then b.off else a.s) = base
      split
      · exact h
      · rename_i hc
        exact inv_setB h hb rfl (by simp only; omega)
theorem inv_truncate (h : Inv T) : Inv (truncate T id n).2 := by
  unfold Tab20.truncate
  split
  · exact h
  · split
    · exact h
    split
    · exact h
    split
    · exact h
    · rename_i a ha
      have hs := h.size _ (get_mem ha)
      simp only at hs
      exact inv_setO h (by simp only; omega)
theorem inv_chmod (h : Inv T) {c : Cr} : Inv (chmod T id c n).2 := by
  unfold chmod
  split
  · exact h
  · rename_i a ha
    have hs := h.size _ (get_mem ha)
    simp only at hs
    split
    · exact h
    split
    · exact h
    · exact inv_setO h (by simp only; omega)
theorem inv_chown (h : Inv T) {c : Cr} {us gr : Int} : Inv (chown T id c us gr).2 := by
  unfold chown
  split
  · exact h
  · rename_i a ha
    have hs := h.size _ (get_mem ha)
    simp only at hs
    simp only
    generalize (if us < 0 then a.u else us) = us'
    generalize (if gr < 0 then a.g else gr) = gr'
    split
    · exact h
    · exact inv_setO h (by simp only; omega)
theorem inv_link (h : Inv T) : Inv (link T id).2 := by
  unfold Tab20.link
  split
  · exact h
  · rename_i a ha
    have hs := h.size _ (get_mem ha)
    simp only at hs
    split
    · exact h
    · exact inv_setO h (by simp only; omega)
theorem inv_unlink (h : Inv T) : Inv (unlink T id).2.2 := by
  unfold unlink
  split
  · exact h
  · rename_i a ha
    have hs := h.size _ (get_mem ha)
    simp only at hs
    split
    · exact h
    · exact inv_sweep (inv_setO (x := { a with n := a.n - 1 }) h (by simp only; omega))
theorem inv_new : Inv ⟨[], 0, [], 0⟩ := inv_mk ⟨by simp, by simp, .nil⟩ ⟨by simp, by simp, .nil⟩ (by decide) (by decide) (by simp) (by simp) (by simp)

/-- The numbers given last rise by one at most. -/
theorem lo_create {a : At} : (create T a).2.2.lo ≤ T.lo + 1 ∧ (create T a).2.2.lb = T.lb := by
  have same : T.lo ≤ T.lo + 1 ∧ T.lb = T.lb := ⟨by omega, rfl⟩
  unfold create; split
  · exact same
  · split
    · exact same
    · exact ⟨Int.le_refl _, rfl⟩
theorem lb_open {al : At → Cr → Int → Bool} {ob : Int} {c : Cr} {b : Bk} : (openB al T ob c b).2.2.lb ≤ T.lb + 1 ∧ (openB al T ob c b).2.2.lo = T.lo := by
  have same : T.lb ≤ T.lb + 1 ∧ T.lo = T.lo := ⟨by omega, rfl⟩
  unfold openB
  split
  · exact same
  · split
    · exact same
    split
    · exact same
    split
    · exact same
    split
    · exact same
    split
    · exact same
    · exact ⟨Int.le_refl _, rfl⟩
end Go.Tab20
