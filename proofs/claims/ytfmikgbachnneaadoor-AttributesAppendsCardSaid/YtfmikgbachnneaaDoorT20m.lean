/- What a table of attributes is, in plain Lean: objects and control blocks by their identifiers, and the calls. -/
import Derived.Test.YtfmikgbachnneaaDoorAm17
set_option linter.unusedSimpArgs false
set_option linter.unusedVariables false
namespace Go.Tab20
open Go Go.Am

structure At where
  (m u g s n : Int) (d : Bool)
structure Bk where
  (ob ac de : Int) (ap : Bool) (off re : Int)
structure Tb where
  (os : List (Int × At)) (lo : Int) (bs : List (Int × Bk)) (lb : Int)
structure Cr where
  (u g : Int) (gs : List Int)

section
variable {α : Type}
def get (l : List (Int × α)) (id : Int) : Option α := (l.find? fun p => p.1 == id).map (·.2)
def upd (l : List (Int × α)) (id : Int) (x : α) : List (Int × α) := l.map fun p => if p.1 = id then (id, x) else p
def rem (l : List (Int × α)) (id : Int) : List (Int × α) := l.eraseP fun p => p.1 == id
/-- Identifiers rise, and are at most a last one. -/
structure Ord (l : List (Int × α)) (last : Int) : Prop where
  pos : ∀ p ∈ l, 1 ≤ p.1
  le : ∀ p ∈ l, p.1 ≤ last
  lt : l.Pairwise fun p q => p.1 < q.1
theorem get_mem {l : List (Int × α)} {id : Int} {x : α} (h : get l id = some x) : (id, x) ∈ l := by
  unfold get at h
  simp only [Option.map_eq_some_iff] at h
  obtain ⟨p, h1, rfl⟩ := h
  have h2 := List.find?_some h1
  have h3 := List.mem_of_find?_eq_some h1
  simp only [beq_iff_eq] at h2
  subst h2
  exact h3
theorem get_none {l : List (Int × α)} {id : Int} (h : get l id = none) : ∀ p ∈ l, p.1 ≠ id := by
  unfold get at h
  simp only [Option.map_eq_none_iff, List.find?_eq_none, beq_iff_eq] at h
  exact h
theorem get_of_mem {l : List (Int × α)} (hl : l.Pairwise fun p q => p.1 < q.1) {id : Int} {x : α} (h : (id, x) ∈ l) : get l id = some x := by
  induction l with
  | nil => cases h
  | cons a l ih =>
    rw [List.pairwise_cons] at hl
    unfold get
    rw [List.find?_cons]
    rcases List.mem_cons.1 h with rfl | h1
    · simp
    · have : a.1 < id := hl.1 _ h1
      rw [beq_eq_false_iff_ne.2 (by omega)]
      exact ih hl.2 h1
theorem upd_keys {l : List (Int × α)} {id : Int} {x : α} : (upd l id x).map (·.1) = l.map (·.1) := by
  unfold upd
  rw [List.map_map]
  apply List.map_congr_left
  intro p _
  simp only [Function.comp]
  split
  · rename_i h; exact h.symm
  · rfl
theorem Ord.of_keys {l l' : List (Int × α)} {last : Int} (h : Ord l last) (hk : l'.map (·.1) = l.map (·.1)) : Ord l' last := by
  have hm : ∀ p ∈ l', ∃ q ∈ l, q.1 = p.1 := fun p hp => by
    have : p.1 ∈ l.map (·.1) := hk ▸ List.mem_map_of_mem hp
    simpa using List.mem_map.1 this
  refine ⟨fun p hp => ?_, fun p hp => ?_, ?_⟩
  · obtain ⟨q, h1, h2⟩ := hm p hp; have := h.pos q h1; omega
  · obtain ⟨q, h1, h2⟩ := hm p hp; have := h.le q h1; omega
  · have h3 : (l.map (·.1)).Pairwise (· < ·) := List.pairwise_map.2 h.lt
    rw [← hk] at h3
    exact List.pairwise_map.1 h3
theorem Ord.upd {l : List (Int × α)} {last id : Int} {x : α} (h : Ord l last) : Ord (upd l id x) last := h.of_keys upd_keys
theorem Ord.rem {l : List (Int × α)} {last id : Int} (h : Ord l last) : Ord (rem l id) last :=
  ⟨fun p hp => h.pos p (List.mem_of_mem_eraseP hp), fun p hp => h.le p (List.mem_of_mem_eraseP hp), h.lt.sublist List.eraseP_sublist⟩
theorem Ord.add {l : List (Int × α)} {last : Int} {x : α} (h : Ord l last) (h0 : 0 ≤ last) : Ord (l ++ [(last + 1, x)]) (last + 1) := by
  refine ⟨fun p hp => ?_, fun p hp => ?_, ?_⟩
  · rcases List.mem_append.1 hp with h1 | h1
    · exact h.pos p h1
    · simp only [List.mem_singleton] at h1; subst h1; simp only; omega
  · rcases List.mem_append.1 hp with h1 | h1
    · have := h.le p h1; omega
    · simp only [List.mem_singleton] at h1; subst h1; exact Int.le_refl _
  · rw [List.pairwise_append]
    refine ⟨h.lt, by simp, fun p hp q hq => ?_⟩
    simp only [List.mem_singleton] at hq; subst hq
    have := h.le p hp
    simp only; omega
theorem mem_rem_ne {l : List (Int × α)} {last id : Int} (h : Ord l last) : ∀ p ∈ rem l id, p.1 ≠ id := by
  have hl := h.lt
  clear h
  induction l with
  | nil => intro p hp; cases hp
  | cons a l ih =>
    rw [List.pairwise_cons] at hl
    intro p hp he
    unfold rem at hp
    by_cases ha : a.1 = id
    · rw [List.eraseP_cons_of_pos (by simpa using ha)] at hp
      have := hl.1 p hp
      omega
    · rw [List.eraseP_cons_of_neg (by simpa using ha)] at hp
      rcases List.mem_cons.1 hp with rfl | hp
      · exact ha he
      · exact ih hl.2 p hp he
theorem mem_rem {l : List (Int × α)} {id : Int} {p : Int × α} (h : p ∈ l) (hn : p.1 ≠ id) : p ∈ rem l id := by
  unfold rem
  exact (List.mem_eraseP_of_neg (by simpa using hn)).2 h
theorem mem_upd {l : List (Int × α)} {id : Int} {x : α} {p : Int × α} (h : p ∈ upd l id x) : p = (id, x) ∨ (p ∈ l ∧ p.1 ≠ id) := by
  unfold upd at h
  obtain ⟨q, h1, h2⟩ := List.mem_map.1 h
  split at h2
  · exact .inl h2.symm
  · subst h2; exact .inr ⟨h1, by assumption⟩
end

/-! ### the calls -/
def create (T : Tb) (a : At) : Int × Int × Tb :=
  if a.m < 0 ∨ 4095 < a.m ∨ a.u < 0 ∨ a.g < 0 ∨ a.s < 0 ∨ 16384 < a.s ∨ a.n < 0 then (0, 34, T)
  else if 1000 ≤ T.os.length then (0, 18, T)
  else (T.lo + 1, 0, { T with os := T.os ++ [(T.lo + 1, a)], lo := T.lo + 1 })
def conflict (ob : Int) (b x : Bk) : Bool := x.ob == ob && (iand .i64 x.ac b.de != 0 || iand .i64 x.de b.ac != 0)
def openB (allowed : At → Cr → Int → Bool) (T : Tb) (ob : Int) (c : Cr) (b : Bk) : Int × Int × Tb :=
  match get T.os ob with
  | none => (0, 22, T)
  | some a =>
    if b.ac < 1 ∨ 3 < b.ac ∨ b.de < 0 ∨ 3 < b.de ∨ (b.ap = true ∧ iand .i64 b.ac 2 = 0) then (0, 14, T)
    else if a.d = true ∧ iand .i64 b.ac 2 ≠ 0 then (0, 16, T)
    else if allowed a c b.ac = false then (0, 1, T)
    else if T.bs.any (fun p => conflict ob b p.2) then (0, 5, T)
    else if 200 ≤ T.bs.length then (0, 18, T)
    else (T.lb + 1, 0, { T with bs := T.bs ++ [(T.lb + 1, ⟨ob, b.ac, b.de, b.ap, 0, 1⟩)], lb := T.lb + 1 })
def opens (T : Tb) (ob : Int) : List Int := (T.bs.filter fun p => p.2.ob == ob).map (·.1)
def objects (T : Tb) : List Int := T.os.map (·.1)
def dup (T : Tb) (id : Int) : Int × Tb := match get T.bs id with
  | none => (3, T)
  | some b => if 200 ≤ b.re then (18, T) else (0, { T with bs := upd T.bs id { b with re := b.re + 1 } })
/-- An object without names and blocks goes. -/
def sweep (T : Tb) (ob : Int) : Bool × Tb := match get T.os ob with
  | none => (false, T)
  | some a => if 0 < a.n ∨ 0 < (opens T ob).length then (false, T) else (true, { T with os := rem T.os ob })
def close (T : Tb) (id : Int) : Bool × Int × Tb := match get T.bs id with
  | none => (false, 3, T)
  | some b =>
    if 0 < b.re - 1 then (false, 0, { T with bs := upd T.bs id { b with re := b.re - 1 } })
    else let r := sweep { T with bs := rem T.bs id } b.ob; (r.1, 0, r.2)
def read (T : Tb) (id n : Int) : Int × Int × Int × Tb := match get T.bs id with
  | none => (0, 0, 3, T)
  | some b =>
    if iand .i64 b.ac 1 = 0 then (0, 0, 1, T)
    else if n < 0 then (0, 0, 34, T)
    else match get T.os b.ob with
      | none => (0, 0, 0, T)
      | some a => let k := max (min n (a.s - b.off)) 0
        (b.off, k, 0, { T with bs := upd T.bs id { b with off := b.off + k } })
def write (T : Tb) (id n : Int) : Int × Int × Int × Tb := match get T.bs id with
  | none => (0, 0, 3, T)
  | some b =>
    if iand .i64 b.ac 2 = 0 then (0, 0, 1, T)
    else if n < 0 then (0, 0, 34, T)
    else match get T.os b.ob with
      | none => (0, 0, 0, T)
      | some a =>
        let at_ := if b.ap then a.s else b.off
        let k := max (min n (16384 - at_)) 0
        if 0 < n ∧ k = 0 then (0, 0, 25, T)
        else (at_, k, 0, { T with bs := upd T.bs id { b with off := at_ + k }, os := upd T.os b.ob { a with s := max a.s (at_ + k) } })
def seek (T : Tb) (id offset whence : Int) : Int × Int × Tb := match get T.bs id with
  | none => (0, 3, T)
  | some b =>
    if whence < 0 ∨ 2 < whence then (0, 14, T)
    else match get T.os b.ob with
      | none => (0, 0, T)
      | some a =>
        let base := if whence = 0 then 0 else if whence = 1 then b.off else a.s
        if offset + base < 0 ∨ 16384 < offset + base then (0, 34, T)
        else (offset + base, 0, { T with bs := upd T.bs id { b with off := offset + base } })
def truncate (T : Tb) (id size : Int) : Int × Tb := match get T.bs id with
  | none => (3, T)
  | some b =>
    if iand .i64 b.ac 2 = 0 then (1, T)
    else if size < 0 ∨ 16384 < size then (34, T)
    else match get T.os b.ob with
      | none => (0, T)
      | some a => (0, { T with os := upd T.os b.ob { a with s := size } })
def inGroup (c : Cr) (g : Int) : Bool := decide (c.g = g ∨ g ∈ c.gs)
def chmod (T : Tb) (ob : Int) (c : Cr) (mode : Int) : Int × Tb := match get T.os ob with
  | none => (22, T)
  | some a =>
    if mode < 0 ∨ 4095 < mode then (34, T)
    else if c.u ≠ 0 ∧ c.u ≠ a.u then (32, T)
    else (0, { T with os := upd T.os ob { a with m := if c.u ≠ 0 ∧ inGroup c a.g = false then iandNot .i64 mode 1024 else mode } })
def chown (T : Tb) (ob : Int) (c : Cr) (user group : Int) : Int × Tb := match get T.os ob with
  | none => (22, T)
  | some a =>
    let us := if user < 0 then a.u else user
    let gr := if group < 0 then a.g else group
    if c.u ≠ 0 ∧ (us ≠ a.u ∨ c.u ≠ a.u ∨ (gr ≠ a.g ∧ inGroup c gr = false)) then (32, T)
    else (0, { T with os := upd T.os ob { a with u := us, g := gr, m := if c.u ≠ 0 then iandNot .i64 a.m 3072 else a.m } })
def link (T : Tb) (ob : Int) : Int × Tb := match get T.os ob with
  | none => (22, T)
  | some a => if 1000 ≤ a.n then (18, T) else (0, { T with os := upd T.os ob { a with n := a.n + 1 } })
def unlink (T : Tb) (ob : Int) : Bool × Int × Tb := match get T.os ob with
  | none => (false, 22, T)
  | some a =>
    if a.n = 0 then (false, 35, T)
    else let r := sweep { T with os := upd T.os ob { a with n := a.n - 1 } } ob; (r.1, 0, r.2)

/-- What always holds. -/
structure Inv (T : Tb) : Prop where
  os : Ord T.os T.lo
  bs : Ord T.bs T.lb
  lo : 0 ≤ T.lo
  lb : 0 ≤ T.lb
  size : ∀ p ∈ T.os, 0 ≤ p.2.s ∧ p.2.s ≤ 16384 ∧ 0 ≤ p.2.n ∧ p.2.n ≤ 9223372036854775807
  off : ∀ p ∈ T.bs, 0 ≤ p.2.off ∧ p.2.off ≤ 16384 ∧ 1 ≤ p.2.re ∧ p.2.re ≤ 200
  live : ∀ p ∈ T.bs, ∃ a, get T.os p.2.ob = some a
end Go.Tab20
