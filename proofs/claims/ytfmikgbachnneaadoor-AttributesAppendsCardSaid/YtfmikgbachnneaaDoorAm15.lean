/- Opening a law's arguments onto the canonical heap. -/
import Derived.Test.YtfmikgbachnneaaDoorAm14
import Derived.Deep.Slices
import Derived.Deep.Fields
import Derived.ChangeSame
set_option linter.unusedSimpArgs false
set_option linter.unusedVariables false
namespace Go.Am
open Go.ChangeShapes Go.WideShapes Go.Deep

section
variable {H₀ : Type} {enc : TypeId × Value → H₀} {P : Program} {w : World} {r : Reach} {base : Nat}
theorem cell_int {u : TypeId} {k : IntKind} {v : Value} (hu : P.underlying u = some (.int k)) (h : Cell.okWide P w r base u v) : ∃ n, v = .int k n ∧ k.has n := by
  unfold Cell.okWide at h
  rw [hu] at h
  cases v <;> simp only [Cell.ok, hu] at h
  obtain ⟨rfl, h⟩ := h
  exact ⟨_, rfl, h⟩
theorem cell_bool {u : TypeId} {v : Value} (hu : P.underlying u = some .bool) (h : Cell.okWide P w r base u v) : ∃ b, v = .bool b := by
  unfold Cell.okWide at h
  rw [hu] at h
  cases v <;> simp only [Cell.ok, hu] at h
  exact ⟨_, rfl⟩
theorem cell_slice {u e : TypeId} {v : Value} (hu : P.underlying u = some (.slice e)) (h : Cell.okWide P w r base u v) :
    v = .slice none 0 0 ∨ ∃ b o len cap cs T fr, v = .slice (some ⟨b, o, none⟩) len cap ∧ len ≤ cap ∧ (cap : Int) ≤ IntKind.i64.max ∧ w.heap[b]? = some (.cells cs T fr) := by
  unfold Cell.okWide at h
  rw [hu] at h
  cases v with
  | slice a len cap =>
    simp only [Cell.ok, hu] at h
    cases a with
    | none =>
      left
      split at h <;> simp_all
    | some a =>
      right
      simp only at h
      obtain ⟨h1, h2, _, h3, row, cells, h4, _⟩ := h
      obtain ⟨b, o, s⟩ := a
      simp only at h3 h4
      subst h3
      unfold World.shape? at h4
      cases hh : w.heap[b]? with
      | none => simp [hh] at h4
      | some ob =>
        cases ob with
        | cells cs T fr => exact ⟨b, o, len, cap, cs, T, fr, rfl, h1, h2, hh⟩
        | _ => simp [hh] at h4
  | _ => simp only [Cell.ok, hu] at h
theorem val_cell {t : TypeId} {v : Value} (h : Value.okWide P w r base t v) (hn : ∀ fs, P.underlying t ≠ some (.struct fs)) (ha : ∀ n e, P.underlying t ≠ some (.array n e)) : Cell.okWide P w r base t v := by
  unfold Value.okWide at h
  split at h
  · rename_i fs hu; exact absurd hu (hn fs)
  · rename_i n e hu; exact absurd hu (ha n e)
  · exact h
/-- A struct argument: its cells, each as its type allows. -/
theorem val_struct {t : TypeId} {v : Value} {fs : Array Field} {ts : List TypeId} (hu : P.underlying t = some (.struct fs)) (hts : P.cellTypes P.depth t = some ts) (h : Value.okWide P w r base t v) :
    ∃ cs : Array Value, v = .agg cs ∧ cs.size = P.cellsOf t ∧ ∀ i c, cs[i]? = some c → ∃ u, ts[i % ts.length]? = some u ∧ Cell.okWide P w r base u c := by
  unfold Value.okWide at h
  rw [hu] at h
  obtain ⟨cs, h1, h2, ts', h3, _, h4⟩ := h
  rw [hts] at h3
  cases h3
  exact ⟨cs, h1, h2, h4⟩
end

/-- A slice of ints of one kind. -/
def IntsK (k : IntKind) (h : H) (v : Value) (l : List Int) : Prop :=
  (∃ a c, v = .slice a 0 c ∧ l = []) ∨ ∃ b o c cs T kd, v = .slice (some ⟨b, o, none⟩) l.length c ∧ h[b]? = some (.cells cs T kd) ∧ ∀ i x, l[i]? = some x → cs[o + i]? = some (.int k x)
theorem IntsK.ext {k : IntKind} {h h' : H} {v : Value} {l : List Int} (hI : IntsK k h v l) (he : Ext h h') : IntsK k h' v l := by
  rcases hI with h1 | ⟨b, o, c, cs, T, kd, h1, h2, h3⟩
  · exact .inl h1
  · exact .inr ⟨b, o, c, cs, T, kd, h1, he.some h2, h3⟩
theorem IntsK.len {k : IntKind} {h : H} {v : Value} {l : List Int} (hI : IntsK k h v l) : ∃ a c, v = .slice a l.length c := by
  rcases hI with ⟨a, c, rfl, rfl⟩ | ⟨b, o, c, cs, T, kd, rfl, _⟩
  · exact ⟨_, _, rfl⟩
  · exact ⟨_, _, rfl⟩

theorem canonC_int {n : Nat} {k : IntKind} {x : Int} : canonC n (.int k x) = .int k x := by simp [canonC, afc]
theorem canonC_bool {n : Nat} {b : Bool} : canonC n (.bool b) = .bool b := by simp [canonC, afc]
theorem canonC_slice {n b o l c : Nat} (hb : b < n) (hl : l ≤ c) : canonC n (.slice (some ⟨b, o, none⟩) l c) = .slice (some ⟨b, o, none⟩) l c := by simp [canonC, hb, hl]
theorem lt_hsz {P : Program} {W : World} {b : Nat} {o : Obj} (h : W.heap[b]? = some o) : b < hsz P W := by
  have := (Array.getElem?_eq_some_iff.1 h).1
  unfold hsz; omega

theorem ints_open {H₀ : Type} {enc : TypeId × Value → H₀} {P : Program} {W : World} {r : Reach} {base : Nat} {held : Bool} {fuel : Nat} {u e : TypeId} {k : IntKind} {v : Value} {x : DataW H₀ × List MemPlace}
    (hu : P.underlying u = some (.slice e)) (he : P.underlying e = some (.int k)) (hC : P.cellsOf e = 1) (hok : Cell.okWide P W r base u v) (ht : DataW.trod enc P W 0 (fun _ => true) held fuel u [v] = some x) :
    ∃ l : List Int, IntsK k (canonH P W) (canonC (hsz P W) v) l ∧ ∀ x ∈ l, (Lit.int k x).wf = true := by
  rcases cell_slice hu hok with rfl | ⟨b, o, len, cap, cs, T, fr, rfl, h1, h2, hb⟩
  · exact ⟨[], .inl ⟨none, 0, by simp [canonC, afc], rfl⟩, by simp⟩
  · rcases open_slice hu ht with ⟨h3, _⟩ | ⟨a, len', cap', m, n, D, Pl, h3, _, _, _, hm, _, hi⟩
    · simp at h3
    · simp only [List.cons.injEq, Value.slice.injEq, Option.some.injEq, and_true] at h3
      obtain ⟨rfl, rfl, rfl⟩ := h3
      simp only [if_true] at hm
      subst hm
      have hcell : ∀ i, ∃ z : Int, i < len → cs[o + i]? = some (.int k z) ∧ (Lit.int k z).wf = true := by
        intro i
        by_cases hlt : i < len
        · obtain ⟨cs', hc, ht'⟩ := hi i (Nat.lt_of_lt_of_le hlt h1)
          rw [hC, Nat.mul_one] at hc
          obtain ⟨_, hcl, hat⟩ := World.cells?_some hc
          obtain ⟨z, hz, _, hwf⟩ := DataW.trod_int he ht'
          refine ⟨z, fun _ => ⟨?_, hwf⟩⟩
          have := hat 0 (by omega)
          rw [hz] at this
          rw [show ((⟨b, o, none⟩ : Addr).add i).add 0 = ⟨b, o + i, none⟩ by simp only [Addr.add]; split <;> simp_all] at this
          simpa [World.cell?, hb] using this
        · exact ⟨0, fun h => absurd h hlt⟩
      obtain ⟨f, hf⟩ := Classical.axiomOfChoice hcell
      refine ⟨(List.range len).map f, .inr ⟨b, o, m, cs.map (canonC (hsz P W)), T, .ro, ?_, canonH_get hb, ?_⟩, ?_⟩
      · rw [canonC_slice (lt_hsz hb) h1]; simp
      · intro i x hx
        simp only [List.getElem?_map, Option.map_eq_some_iff] at hx
        obtain ⟨j, hj, rfl⟩ := hx
        have hj' : i < len ∧ i = j := by
          by_cases hlt : i < len
          · rw [List.getElem?_range hlt] at hj
            exact ⟨hlt, by simpa using hj⟩
          · rw [List.getElem?_eq_none (by simpa using hlt)] at hj
            cases hj
        obtain ⟨hlt, rfl⟩ := hj'
        rw [Array.getElem?_map, (hf i hlt).1]
        simp [canonC_int]
      · intro x hx
        obtain ⟨i, hi', rfl⟩ := List.mem_map.1 hx
        exact (hf i (List.mem_range.1 hi')).2
end Go.Am
