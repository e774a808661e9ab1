/- The operations that only look at their operands. -/
import Derived.Test.YtfmikgbachnneaaDoorAm2
set_option linter.unusedSimpArgs false
set_option linter.unusedVariables false
namespace Go.Am
section
variable {P : Program} {α γ : Type}

theorem quiet_run {s : Sem α} {a : α} (h : quiet P s = some a) : ∀ w, s.run P w = .ok a w := by
  induction s with
  | pure b => intro w; simp [quiet] at h; subst h; rfl
  | program k ih => intro w; simp only [quiet] at h; simp only [Sem.run]; exact ih P h w
  | mark m k ih => intro w; simp only [quiet] at h; simp only [Sem.run]; exact ih h w
  | _ => simp [quiet] at h
theorem quiet_bind' (s : Sem α) (k : α → Sem γ) : quiet P (s.bind k) = (quiet P s).bind fun a => quiet P (k a) := by
  induction s with
  | pure b => rfl
  | program f ih => simp only [Sem.bind, quiet]; exact ih P
  | mark m k ih => simp only [Sem.bind, quiet]; exact ih
  | _ => simp [Sem.bind, quiet]
theorem quiet_bind (s : Sem α) (k : α → Sem γ) : quiet P (s >>= k) = (quiet P s).bind fun a => quiet P (k a) := quiet_bind' s k
theorem quiet_pure (a : α) : quiet P (Pure.pure a : Sem α) = some a := rfl
theorem quiet_program : quiet P program = some P := rfl
theorem quiet_halt (x : Halt) : quiet P (Sem.halt x : Sem α) = none := rfl
theorem quiet_stuck (x : String) : quiet P (stuck x : Sem α) = none := rfl
theorem quiet_unsupported (x : Unsupported) : quiet P (unsupported x : Sem α) = none := rfl
theorem quiet_choose (q : Question) : quiet P (choose q) = none := rfl
theorem quiet_shape (q : Nat) : quiet P (shape q) = none := rfl
theorem quiet_getObj (q : Nat) : quiet P (getObj q) = none := rfl
theorem quiet_runtimePanic (x : RuntimeError) : quiet P (runtimePanic x : Sem α) = none := by
  cases x <;> simp [runtimePanic, quiet_bind, quiet_program, goPanic, newVar, newRow, newObj, quiet]
theorem quiet_boundsPanic (k : IntKind) (x y : Int) (c : BoundsCode) : quiet P (boundsPanic k x y c : Sem α) = none := by
  unfold boundsPanic
  split
  · rw [quiet_bind]; cases quiet P _ <;> simp [quiet_runtimePanic]
  · rw [quiet_bind]; cases quiet P _ <;> simp [quiet_runtimePanic]
theorem quiet_typeInfo (t : TypeId) : quiet P (typeInfo t) = P.info? t := by
  simp only [typeInfo, quiet_bind, quiet_program, Option.bind_some]
  cases P.info? t <;> rfl
theorem quiet_underlying (t : TypeId) : quiet P (underlying t) = P.underlying t := by
  simp only [underlying, quiet_bind, quiet_program, Option.bind_some]
  cases P.underlying t <;> rfl
theorem quiet_sizeOf (t : TypeId) : quiet P (sizeOf t) = (P.info? t).map (·.size) := by
  simp only [sizeOf, quiet_bind, quiet_typeInfo]
  cases P.info? t <;> rfl
theorem quiet_zeroValue (t : TypeId) : quiet P (zeroValue t) = (P.info? t).bind (·.zero) := by
  simp only [zeroValue, quiet_bind, quiet_typeInfo]
  cases h : P.info? t with
  | none => rfl
  | some i => cases h2 : i.zero <;> simp [h2, quiet_unsupported, quiet_pure]
def aggB : TypeDesc → Bool
  | .struct _ | .array _ _ => true
  | _ => false
theorem quiet_isAgg (t : TypeId) : quiet P (isAgg t) = (P.underlying t).map aggB := by
  simp only [isAgg, quiet_bind, quiet_underlying]
  cases P.underlying t with
  | none => rfl
  | some d => cases d <;> rfl
end

section
variable {P : Program} {β : Nat → Option Emb} {K : Nat → Prop}

theorem VR.undef : VR β K undef undef := .tuple _ _ .nil
theorem VR.not_int {v v' : Value} (h : VR β K v v') : ∀ k n, v = .int k n → v' = .int k n := by
  rintro k n rfl; cases h; rfl
theorem vr_int {v' : Value} {k : IntKind} {n : Int} (h : VR β K (.int k n) v') : v' = .int k n := by cases h; rfl
theorem vr_bool {v' : Value} {b : Bool} (h : VR β K (.bool b) v') : v' = .bool b := by cases h; rfl
theorem vr_string {v' : Value} {b : ByteArray} (h : VR β K (.string b) v') : v' = .string b := by cases h; rfl

theorem quiet_asIntOf (v : Value) : quiet P (asIntOf v) = match v with | .int k n => some (k, n) | _ => none := by
  cases v <;> try rfl
  rename_i a; cases a <;> rfl
theorem quiet_asInt (v : Value) : quiet P (asInt v) = match v with | .int _ n => some n | _ => none := by
  simp only [asInt, quiet_bind, quiet_asIntOf]
  cases v <;> rfl
theorem quiet_sureAddr (v : Value) : quiet P (Instr.sureAddr v) = match v with | .pointer (some a) => some a | _ => none := by
  cases v <;> try rfl
  rename_i a; cases a <;> rfl
theorem quiet_asAgg (v : Value) : quiet P (asAgg v) = match v with | .agg cs => some cs | _ => none := by cases v <;> rfl

theorem extract_vra {c c' : Array Value} (h : VRA β K c c') (i j : Nat) : VRA β K (c.extract i j) (c'.extract i j) := by
  refine .of_get (by simp [h.size]) fun n v v' h1 h2 => ?_
  rw [Array.getElem?_extract] at h1 h2
  split at h1
  · rename_i hlt
    rw [h.size, if_pos hlt] at h2
    obtain ⟨y, h3, h4⟩ := h.get h1
    rw [h3] at h2; cases h2; exact h4
  · cases h1

theorem quiet_part {t : TypeId} {cs cs' : Array Value} {off : Nat} {v : Value} (h : VRA β K cs cs') (hq : quiet P (part t cs off) = some v) : ∃ v', quiet P (part t cs' off) = some v' ∧ VR β K v v' := by
  simp only [part, quiet_bind, quiet_isAgg] at hq ⊢
  cases hu : P.underlying t with
  | none => rw [hu] at hq; simp at hq
  | some d =>
    rw [hu] at hq
    simp only [Option.map_some, Option.bind_some] at hq ⊢
    by_cases hc : aggB d = true
    · rw [if_pos hc] at hq ⊢
      simp only [quiet_bind, quiet_sizeOf] at hq ⊢
      cases hi : P.info? t with
      | none => rw [hi] at hq; simp at hq
      | some i =>
        rw [hi] at hq
        simp only [Option.map_some, Option.bind_some, quiet_pure, Option.some.injEq] at hq ⊢
        subst hq
        exact ⟨_, rfl, .agg _ _ (extract_vra h _ _)⟩
    · rw [if_neg hc] at hq ⊢
      cases hv : cs[off]? with
      | none => rw [hv] at hq; simp [quiet_stuck] at hq
      | some x =>
        rw [hv] at hq; simp only [quiet_pure, Option.some.injEq] at hq; subst hq
        obtain ⟨x', h1, h2⟩ := h.get hv
        exact ⟨x', by rw [h1]; rfl, h2⟩

theorem quiet_field {t : TypeId} {x x' : Value} {f : Nat} {v : Value} (h : VR β K x x') (hq : quiet P (Instr.field t x f) = some v) : ∃ v', quiet P (Instr.field t x' f) = some v' ∧ VR β K v v' := by
  simp only [Instr.field, quiet_bind, quiet_underlying] at hq ⊢
  cases hu : P.underlying t with
  | none => rw [hu] at hq; simp at hq
  | some d =>
    rw [hu] at hq
    simp only [Option.bind_some] at hq ⊢
    cases d <;> simp only [quiet_stuck, reduceCtorEq] at hq
    rename_i fields
    cases hf : fields[f]? with
    | none => rw [hf] at hq; simp [quiet_stuck] at hq
    | some fd =>
      dsimp only
      rw [hf] at hq ⊢
      simp only [quiet_bind, quiet_asAgg] at hq ⊢
      cases h with
      | agg c c' hc => simp only [Option.bind_some] at hq ⊢; exact quiet_part hc hq
      | _ => simp at hq

theorem quiet_extract {x x' : Value} {i : Nat} {v : Value} (h : VR β K x x') (hq : quiet P (Instr.extract x i) = some v) : ∃ v', quiet P (Instr.extract x' i) = some v' ∧ VR β K v v' := by
  cases h with
  | tuple c c' hc =>
    simp only [Instr.extract] at hq ⊢
    cases hv : c[i]? with
    | none => rw [hv] at hq; simp [quiet_stuck] at hq
    | some y =>
      rw [hv] at hq; simp only [quiet_pure, Option.some.injEq] at hq; subst hq
      obtain ⟨y', h1, h2⟩ := VRA.get hc hv
      exact ⟨y', by rw [h1]; rfl, h2⟩
  | _ => simp [Instr.extract, quiet_stuck] at hq

theorem addr_add (b o n : Nat) : (⟨b, o, none⟩ : Addr).add n = ⟨b, o + n, none⟩ := by
  unfold Addr.add; split <;> simp_all

theorem vr_ptr_add {a : Addr} {x' : Value} (h : VR β K (.pointer (some a)) x') (n : Nat) : ∃ a', x' = .pointer (some a') ∧ VR β K (.pointer (some (a.add n))) (.pointer (some (a'.add n))) := by
  cases h with
  | ptr b o a' hk hb =>
    refine ⟨a', rfl, ?_⟩
    rw [addr_add]
    exact .ptr _ _ _ hk fun e he => by rw [hb e he, addr_add, Nat.add_assoc]

theorem quiet_fieldAt {t : TypeId} {x x' : Value} {f : Nat} {v : Value} (hs : fieldSized P t f = true) (h : VR β K x x') (hq : quiet P (Instr.fieldAt t x f) = some v) : ∃ v', quiet P (Instr.fieldAt t x' f) = some v' ∧ VR β K v v' := by
  simp only [Instr.fieldAt, quiet_bind, quiet_underlying] at hq ⊢
  cases hu : P.underlying t with
  | none => rw [hu] at hq; simp at hq
  | some d =>
    rw [hu] at hq
    simp only [Option.bind_some] at hq ⊢
    cases d <;> simp only [quiet_stuck, reduceCtorEq] at hq
    rename_i fields
    cases hf : fields[f]? with
    | none => rw [hf] at hq; simp [quiet_stuck] at hq
    | some fd =>
      dsimp only
      rw [hf] at hq ⊢
      simp only [quiet_bind, quiet_sureAddr] at hq ⊢
      cases x with
      | pointer a => cases a with
        | none => simp at hq
        | some a =>
          simp only [Option.bind_some, fieldPlace, quiet_bind, quiet_sizeOf] at hq
          obtain ⟨a', rfl, hv⟩ := vr_ptr_add h fd.offset
          simp only [Option.bind_some, fieldPlace, quiet_bind, quiet_sizeOf]
          cases hi : P.info? fd.type with
          | none => rw [hi] at hq; simp at hq
          | some i =>
            rw [hi] at hq
            simp only [Option.map_some, Option.bind_some] at hq ⊢
            by_cases hz : i.size = 0
            · simp [fieldSized, hu, hf, szT, hi, hz] at hs
            · rw [if_neg hz] at hq ⊢
              simp only [quiet_pure, Option.bind_some, Option.some.injEq] at hq ⊢
              subst hq
              exact ⟨_, rfl, hv⟩
      | _ => simp at hq

theorem quiet_indexAt {t : TypeId} {x x' i i' : Value} {v : Value} (h : VR β K x x') (hi : VR β K i i') (hq : quiet P (Instr.indexAt t x i) = some v) : ∃ v', quiet P (Instr.indexAt t x' i') = some v' ∧ VR β K v v' := by
  simp only [Instr.indexAt, quiet_bind, quiet_asIntOf] at hq ⊢
  cases i <;> simp only [Option.bind_none, reduceCtorEq] at hq
  rename_i k n
  obtain rfl := vr_int hi
  simp only [Option.bind_some, quiet_underlying] at hq ⊢
  cases hu : P.underlying t with
  | none => rw [hu] at hq; simp at hq
  | some d =>
    rw [hu] at hq
    simp only [Option.bind_some] at hq ⊢
    cases d <;> try (simp [quiet_stuck, quiet_bind] at hq; done)
    · rename_i el
      cases h <;> try (simp [quiet_stuck, quiet_bind] at hq; done)
      · rename_i l c
        simp [quiet_bind, quiet_boundsPanic] at hq
      · rename_i b o len cap a' cap' hk hb
        simp only [quiet_bind, quiet_pure, Option.bind_some] at hq ⊢
        by_cases hin : 0 ≤ n ∧ n < (len : Int)
        · simp only [hin, and_self, if_true, quiet_bind, quiet_sizeOf] at hq ⊢
          cases hs : P.info? el with
          | none => rw [hs] at hq; simp at hq
          | some inf =>
            rw [hs] at hq
            simp only [quiet_underlying, hu, Option.map_some, Option.bind_some, quiet_pure, Option.some.injEq] at hq ⊢
            subst hq
            refine ⟨_, rfl, ?_⟩
            rw [addr_add]
            refine .ptr _ _ _ hk fun e he => ?_
            obtain ⟨h1, h2, h3, _⟩ := hb e he
            rw [h3 (by omega), addr_add, Nat.add_assoc]
        · exfalso
          revert hq
          simp only [hin, if_false, quiet_underlying, hu, Option.bind_some]
          split <;> simp [quiet_boundsPanic, quiet_unsupported]
    · rename_i ln el
      cases x with
      | pointer a => cases a with
        | none => cases h; simp [quiet_bind, quiet_sureAddr] at hq
        | some a =>
          obtain ⟨a', rfl, _⟩ := vr_ptr_add h 0
          simp only [quiet_bind, quiet_sureAddr, quiet_pure, Option.bind_some] at hq ⊢
          by_cases hin : 0 ≤ n ∧ n < (ln : Int)
          · simp only [hin, and_self, if_true, quiet_bind, quiet_sizeOf] at hq ⊢
            cases hs : P.info? el with
            | none => rw [hs] at hq; simp at hq
            | some inf =>
              rw [hs] at hq
              simp only [quiet_underlying, hu, Option.map_some, Option.bind_some, quiet_pure, Option.some.injEq] at hq ⊢
              subst hq
              obtain ⟨a2, h2, hv⟩ := vr_ptr_add h (n.toNat * inf.size)
              cases h2
              exact ⟨_, rfl, hv⟩
          · exfalso
            revert hq
            simp only [hin, if_false, quiet_underlying, hu, Option.bind_some]
            split <;> simp [quiet_boundsPanic, quiet_unsupported]
      | _ => cases h <;> simp [quiet_bind, quiet_sureAddr] at hq

theorem quiet_index {t : TypeId} {x x' i i' : Value} {v : Value} (h : VR β K x x') (hi : VR β K i i') (hq : quiet P (Instr.index t x i) = some v) : ∃ v', quiet P (Instr.index t x' i') = some v' ∧ VR β K v v' := by
  simp only [Instr.index, quiet_bind, quiet_asIntOf] at hq ⊢
  cases i <;> simp only [Option.bind_none, reduceCtorEq] at hq
  rename_i k n
  obtain rfl := vr_int hi
  simp only [Option.bind_some, quiet_underlying] at hq ⊢
  cases hu : P.underlying t with
  | none => rw [hu] at hq; simp at hq
  | some d =>
    rw [hu] at hq
    simp only [Option.bind_some] at hq ⊢
    cases d <;> try (simp [quiet_stuck] at hq; done)
    · cases h <;> try (simp [quiet_stuck] at hq; done)
      rename_i s
      refine ⟨v, hq, ?_⟩
      dsimp only at hq
      cases hb : (if 0 ≤ n then s[n.toNat]? else none) with
      | none => rw [hb] at hq; simp [quiet_boundsPanic] at hq
      | some y => rw [hb] at hq; simp only [quiet_pure, Option.some.injEq] at hq; subst hq; exact .int _ _
    · rename_i ln el
      cases h <;> try (simp [quiet_stuck] at hq; done)
      rename_i c c' hc
      by_cases hin : 0 ≤ n ∧ n < (ln : Int)
      · simp only [hin, and_self, if_true, quiet_bind, quiet_sizeOf] at hq ⊢
        cases hs : P.info? el with
        | none => rw [hs] at hq; simp at hq
        | some inf =>
          rw [hs] at hq
          simp only [Option.map_some, Option.bind_some] at hq ⊢
          exact quiet_part hc hq
      · simp [hin, quiet_boundsPanic] at hq

/-! build -/
theorem foldl_set_vra {xs xs' : List Value} (hx : VRL β K xs xs') (off : Nat) : ∀ (n : Nat) {c c' : Array Value}, VRA β K c c' →
    VRA β K ((xs.zipIdx n).foldl (fun cs (c, j) => cs.setIfInBounds (off + j) c) c) ((xs'.zipIdx n).foldl (fun cs (c, j) => cs.setIfInBounds (off + j) c) c') := by
  induction xs generalizing xs' with
  | nil => intro n c c' h; cases hx; simpa using h
  | cons x xs ih =>
    intro n c c' h
    cases hx with
    | cons _ x' _ xs' h1 h2 =>
      simp only [List.zipIdx_cons, List.foldl_cons]
      exact ih h2 (n + 1) (h.set h1 _)

theorem fill_vra (place : Nat → Option (Nat × Nat)) : ∀ (l l' : List (Nat × Value)) (c c' : Array Value) (r : Array Value), VRA β K c c' → l.map (·.1) = l'.map (·.1) → (∀ x ∈ l, isAny x.2 = false) → VRL β K (l.map (·.2)) (l'.map (·.2)) →
    Instr.fill place c l = some r → ∃ r', Instr.fill place c' l' = some r' ∧ VRA β K r r' := by
  intro l
  induction l with
  | nil => intro l' c c' r h h1 _ h2 hf; cases l' with
    | nil => simp [Instr.fill] at hf ⊢; subst hf; exact h
    | cons => simp at h1
  | cons x l ih =>
    intro l' c c' r h h1 hany h2 hf
    cases l' with
    | nil => simp at h1
    | cons x' l' =>
      obtain ⟨i, v⟩ := x; obtain ⟨i', v'⟩ := x'
      simp only [List.map_cons, List.cons.injEq] at h1 h2
      obtain ⟨rfl, h1⟩ := h1
      cases h2 with
      | cons _ _ _ _ h3 h4 =>
        have hno : v ≠ .chan none := by rintro rfl; have := hany (i, .chan none) (by simp); simp [isAny] at this
        have hc := h3.cells hno
        simp only [Instr.fill] at hf ⊢
        cases hp : place i with
        | none => rw [hp] at hf; simp at hf
        | some p =>
          obtain ⟨off, size⟩ := p
          rw [hp] at hf
          simp only at hf ⊢
          rw [VRA.size hc, h.size]
          split at hf
          · cases hf
          · rename_i hg
            rw [if_neg hg]
            refine ih _ _ _ _ ?_ h1 (fun y hy => hany y (by simp [hy])) h4 hf
            simp only [← Array.foldl_toList, Array.toList_zipIdx]
            exact foldl_set_vra hc off 0 h

theorem quiet_build {t : TypeId} {l l' : Array (Nat × Value)} {v : Value} (hz : zeroAf P t = true) (h1 : l.toList.map (·.1) = l'.toList.map (·.1)) (hany : ∀ x ∈ l.toList, isAny x.2 = false) (h2 : VRL β K (l.toList.map (·.2)) (l'.toList.map (·.2)))
    (hq : quiet P (Instr.build t l) = some v) : ∃ v', quiet P (Instr.build t l') = some v' ∧ VR β K v v' := by
  simp only [Instr.build, quiet_bind, quiet_zeroValue] at hq ⊢
  unfold zeroAf at hz
  cases hzz : (P.info? t).bind (·.zero) with
  | none => rw [hzz] at hq; simp at hq
  | some z =>
    rw [hzz] at hq hz
    simp only [Option.bind_some, quiet_underlying] at hq ⊢
    have hzr : VRA β K z.cells z.cells := VRA.of_afc hz
    cases hu : P.underlying t with
    | none => rw [hu] at hq; simp at hq
    | some d =>
      rw [hu] at hq
      simp only [Option.bind_some] at hq ⊢
      cases d <;> try (simp [quiet_stuck] at hq; done)
      · rename_i ln el
        simp only [quiet_bind, quiet_sizeOf] at hq ⊢
        cases hs : P.info? el with
        | none => rw [hs] at hq; simp at hq
        | some inf =>
          rw [hs] at hq
          simp only [Option.map_some, Option.bind_some] at hq ⊢
          cases hf : Instr.fill (fun i => some (i * inf.size, inf.size)) z.cells l.toList with
          | none => rw [hf] at hq; simp [quiet_stuck] at hq
          | some r =>
            rw [hf] at hq; simp only [quiet_pure, Option.some.injEq] at hq; subst hq
            obtain ⟨r', h3, h4⟩ := fill_vra _ _ _ _ _ _ hzr h1 hany h2 hf
            exact ⟨_, by rw [h3]; rfl, .agg _ _ h4⟩
      · rename_i fields
        simp only [quiet_bind] at hq ⊢
        cases hp : quiet P (fields.mapM fun f => do
          let __do_lift ← sizeOf f.type
          pure (f.offset, __do_lift)) with
        | none => rw [hp] at hq; simp at hq
        | some places =>
          rw [hp] at hq
          simp only [Option.bind_some] at hq ⊢
          cases hf : Instr.fill (fun x => places[x]?) z.cells l.toList with
          | none => rw [hf] at hq; simp [quiet_stuck] at hq
          | some r =>
            rw [hf] at hq; simp only [quiet_pure, Option.some.injEq] at hq; subst hq
            obtain ⟨r', h3, h4⟩ := fill_vra _ _ _ _ _ _ hzr h1 hany h2 hf
            exact ⟨_, by rw [h3]; rfl, .agg _ _ h4⟩

/-! ### operands -/
def operOk (P : Program) : Operand → Bool
  | .const v => af v
  | .global g => g < P.globals.size
  | _ => true
def opOk (P : Program) (o : Oper) : Bool := o.op.operands.all (operOk P)

/-- The operands of o, related. -/
def ER (β : Nat → Option Emb) (K : Nat → Prop) (o : Oper) (ρ ρ' : Operand → Value) : Prop := ∀ x, x ∈ o.op.operands → VR β K (ρ x) (ρ' x)

theorem map_vra {ρ ρ' : Operand → Value} {xs : Array Operand} (h : ∀ x, x ∈ xs → VR β K (ρ x) (ρ' x)) : VRA β K (xs.map ρ) (xs.map ρ') := by
  refine .of_get (by simp) fun i v v' h1 h2 => ?_
  simp only [Array.getElem?_map, Option.map_eq_some_iff] at h1 h2
  obtain ⟨x, hx, rfl⟩ := h1
  obtain ⟨y, hy, rfl⟩ := h2
  rw [hx] at hy; cases hy
  exact h x (Array.mem_of_getElem? hx)
theorem vra_af_eq {c c' : Array Value} (h : VRA β K c c') (ha : c.all af = true) : c' = c := by
  apply Array.ext_getElem?
  intro i
  cases hc : c[i]? with
  | none =>
    have : c.size ≤ i := by simpa using hc
    simp only [Array.getElem?_eq_none_iff]
    rw [h.size]; exact this
  | some v =>
    obtain ⟨v', h1, h2⟩ := h.get hc
    rw [h1, VR.af_eq (Array.all_eq_true'.1 ha v (Array.mem_of_getElem? hc)) h2]

theorem run_value {s : Sem Value} {w : World} {v : Value} (h : quiet P s = some v) : (do pure (Next.value (← s)) : Sem Next).run P w = .ok (.value v) w := by
  simp [quiet_run h]

theorem keepAf_some {r : Option Value} {v : Value} (h : keepAf r = some v) : r = some v ∧ af v = true := by
  unfold keepAf at h
  cases r with
  | none => simp at h
  | some u =>
    simp only [Option.bind_some] at h
    split at h
    · cases h; exact ⟨rfl, by assumption⟩
    · cases h
theorem eqGuard_other {op : BinOp} (h : ¬ (op = .eql ∨ op = .neq)) (t : TypeId) (x y : Operand) (a b : Value) : eqGuard op t x y a b = pure () := by
  cases op <;> first | rfl | simp at h
theorem vr_ptr_inv {a : Addr} {x' : Value} (h : VR β K (.pointer (some a)) x') : ∃ a', x' = .pointer (some a') := by cases h; exact ⟨_, rfl⟩
theorem vr_func_inv {fn : Fn} {f c : Array Value} {x' : Value} (h : VR β K (.func fn f c) x') : ∃ f' c', x' = .func fn f' c' ∧ VRA β K f f' ∧ VRA β K c c' := by
  cases h with | func _ _ _ f' c' hf hc => exact ⟨f', c', rfl, hf, hc⟩

theorem evPure_sim {o : Oper} {ρ ρ' : Operand → Value} (hρ : ER β K o ρ ρ') (hc : cls P o = 0) {v : Value} (he : evPure P o ρ = some v) :
    ∃ v', (∀ w, (execOp ρ' o).run P w = .ok (.value v') w) ∧ VR β K v v' := by
  unfold evPure at he
  unfold cls at hc
  unfold ER at hρ
  unfold execOp
  split at he <;> rename_i hop <;> simp only [hop, Op.operands] at hc hρ ⊢
  · rename_i x
    cases he
    exact ⟨ρ' x, fun w => by simp, hρ x (by simp)⟩
  · rename_i x
    cases he
    exact ⟨ρ' x, fun w => by simp, hρ x (by simp)⟩
  · rename_i c a b
    split at he
    · rename_i t hcb
      cases he
      have h1 := hρ c (by simp); rw [hcb] at h1
      refine ⟨if t then ρ' a else ρ' b, fun w => by simp [vr_bool h1, asBool], ?_⟩
      split
      · exact hρ a (by simp)
      · exact hρ b (by simp)
    · cases he
  · rename_i t parts
    split at he
    · rename_i hg
      simp only [Bool.and_eq_true] at hg
      have hmem : ∀ x ∈ parts, VR β K (ρ x.2) (ρ' x.2) := fun x hx => hρ x.2 (by simp; exact ⟨x.1, hx⟩)
      obtain ⟨v', h1, h2⟩ := quiet_build (β := β) (K := K) (l' := parts.map fun (i, x) => (i, ρ' x)) hg.1 (by simp) (fun y hy => by
        simp only [Array.toList_map, List.mem_map] at hy
        obtain ⟨z, hz, rfl⟩ := hy
        have := Array.all_eq_true'.1 hg.2 (ρ z.2) (by simp; exact ⟨z.1, z.2, by simpa using hz, rfl⟩)
        simpa using this) (VRL.of_get (by simp) fun i u u' h1 h2 => by
          simp only [Array.toList_map, List.map_map, List.getElem?_map, Option.map_eq_some_iff] at h1 h2
          obtain ⟨z, hz, rfl⟩ := h1
          obtain ⟨y, hy, rfl⟩ := h2
          rw [hz] at hy; cases hy
          exact hmem z (by simpa using List.mem_of_getElem? hz)) he
      exact ⟨v', fun w => run_value h1, h2⟩
    · cases he
  · rename_i x
    have h1 := hρ x (by simp)
    split at he
    · rename_i a hx
      cases he
      rw [hx] at h1
      obtain ⟨a', ha⟩ := vr_ptr_inv h1
      rw [ha] at h1 ⊢
      exact ⟨_, fun w => by simp, h1⟩
    · rename_i f fi ca hx
      cases he
      rw [hx] at h1
      obtain ⟨f', c', ha, _, _⟩ := vr_func_inv h1
      rw [ha] at h1 ⊢
      exact ⟨_, fun w => by simp, h1⟩
    · cases he
  · rename_i op t x y yt
    have hx := hρ x (by simp)
    have hy := hρ y (by simp)
    split at he
    · rename_i hg
      simp only [Bool.and_eq_true] at hg
      obtain ⟨he, hav⟩ := keepAf_some he
      have hne : ¬ (op = .eql ∨ op = .neq) := by intro hh; simp [hh] at hc
      rw [VR.af_eq hg.1 hx, VR.af_eq hg.2 hy, eqGuard_other hne]
      exact ⟨v, fun w => by simp [quiet_run he], VR.of_af hav⟩
    · cases he
  · rename_i op t x
    have hx := hρ x (by simp)
    split at he
    · rename_i hg
      obtain ⟨he, hav⟩ := keepAf_some he
      rw [VR.af_eq hg hx]
      exact ⟨v, fun w => run_value he, VR.of_af hav⟩
    · cases he
  · rename_i s d x
    have hx := hρ x (by simp)
    split at he
    · rename_i hg
      obtain ⟨he, hav⟩ := keepAf_some he
      rw [VR.af_eq hg hx]
      exact ⟨v, fun w => run_value he, VR.of_af hav⟩
    · cases he
  · rename_i t x
    have hx := hρ x (by simp)
    simp only [Instr.makeInterface, quiet_bind, quiet_underlying] at he
    cases hu : P.underlying t with
    | none => rw [hu] at he; simp at he
    | some d =>
      rw [hu] at he
      refine ⟨.iface t (ρ' x), fun w => ?_, ?_⟩
      · refine run_value ?_
        simp only [Instr.makeInterface, quiet_bind, quiet_underlying, hu]
        cases d <;> simp_all [quiet_stuck, quiet_pure]
      · have : v = .iface t (ρ x) := by cases d <;> simp_all [quiet_stuck, quiet_pure]
        subst this; exact .iface _ _ _ hx
  · rename_i fn fi ca
    cases he
    exact ⟨_, fun w => by simp [Instr.makeFunc], .func _ _ _ _ _ (map_vra fun x hx => hρ x (by simp [hx])) (map_vra fun x hx => hρ x (by simp [hx]))⟩
  · rename_i s x f
    split at he
    · rename_i hs
      obtain ⟨v', h1, h2⟩ := quiet_fieldAt hs (hρ x (by simp)) he
      exact ⟨v', fun w => run_value h1, h2⟩
    · cases he
  · rename_i s x f
    obtain ⟨v', h1, h2⟩ := quiet_field (hρ x (by simp)) he
    exact ⟨v', fun w => run_value h1, h2⟩
  · rename_i t x i
    obtain ⟨v', h1, h2⟩ := quiet_indexAt (hρ x (by simp)) (hρ i (by simp)) he
    exact ⟨v', fun w => run_value h1, h2⟩
  · rename_i t x i
    obtain ⟨v', h1, h2⟩ := quiet_index (hρ x (by simp)) (hρ i (by simp)) he
    exact ⟨v', fun w => run_value h1, h2⟩
  · rename_i t i
    obtain ⟨v', h1, h2⟩ := quiet_extract (hρ t (by simp)) he
    exact ⟨v', fun w => run_value h1, h2⟩
  · rename_i c
    have hm : VRA β K (c.args.map ρ) (c.args.map ρ') := map_vra fun x hx => hρ x (by simp [Call.operands, hx])
    split at he
    · rename_i hcal
      split at he
      · rename_i hg
        obtain ⟨he, hav⟩ := keepAf_some he
        rw [← vra_af_eq hm hg] at he
        exact ⟨v, fun w => by simp [resolve, hcal, invoke, builtin, quiet_run he], VR.of_af hav⟩
      · cases he
    · rename_i hcal
      split at he
      · rename_i hg
        obtain ⟨he, hav⟩ := keepAf_some he
        rw [← vra_af_eq hm hg] at he
        exact ⟨v, fun w => by simp [resolve, hcal, invoke, builtin, quiet_run he], VR.of_af hav⟩
      · cases he
    · cases he
  · cases he
end
end Go.Am
