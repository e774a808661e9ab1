/- The operations that write or make. -/
import Derived.Test.YtfmikgbachnneaaDoorAm4
set_option linter.unusedSimpArgs false
set_option linter.unusedVariables false
namespace Go.Am
section
variable {P : Program} {β : Nat → Option Emb} {h : H} {w : World}

theorem Array.set_self' {α : Type} (xs : Array α) (i : Nat) (v : α) (hv : xs[i]? = some v) : xs.setIfInBounds i v = xs := by
  apply Array.ext_getElem?
  intro j
  rw [Array.getElem?_setIfInBounds]
  split
  · rename_i hij; subst hij
    split
    · exact hv.symm
    · rename_i hlt; rw [Array.getElem?_eq_none (by omega)] at hv; cases hv
  · rfl
theorem Array.set_set' {α : Type} (xs : Array α) (i : Nat) (u v : α) : (xs.setIfInBounds i u).setIfInBounds i v = xs.setIfInBounds i v := by
  apply Array.ext_getElem?
  intro j
  simp only [Array.getElem?_setIfInBounds, Array.size_setIfInBounds]
  split <;> rfl

theorem setCell_eq {blk j : Nat} {cur : Array Value} {T : TypeId} {fr : Nat × Nat} {v : Value} (hw : w.heap[blk]? = some (.cells cur T fr)) :
    w.setCell ⟨blk, j, none⟩ v = { w with heap := w.heap.setIfInBounds blk (.cells (cur.setIfInBounds j v) T fr) } := by
  unfold World.setCell
  congr 1
  apply Array.ext_getElem?
  intro i
  rw [Array.getElem?_modify, Array.getElem?_setIfInBounds]
  simp only
  split
  · rename_i hi; subst hi
    have hlt := (Array.getElem?_eq_some_iff.1 hw).1
    rw [if_pos hlt, hw]
    simp
  · rfl

theorem putL_size : ∀ (vs : List Value) (cs : Array Value) (o : Nat), (putL cs o vs).size = cs.size
  | [], _, _ => rfl
  | v :: vs, cs, o => by simp only [putL]; rw [putL_size vs]; simp
theorem putL_get : ∀ (vs : List Value) (cs : Array Value) (o i : Nat), o + vs.length ≤ cs.size → (putL cs o vs)[i]? = if o ≤ i ∧ i < o + vs.length then vs[i - o]? else cs[i]?
  | [], cs, o, i, _ => by
    simp only [putL, List.length_nil, Nat.add_zero]
    rw [if_neg (by omega)]
  | v :: vs, cs, o, i, hl => by
    simp only [putL]
    rw [putL_get vs _ _ _ (by simp at hl ⊢; omega), Array.getElem?_setIfInBounds]
    simp only [List.length_cons] at hl ⊢
    by_cases h1 : o = i
    · subst h1
      rw [if_neg (by omega), if_pos rfl, if_pos (by omega), if_pos (by omega)]; simp
    · rw [if_neg h1]
      by_cases h2 : o + 1 ≤ i ∧ i < o + 1 + vs.length
      · rw [if_pos h2, if_pos (by omega), show i - o = (i - (o + 1)) + 1 by omega]; simp
      · rw [if_neg h2, if_neg (by omega)]

theorem run_storeCells' {blk : Nat} {T : TypeId} {fr : Nat × Nat} : ∀ (vs : List Value) (i o : Nat) (cur : Array Value) (w : World), w.heap[blk]? = some (.cells cur T fr) → (∀ v ∈ vs, v.oneCell' = true) →
    (∀ j, j < cur.size → ¬ (fr.1 ≤ j ∧ j < fr.2)) → o + i + vs.length ≤ cur.size →
    (storeCells ⟨blk, o, none⟩ vs i).run P w = .ok () { w with heap := w.heap.setIfInBounds blk (.cells (putL cur (o + i) vs) T fr) }
  | [], i, o, cur, w, hw, _, _, _ => by
    simp only [storeCells, putL, Array.set_self' _ _ _ hw]
    rfl
  | v :: vs, i, o, cur, w, hw, h1, hf, hl => by
    simp only [List.length_cons] at hl
    have hc : w.cell? ⟨blk, o + i, none⟩ = some (cur.getD (o + i) undef) := by
      rw [cell?_at hw, Array.getD_eq_getD_getElem?, Array.getElem?_eq_getElem (by omega)]; rfl
    have hfr : w.frozen? ⟨blk, o + i, none⟩ = false := by
      have := hf (o + i) (by omega)
      simp only [World.frozen?, hw]
      simpa using this
    simp only [storeCells, addr_add, Sem.run_bind]
    rw [run_store P w _ _ _ (h1 v (by simp)), hc]
    simp only [hfr, Bool.false_eq_true, if_false, Result.andThen_ok]
    rw [setCell_eq hw]
    have hlt := (Array.getElem?_eq_some_iff.1 hw).1
    rw [run_storeCells' (T := T) (fr := fr) vs (i + 1) o (cur.setIfInBounds (o + i) v) _ (by simp [hlt]) (fun x hx => h1 x (by simp [hx])) (by simpa using hf) (by simp; omega)]
    simp only [putL, Array.set_set', Nat.add_assoc]

theorem vr_oneCell {K : Nat → Prop} {v v' : Value} (ho : oc v = true) (hv : VR β K v v') : v'.oneCell' = true := by
  cases hv <;> first | rfl | simp [oc] at ho

/-- A store of related cells. -/
theorem cPut_sim (hr : Rel P β h w) {b o : Nat} {vs vs' : List Value} {h1 : H} {e : Emb} (he : β b = some e) (hv : VRL β (· < h.size) vs vs') (hp : cPut b o vs h = some h1) :
    ∃ w1, (storeCells ⟨e.blk, e.shift + o, none⟩ vs').run P w = .ok () w1 ∧ Rel P β h1 w1 ∧ Evo β h w β h1 w1 := by
  unfold cPut at hp
  split at hp
  · rename_i cs T k hb
    split at hp
    · cases hp
    · rename_i hg
      rw [not_or, not_or] at hg
      obtain ⟨g1, g2, g3⟩ := hg
      cases hp
      obtain ⟨e2, cs', fr, b1, b2, b3⟩ := hr.cells hb
      rw [he] at b1; cases b1
      have hoc : vs.all oc = true := by simpa using g2
      have hlen : vs'.length = vs.length := hv.length
      have hsz : cs'.size = e.shift + e.room ∧ cs.size ≤ e.room ∧ ∀ j, j < cs'.size → ¬ (fr.1 ≤ j ∧ j < fr.2) := by
        obtain ⟨_, c1, _, c2⟩ := b3
        cases k with
        | ro => exact absurd rfl g1
        | own => simp only at c2; obtain ⟨_, _, c3, rfl⟩ := c2; exact ⟨c1, by omega, fun j _ => by simp⟩
        | text => simp only at c2; exact ⟨c1, by omega, fun j hj => by have := c2.2.2.2; omega⟩
        | grown => simp only at c2; exact ⟨c1, c2.2.1, fun j hj => by have := c2.2.2; omega⟩
      have hone : ∀ v ∈ vs', v.oneCell' = true := by
        intro v hm
        obtain ⟨i, hi⟩ := List.mem_iff_getElem?.1 hm
        have hil : i < vs.length := by rw [← hlen]; exact (List.getElem?_eq_some_iff.1 hi).1
        obtain ⟨y, hy1, hy2⟩ := hv.get i vs[i] (List.getElem?_eq_getElem hil)
        rw [hi] at hy1; cases hy1
        exact vr_oneCell (List.all_eq_true.1 hoc _ (List.getElem_mem hil)) hy2
      have hrun := run_storeCells' (P := P) vs' 0 (e.shift + o) cs' w b2 hone hsz.2.2 (by omega)
      refine ⟨_, hrun, ?_⟩
      refine hr.set he (fun ⟨q, q1, q2⟩ => ?_) ?_ rfl rfl rfl rfl
      · rw [hb] at q1; cases q1; cases k <;> simp_all [HObj.isRo]
      · obtain ⟨c0, c1, c2, c3⟩ := b3
        refine ⟨c0, by rw [putL_size]; exact c1, fun i v hiv => ?_, ?_⟩
        · rw [putL_get _ _ _ _ (by omega)] at hiv
          rw [Nat.add_zero, putL_get _ _ _ _ (by omega)]
          split at hiv
          · rename_i hin
            rw [if_pos (by omega)]
            obtain ⟨y, hy1, hy2⟩ := hv.get _ _ hiv
            exact ⟨y, by rw [show e.shift + i - (e.shift + o) = i - o by omega]; exact hy1, hy2⟩
          · rename_i hin
            rw [if_neg (by omega)]
            exact c2 i v hiv
        · cases k with
          | ro => exact absurd rfl g1
          | own => simpa only [putL_size] using c3
          | text => simpa only [putL_size] using c3
          | grown => simpa only [putL_size] using c3
  · cases hp

/-- A new block of cells. -/
theorem new_sim (hr : Rel P β h w) {cs cs' : Array Value} (T : TypeId) (hv : VRA β (· < h.size) cs cs') :
    ∃ β', VRh β' (h.push (.cells cs T .own)) (.pointer (some ⟨h.size, 0, none⟩)) (.pointer (some ⟨w.heap.size, 0, none⟩)) ∧ (∀ n c, n ≤ c → VRh β' (h.push (.cells cs T .own)) (.slice (some ⟨h.size, 0, none⟩) n c) (.slice (some ⟨w.heap.size, 0, none⟩) n c)) ∧
      Rel P β' (h.push (.cells cs T .own)) { w with heap := w.heap.push (.cells cs' T) } ∧ Evo β h w β' (h.push (.cells cs T .own)) { w with heap := w.heap.push (.cells cs' T) } := by
  obtain ⟨r1, r2⟩ := hr.alloc (obj := .cells cs T .own) (o' := .cells cs' T (0, 0)) (e := ⟨w.heap.size, 0, cs'.size, none⟩) rfl
    ⟨rfl, by simp, fun i v hi => by obtain ⟨v', h1, h2⟩ := hv.get hi; exact ⟨v', by simpa using h1, h2⟩, rfl, rfl, hv.size, rfl⟩ (w' := { w with heap := w.heap.push (.cells cs' T) }) rfl rfl rfl rfl
  refine ⟨_, ?_, fun n c hnc => ?_, r1, r2⟩
  · exact .ptr _ _ _ (by simp) fun e he => by rw [upd_at] at he; cases he; rfl
  · exact .slice _ _ _ _ _ _ (by simp) fun e he => by rw [upd_at] at he; cases he; exact ⟨hnc, Nat.le_refl _, fun _ => rfl, rfl⟩

def EffOut (P : Program) (β : Nat → Option Emb) (h : H) (w : World) (o : Oper) (ρ' : Operand → Value) (v : Value) (h1 : H) : Prop :=
  ∃ β' v' w', ((execOp ρ' o).run P w = .ok (.value v') w' ∨ ((execOp ρ' o).run P w = .ok .skip w' ∧ v' = undef)) ∧ VRh β' h1 v v' ∧ Rel P β' h1 w' ∧ Evo β h w β' h1 w'

theorem cNew_eff (hr : Rel P β h w) {o : Oper} {ρ' : Operand → Value} {t : TypeId} {cs cs' : Array Value} (hv : VRA β (· < h.size) cs cs')
    (hrun : (execOp ρ' o).run P w = .ok (.value (.pointer (some ⟨w.heap.size, 0, none⟩))) { w with heap := w.heap.push (.cells cs' t) }) {v : Value} {h1 : H} (he : cNew (.cells cs t .own) h = (v, h1)) : EffOut P β h w o ρ' v h1 := by
  simp only [cNew, Prod.mk.injEq] at he
  obtain ⟨rfl, rfl⟩ := he
  obtain ⟨β', s1, _, s3, s4⟩ := new_sim hr t hv
  exact ⟨β', _, _, .inl hrun, s1, s3, s4⟩

theorem zero_cells {t : TypeId} {z : Value} (hz : zeroAf P t = true) (h1 : (P.info? t).bind (·.zero) = some z) : z.cells.all afc = true := by
  unfold zeroAf at hz; rw [h1] at hz; exact hz

theorem alloc_eff (hr : Rel P β h w) {o : Oper} {ρ' : Operand → Value} {t : TypeId} (ho : o.op = .alloc t) (hz : zeroAf P t = true) {v : Value} {h1 : H}
    (he : ((P.info? t).bind (·.zero)).map (fun z => cNew (.cells z.cells t .own) h) = some (v, h1)) : EffOut P β h w o ρ' v h1 := by
  cases hzz : (P.info? t).bind (·.zero) with
  | none => rw [hzz] at he; simp at he
  | some z =>
    rw [hzz] at he
    simp only [Option.map_some, Option.some.injEq] at he
    refine cNew_eff hr (VRA.of_afc (zero_cells hz hzz)) ?_ he
    unfold execOp
    simp only [ho]
    simp [Instr.alloc, run_zero hzz, newVar, newRow]

theorem box_eff (hr : Rel P β h w) {o : Oper} {ρ ρ' : Operand → Value} {t : TypeId} {x : Operand} (ho : o.op = .box t x) (hx : VRh β h (ρ x) (ρ' x)) (hany : isAny (ρ x) = false) {v : Value} {h1 : H}
    (he : cNew (.cells (ρ x).cells t .own) h = (v, h1)) : EffOut P β h w o ρ' v h1 := by
  refine cNew_eff hr (hx.cells (by intro hh; rw [hh] at hany; cases hany)) ?_ he
  unfold execOp
  simp only [ho]
  simp [Instr.box, newVar, newRow]

theorem store_eff (hr : Rel P β h w) {o : Oper} {ρ ρ' : Operand → Value} {t : TypeId} {a x : Operand} (ho : o.op = .store t a x) (ha : VRh β h (ρ a) (ρ' a)) (hx : VRh β h (ρ x) (ρ' x)) {h1 : H}
    (he : cStore P t (ρ a) (ρ x) h = some h1) : EffOut P β h w o ρ' undef h1 := by
  unfold cStore at he
  split at he
  · rename_i b off hav
    split at he
    · cases he
    · rename_i hg
      rw [not_or, not_or] at hg
      obtain ⟨g1, g2, g3⟩ := hg
      rw [hav] at ha
      cases hi : P.info? t with
      | none => simp [hi] at g3
      | some inf =>
        have hsz : (ρ x).cells.size = inf.size := by simpa [szT, hi] using g2
        have hno : ρ x ≠ .chan none := by intro hh; rw [hh] at g1; simp [isAny] at g1
        have hcells := hx.cells hno
        have hlive : ∃ e, β b = some e := by
          unfold cPut at he
          split at he
          · rename_i cs T k hb
            obtain ⟨e, _, _, h2, _⟩ := hr.cells hb
            exact ⟨e, h2⟩
          · cases he
        obtain ⟨e, hbe⟩ := hlive
        obtain ⟨a', hra⟩ := vr_ptr_inv ha
        have haa : a' = ⟨e.blk, e.shift + off, none⟩ := by
          rw [hra] at ha
          cases ha with | ptr _ _ _ hk hh => exact hh e hbe
        obtain ⟨w1, s1, s2, s3⟩ := cPut_sim hr hbe hcells he
        refine ⟨β, undef, w1, .inr ⟨?_, rfl⟩, VR.undef, s2, s3⟩
        unfold execOp
        simp only [ho]
        rw [hra, haa]
        have hne : ¬ ((ρ' x).cells.size ≠ inf.size) := by rw [VRA.size hcells, hsz]; simp
        simp only [Instr.storeAt, Instr.sureAddr, storeVar, Sem.run_bind, Sem.run_pure, Result.andThen_ok, run_sizeOf' hi, Sem.run_ite, hne, if_false, s1]
  · cases he

/-- An object that is no row of cells, set. -/
theorem run_setObj' {r : Nat} {o o2 : Obj} (hw : w.heap[r]? = some o2) (hn : ∀ c e f, o2 ≠ .cells c e f) : (setObj r o).run P w = .ok () { w with heap := w.heap.setIfInBounds r o } := by
  simp only [setObj, Sem.run, hw]
theorem run_getObj' {r : Nat} {o : Obj} (hw : w.heap[r]? = some o) (hn : ∀ c e f, o ≠ .cells c e f) : (getObj r).run P w = .ok o w := by
  simp only [getObj, Sem.run, hw]

theorem makeMap_eff (hr : Rel P β h w) {o : Oper} {ρ' : Operand → Value} {t : TypeId} (ho : o.op = .makeMap t none) : EffOut P β h w o ρ' (.map (some h.size)) (h.push (.map #[] 0 .own)) := by
  obtain ⟨r1, r2⟩ := hr.alloc (obj := .map #[] 0 .own) (o' := .map #[] 0) (e := ⟨w.heap.size, 0, 0, none⟩) rfl ⟨rfl, rfl, by simp⟩ (w' := { w with heap := w.heap.push (.map #[] 0) }) rfl rfl rfl rfl
  refine ⟨_, .map (some w.heap.size), _, .inl ?_, .map _ _ (by simp) fun e he => by rw [upd_at] at he; cases he; rfl, r1, r2⟩
  unfold execOp
  simp only [ho]
  simp [Instr.makeMap]

theorem iter_eff (hr : Rel P β h w) {o : Oper} {ρ ρ' : Operand → Value} {t : TypeId} {x : Operand} (ho : o.op = .range t x) (hx : VRh β h (ρ x) (ρ' x)) {v : Value} {h1 : H}
    (he : (match P.underlying t, ρ x with
    | some .string, .string s => some (cNew (.siter s 0) h)
    | some (.map _ _), .map none => some (cNew (.iter none 0 #[] 0) h)
    | some (.map _ _), .map (some m) => match h[m]? with
      | some (.map _ clock _) => some (cNew (.iter (some m) clock #[] clock) h)
      | _ => none
    | _, _ => none) = some (v, h1)) : EffOut P β h w o ρ' v h1 := by
  have fin : ∀ {obj : HObj} {o' : Obj} {e : Emb}, e.blk = w.heap.size → e.shift = 0 → ORel P β (· < h.size) e obj o' →
      (execOp ρ' o).run P w = .ok (.value (.pointer (some ⟨w.heap.size, 0, none⟩))) { w with heap := w.heap.push o' } → cNew obj h = (v, h1) → EffOut P β h w o ρ' v h1 := by
    intro obj o' e he1 he2 hor hrun hc
    simp only [cNew, Prod.mk.injEq] at hc
    obtain ⟨rfl, rfl⟩ := hc
    obtain ⟨r1, r2⟩ := hr.alloc he1 hor (w' := { w with heap := w.heap.push o' }) rfl rfl rfl rfl
    exact ⟨_, _, _, .inl hrun, .ptr _ _ _ (by simp) fun f hf => by rw [upd_at] at hf; cases hf; rw [he1, he2], r1, r2⟩
  split at he
  · rename_i s hu hxv
    rw [hxv] at hx
    have hx' := vr_string hx
    simp only [Option.some.injEq] at he
    refine fin (obj := .siter s 0) (e := ⟨w.heap.size, 0, 0, none⟩) rfl rfl (o' := .stringIter s 0) ⟨rfl, rfl, rfl⟩ ?_ he
    unfold execOp
    simp only [ho]
    simp [Instr.range, run_und hu, hx']
  · rename_i kt et hu hxv
    rw [hxv] at hx
    have hx' : ρ' x = .map none := by revert hx; generalize ρ' x = y; intro hx; cases hx; rfl
    simp only [Option.some.injEq] at he
    refine fin (obj := .iter none 0 #[] 0) (e := ⟨w.heap.size, 0, 0, none⟩) rfl rfl (o' := .mapIter none 0 #[] 0) ⟨.mapNil, rfl, rfl, rfl, rfl⟩ ?_ he
    unfold execOp
    simp only [ho]
    simp [Instr.range, run_und hu, hx']
  · rename_i kt et m hu hxv
    split at he
    · rename_i es clock k hb
      rw [hxv] at hx
      obtain ⟨e, es', b1, b2, b3⟩ := hr.map hb
      have hx' : ρ' x = .map (some e.blk) := by
        revert hx; generalize ρ' x = y; intro hx
        cases hx with | map _ r' hk hh => rw [hh e b1]
      simp only [Option.some.injEq] at he
      refine fin (obj := .iter (some m) clock #[] clock) (e := ⟨w.heap.size, 0, 0, none⟩) rfl rfl (o' := .mapIter (some e.blk) clock #[] clock) ⟨?_, rfl, rfl, rfl, rfl⟩ ?_ he
      · rw [hx'] at hx; exact hx
      · unfold execOp
        simp only [ho]
        simp [Instr.range, run_und hu, hx', run_getObj' b2 (by simp)]
    · cases he
  · cases he

/-! ### maps that are written -/
theorem notRo_map {r : Nat} {es : Array MapEntry} {cl : Nat} {k : Kind} (hb : h[r]? = some (.map es cl k)) (hk : ¬ k = .ro) : ¬ roAt h r := by
  rintro ⟨o, h1, h2⟩
  rw [hb] at h1; cases h1
  cases k <;> simp_all [HObj.isRo]

theorem mapSet_eff (hr : Rel P β h w) {o : Oper} {ρ ρ' : Operand → Value} {t : TypeId} {m k x : Operand} (ho : o.op = .mapUpdate t m k x ∨ o.op = .insert t m k x) (hm : VRh β h (ρ m) (ρ' m)) (hk : VRh β h (ρ k) (ρ' k)) (hx : VRh β h (ρ x) (ρ' x)) {h1 : H}
    (he : cMapSet P t (ρ m) (ρ k) (ρ x) h = some h1) : EffOut P β h w o ρ' undef h1 := by
  have hrun : ∀ {w1}, (Instr.mapUpdate t (ρ' m) (ρ' k) (ρ' x)).run P w = .ok () w1 → (execOp ρ' o).run P w = .ok .skip w1 := by
    intro w1 hh
    unfold execOp
    rcases ho with ho | ho <;> simp only [ho] <;> simp [hh]
  unfold cMapSet at he
  split at he
  · rename_i kt et r hu hmv
    split at he
    · rename_i es clock kd hb
      split at he
      · cases he
      rename_i hkd
      rw [hmv] at hm
      obtain ⟨e, es', b1, b2, b3⟩ := hr.map hb
      have hm' : ρ' m = .map (some e.blk) := by
        revert hm; generalize ρ' m = y; intro hm
        cases hm with | map _ r' hk hh => rw [hh e b1]
      have hset : ∀ {es1 es1' : Array MapEntry} {cl1 : Nat}, es1'.size = es1.size → (∀ (i : Nat) (a a' : MapEntry), es1[i]? = some a → es1'[i]? = some a' → VRh β h a.key a'.key ∧ VRh β h a.val a'.val ∧ a'.born = a.born) →
          Rel P β (h.setIfInBounds r (.map es1 cl1 kd)) { w with heap := w.heap.setIfInBounds e.blk (.map es1' cl1) } ∧ Evo β h w β (h.setIfInBounds r (.map es1 cl1 kd)) { w with heap := w.heap.setIfInBounds e.blk (.map es1' cl1) } := by
        intro es1 es1' cl1 q1 q2
        exact hr.set (obj := .map es1 cl1 kd) (o' := .map es1' cl1) b1 (notRo_map hb hkd) ⟨rfl, q1, q2⟩ rfl rfl rfl rfl
      split at he
      · rename_i i y hcf hff
        split at he
        · rename_i hsb
          cases he
          obtain ⟨c1, c2⟩ := cFind_sim hr hk b3.2.1 b3.2.2 hff
          rcases c2 with ⟨c2, _⟩ | ⟨n, u, u', c2, c3, c4, c5⟩
          · cases c2
          · cases c2
            have hck : (Instr.checkKey false 10000 kt (ρ' k)).run P w = .ok () w := by
              have he2 : es'.isEmpty = false := by
                unfold Array.isEmpty; rw [b3.2.1, decide_eq_false_iff_not]; omega
              rw [← he2]; exact c1
            have c5 : i < es.size := c5
            have hi' : i < es'.size := by rw [b3.2.1]; exact c5
            obtain ⟨hkk, _, _⟩ := b3.2.2 i es[i] es'[i] (Array.getElem?_eq_getElem c5) (Array.getElem?_eq_getElem hi')
            have hsb' : Instr.sameBits 10000 (((es'[i]?).map (·.key)).getD (ρ' k)) (ρ' k) = true := by
              rw [Array.getElem?_eq_getElem hi']
              rw [Array.getElem?_eq_getElem c5] at hsb
              simp only [Bool.and_eq_true, Option.map_some, Option.getD_some] at hsb ⊢
              rw [VR.afc_eq hsb.1.1 hk, VR.afc_eq hsb.1.2 hkk]
              exact hsb.2
            obtain ⟨r1, r2⟩ := hset (es1 := es.modify i fun e => { e with key := ρ k, val := ρ x }) (es1' := es'.modify i fun e => { e with key := ρ' k, val := ρ' x }) (cl1 := clock) (by simp [b3.2.1]) (by
              intro j a a' h1 h2
              rw [Array.getElem?_modify] at h1 h2
              split at h1
              · rename_i hij
                rw [if_pos hij] at h2
                simp only [Option.map_eq_some_iff] at h1 h2
                obtain ⟨a0, h1, rfl⟩ := h1
                obtain ⟨a1, h2, rfl⟩ := h2
                exact ⟨hk, hx, (b3.2.2 j a0 a1 h1 h2).2.2⟩
              · rename_i hij
                rw [if_neg hij] at h2
                exact b3.2.2 j a a' h1 h2)
            refine ⟨β, undef, _, .inr ⟨hrun ?_, rfl⟩, VR.undef, r1, r2⟩
            rw [hm']
            simp only [Instr.mapUpdate, Sem.run_bind, run_und hu, Result.andThen_ok, run_getObj' b2 (by simp), hck, c3, Instr.keyThatStays, hsb', if_true, Sem.run_pure, run_setObj' b2 (by simp)]
        · cases he
      · rename_i hcf hff
        cases he
        obtain ⟨c1, c2⟩ := cFind_sim hr hk b3.2.1 b3.2.2 hff
        have hck : (Instr.checkKey false 10000 kt (ρ' k)).run P w = .ok () w := by
          by_cases hafk : afc (ρ k) = true
          · rw [VR.afc_eq hafk hk]; exact quiet_run hcf w
          · unfold cFind at hff
            simp only [hafk, Bool.false_and, Bool.false_eq_true, if_false] at hff
            split at hff
            · rename_i hp
              unfold isPtrT at hp
              split at hp
              · rename_i el hu2; exact checkKey_ptr hu2 w
              · cases hp
            · cases hff
        rcases c2 with ⟨_, c3⟩ | ⟨n, u, u', c2, _⟩
        · obtain ⟨r1, r2⟩ := hset (es1 := es.push { key := ρ k, val := ρ x, born := clock }) (es1' := es'.push { key := ρ' k, val := ρ' x, born := clock }) (cl1 := clock + 1) (by simp [b3.2.1]) (by
            intro j a a' h1 h2
            rw [Array.getElem?_push] at h1 h2
            rw [b3.2.1] at h2
            split at h1
            · rename_i hij
              rw [if_pos hij] at h2
              cases h1; cases h2
              exact ⟨hk, hx, rfl⟩
            · rename_i hij
              rw [if_neg hij] at h2
              exact b3.2.2 j a a' h1 h2)
          refine ⟨β, undef, _, .inr ⟨hrun ?_, rfl⟩, VR.undef, r1, r2⟩
          rw [hm']
          simp only [Instr.mapUpdate, Sem.run_bind, run_und hu, Result.andThen_ok, run_getObj' b2 (by simp), hck, c3, run_setObj' b2 (by simp)]
        · cases c2
      · cases he
    · cases he
  · cases he

theorem run_builtin {o : Oper} {ρ' : Operand → Value} {c : Call} {b : Builtin} {w1 : World} {r : Value} (ho : o.op = .call c) (hc : c.callee = .builtin b) (hr : (builtin b c.argTypes o.type (c.args.map fun | .const _ => true | _ => false) (c.args.map ρ')).run P w = .ok (.value r) w1) :
    (execOp ρ' o).run P w = .ok (.value r) w1 := by
  unfold execOp
  simp only [ho, resolve, hc, Sem.run_bind, Sem.run_pure, Result.andThen_ok, invoke]
  exact hr

theorem delete_eff (hr : Rel P β h w) {o : Oper} {ρ' : Operand → Value} {c : Call} {t : TypeId} {m k m' k' : Value} (ho : o.op = .call c) (hc : c.callee = .builtin .delete) (ht : c.argTypes[0]? = some t) (hm0 : (c.args.map ρ')[0]? = some m') (hk0 : (c.args.map ρ')[1]? = some k')
    (hm : VRh β h m m') (hk : VRh β h k k') {h1 : H} (he : cDelete P t m k h = some h1) : EffOut P β h w o ρ' (.tuple #[]) h1 := by
  have hrun : ∀ {w1}, (Builtin.delete_ #[t] o.type #[m', k']).run P w = .ok (.tuple #[]) w1 → (execOp ρ' o).run P w = .ok (.value (.tuple #[])) w1 := by
    intro w1 hh
    refine run_builtin ho hc ?_
    have : Builtin.delete_ c.argTypes o.type (c.args.map ρ') = Builtin.delete_ #[t] o.type #[m', k'] := by simp only [Builtin.delete_, ht, hm0, hk0]; rfl
    simp [builtin, this, hh]
  unfold cDelete at he
  split at he
  · rename_i kt et r hu
    split at he
    · rename_i es clock kd hb
      split at he
      · cases he
      rename_i hkd
      obtain ⟨e, es', b1, b2, b3⟩ := hr.map hb
      have hm' : m' = .map (some e.blk) := by
        cases hm with | map _ r' hk hh => rw [hh e b1]
      subst hm'
      split at he
      · rename_i i y hff
        cases he
        obtain ⟨c1, c2⟩ := cFind_sim hr hk b3.2.1 b3.2.2 hff
        rcases c2 with ⟨c2, _⟩ | ⟨n, u, u', c2, c3, c4, c5⟩
        · cases c2
        · cases c2
          have c5 : i < es.size := c5
          obtain ⟨r1, r2⟩ := hr.set (obj := .map (es.eraseIdxIfInBounds i) clock kd) (o' := .map (es'.eraseIdxIfInBounds i) clock) (w' := { w with heap := w.heap.setIfInBounds e.blk (.map (es'.eraseIdxIfInBounds i) clock) }) b1 (notRo_map hb hkd) ⟨rfl, by rw [Array.eraseIdxIfInBounds, Array.eraseIdxIfInBounds, dif_pos c5, dif_pos (by rw [b3.2.1]; exact c5)]; simp [b3.2.1], fun j a a' h1 h2 => by
              have hi' : i < es'.size := by rw [b3.2.1]; exact c5
              rw [Array.eraseIdxIfInBounds, dif_pos c5] at h1
              rw [Array.eraseIdxIfInBounds, dif_pos hi'] at h2
              rw [Array.getElem?_eraseIdx] at h1 h2
              split at h1
              · rename_i hlt; rw [if_pos hlt] at h2; exact b3.2.2 j a a' h1 h2
              · rename_i hlt; rw [if_neg hlt] at h2; exact b3.2.2 _ a a' h1 h2⟩ rfl rfl rfl rfl
          refine ⟨β, .tuple #[], _, .inl (hrun ?_), .tuple _ _ .nil, r1, r2⟩
          simp [Builtin.delete_, run_und hu, run_getObj' b2 (by simp), c1, c3, run_setObj' b2 (by simp)]
      · rename_i hff
        cases he
        obtain ⟨c1, c2⟩ := cFind_sim hr hk b3.2.1 b3.2.2 hff
        rcases c2 with ⟨_, c3⟩ | ⟨n, u, u', c2, _⟩
        · obtain ⟨r1, r2⟩ := hr.set (obj := .map es clock kd) (o' := .map es' clock) (w' := { w with heap := w.heap.setIfInBounds e.blk (.map es' clock) }) b1 (notRo_map hb hkd) b3 rfl rfl rfl rfl
          refine ⟨β, .tuple #[], _, .inl (hrun ?_), .tuple _ _ .nil, r1, r2⟩
          simp [Builtin.delete_, run_und hu, run_getObj' b2 (by simp), c1, c3, run_setObj' b2 (by simp)]
        · cases c2
      · cases he
    · cases he
  · cases he

theorem vrl_of_all {l : List Value} (h' : ∀ v ∈ l, afc v = true) {K : Nat → Prop} : VRL β K l l :=
  VRL.of_get rfl fun i v v' h1 h2 => by rw [h1] at h2; cases h2; exact VR.of_afc (h' v (List.mem_of_getElem? h1))

theorem zeroCells_afc {z : Array Value} (hz : z.all afc = true) (n : Nat) : ∀ v ∈ (Builtin.zeroCells z n).toList, afc v = true := by
  intro v hv
  simp only [Builtin.zeroCells, Array.toList_map, List.mem_map] at hv
  obtain ⟨i, _, rfl⟩ := hv
  by_cases hs : i % z.size < z.size
  · rw [getElem!_pos z _ hs]
    exact Array.all_eq_true'.1 hz _ (Array.getElem_mem hs)
  · rw [getElem!_neg z _ hs]; rfl

theorem clear_eff (hr : Rel P β h w) {o : Oper} {ρ' : Operand → Value} {c : Call} {t : TypeId} {x x' : Value} (ho : o.op = .call c) (hc : c.callee = .builtin .clear) (ht : c.argTypes[0]? = some t) (hx0 : (c.args.map ρ')[0]? = some x')
    (hx : VRh β h x x') {h1 : H} (he : cClear P t x h = some h1) : EffOut P β h w o ρ' (.tuple #[]) h1 := by
  have hrun : ∀ {w1}, (Builtin.clear_ #[t] o.type #[x']).run P w = .ok (.tuple #[]) w1 → (execOp ρ' o).run P w = .ok (.value (.tuple #[])) w1 := by
    intro w1 hh
    refine run_builtin ho hc ?_
    have : Builtin.clear_ c.argTypes o.type (c.args.map ρ') = Builtin.clear_ #[t] o.type #[x'] := by simp only [Builtin.clear_, ht, hx0]; rfl
    simp [builtin, this, hh]
  unfold cClear at he
  split at he
  · rename_i d hu
    cases he; cases hx
    exact ⟨β, .tuple #[], w, .inl (hrun (by simp [Builtin.clear_, run_und hu])), .tuple _ _ .nil, hr, hr.refl⟩
  · rename_i d l c hu
    cases he; cases hx
    exact ⟨β, .tuple #[], w, .inl (hrun (by simp [Builtin.clear_, run_und hu])), .tuple _ _ .nil, hr, hr.refl⟩
  · rename_i d a c hu
    cases he
    have : ∃ a' c', x' = .slice a' 0 c' := by cases hx <;> exact ⟨_, _, rfl⟩
    obtain ⟨a', c', rfl⟩ := this
    refine ⟨β, .tuple #[], w, .inl (hrun ?_), .tuple _ _ .nil, hr, hr.refl⟩
    cases a' <;> simp [Builtin.clear_, run_und hu]
  · rename_i el b off n cp hn hu
    split at he
    · rename_i hz
      cases hzz : (P.info? el).bind (·.zero) with
      | none => rw [hzz] at he; simp at he
      | some z =>
        rw [hzz] at he
        simp only [Option.bind_some] at he
        have hlive : ∃ e, β b = some e := by
          unfold cPut at he
          split at he
          · rename_i cs T k hb
            obtain ⟨e, _, _, h2, _⟩ := hr.cells hb
            exact ⟨e, h2⟩
          · cases he
        obtain ⟨e, hbe⟩ := hlive
        cases hx with
        | slice _ _ _ _ a' cap' hk hs =>
          obtain ⟨s0, s1, s2, _⟩ := hs e hbe
          have hn0 : n ≠ 0 := hn
          obtain ⟨w1, q1, q2, q3⟩ := cPut_sim hr hbe (vrl_of_all (zeroCells_afc (zero_cells hz hzz) n)) he
          rw [← s2 (by omega)] at q1
          refine ⟨β, .tuple #[], w1, .inl (hrun ?_), .tuple _ _ .nil, q2, q3⟩
          have : (Builtin.clear_ #[t] o.type #[.slice (some a') n cap']).run P w = ((storeCells a' (Builtin.zeroCells z.cells n).toList).run P w).andThen fun _ w' => .ok (.tuple #[]) w' := by
            cases n with
            | zero => exact absurd rfl hn0
            | succ n => simp [Builtin.clear_, run_und hu, run_zero hzz]
          rw [this, q1]; rfl
    · cases he
  · cases he

/-! ### the next entry of a map, the next rune of a string -/
inductive ERL (β : Nat → Option Emb) (K : Nat → Prop) : List MapEntry → List MapEntry → Prop where
  | nil : ERL β K [] []
  | cons (a a' : MapEntry) (l l' : List MapEntry) (h1 : VR β K a.key a'.key) (h2 : VR β K a.val a'.val) (h3 : a'.born = a.born) (t : ERL β K l l') : ERL β K (a :: l) (a' :: l')
theorem ERL.of_get {K : Nat → Prop} : ∀ {l l' : List MapEntry}, l'.length = l.length → (∀ (i : Nat) (a a' : MapEntry), l[i]? = some a → l'[i]? = some a' → VR β K a.key a'.key ∧ VR β K a.val a'.val ∧ a'.born = a.born) → ERL β K l l'
  | [], [], _, _ => .nil
  | [], _ :: _, h, _ => by simp at h
  | _ :: _, [], h, _ => by simp at h
  | a :: l, a' :: l', h, hg =>
    let ⟨h1, h2, h3⟩ := hg 0 a a' rfl rfl
    .cons _ _ _ _ h1 h2 h3 (ERL.of_get (by simpa using h) (fun i v v' k1 k2 => hg (i + 1) v v' (by simpa using k1) (by simpa using k2)))
theorem ERL.filter {K : Nat → Prop} (p : Nat → Bool) {l l' : List MapEntry} (h : ERL β K l l') : ERL β K (l.filter fun e => p e.born) (l'.filter fun e => p e.born) := by
  induction h with
  | nil => exact .nil
  | cons a a' l l' h1 h2 h3 t ih =>
    simp only [List.filter_cons, h3]
    split
    · exact .cons _ _ _ _ h1 h2 h3 ih
    · exact ih
theorem ERL.all {K : Nat → Prop} (p : Nat → Bool) {l l' : List MapEntry} (h : ERL β K l l') : (l'.all fun e => p e.born) = (l.all fun e => p e.born) := by
  induction h with
  | nil => rfl
  | cons a a' l l' h1 h2 h3 t ih => simp only [List.all_cons, h3, ih]
theorem ERL.length {K : Nat → Prop} {l l' : List MapEntry} (h : ERL β K l l') : l'.length = l.length := by
  induction h with
  | nil => rfl
  | cons a a' l l' h1 h2 h3 t ih => simp [ih]

theorem next_eff (hr : Rel P β h w) {o : Oper} {ρ ρ' : Operand → Value} {it : Operand} {s : Bool} (ho : o.op = .next it s) (hit : VRh β h (ρ it) (ρ' it)) {v : Value} {h1 : H} (he : cNext (ρ it) s h = some (v, h1)) : EffOut P β h w o ρ' v h1 := by
  have hrun : ∀ {r : Value} {w1 : World}, (Instr.next (ρ' it) s o.type).run P w = .ok r w1 → (execOp ρ' o).run P w = .ok (.value r) w1 := by
    intro r w1 hh
    unfold execOp
    simp only [ho]
    simp [hh]
  have hnro : ∀ {r : Nat} {ob : HObj}, h[r]? = some ob → ob.isRo = false → ¬ roAt h r := by
    rintro r ob hb hro ⟨o, k1, k2⟩
    rw [hb] at k1; cases k1; rw [hro] at k2; cases k2
  unfold cNext at he
  split at he
  · rename_i r hv
    split at he
    · rename_i st pos hb
      obtain ⟨e, hbe⟩ := Option.isSome_iff_exists.1 (hr.live r _ hb (by simp))
      obtain ⟨o1, o2, k1, k2, k3⟩ := hr.obj r e hbe
      rw [hb] at k1; cases k1
      cases o2 <;> simp only [ORel] at k3
      obtain ⟨k0, rfl, rfl⟩ := k3
      rename_i st pos
      have hp : ρ' it = .pointer (some ⟨e.blk, 0, none⟩) := by
        rw [hv] at hit
        revert hit; generalize ρ' it = y; intro hit
        cases hit with | ptr _ _ a' hk ha => rw [ha e hbe, k0]
      split at he
      · rename_i hlt
        simp only [Option.some.injEq, Prod.mk.injEq] at he
        obtain ⟨rfl, rfl⟩ := he
        obtain ⟨r1, r2⟩ := hr.set (obj := .siter st (pos + (Utf8.decode st pos).2)) (o' := .stringIter st (pos + (Utf8.decode st pos).2)) (w' := { w with heap := w.heap.setIfInBounds e.blk (.stringIter st (pos + (Utf8.decode st pos).2)) }) hbe (hnro hb rfl) ⟨k0, rfl, rfl⟩ rfl rfl rfl rfl
        refine ⟨β, _, _, .inl (hrun ?_), VR.of_af (by simp [af, afc]), r1, r2⟩
        rw [hp]
        simp [Instr.next, run_getObj' k2 (by simp), hlt, run_setObj' k2 (by simp), goInt]
      · rename_i hlt
        simp only [Option.some.injEq, Prod.mk.injEq] at he
        obtain ⟨rfl, rfl⟩ := he
        refine ⟨β, _, _, .inl (hrun ?_), VR.of_af (by simp [af, afc]), hr, hr.refl⟩
        rw [hp]
        simp [Instr.next, run_getObj' k2 (by simp), hlt]
    · cases he
  · rename_i r hv
    split at he
    · rename_i since seen last hb
      obtain ⟨e, hbe⟩ := Option.isSome_iff_exists.1 (hr.live r _ hb (by simp))
      obtain ⟨o1, o2, k1, k2, k3⟩ := hr.obj r e hbe
      rw [hb] at k1; cases k1
      cases o2 <;> simp only [ORel] at k3
      obtain ⟨km, k0, rfl, rfl, rfl⟩ := k3
      cases km
      have hp : ρ' it = .pointer (some ⟨e.blk, 0, none⟩) := by
        rw [hv] at hit
        revert hit; generalize ρ' it = y; intro hit
        cases hit with | ptr _ _ a' hk ha => rw [ha e hbe, k0]
      simp only [Option.some.injEq, Prod.mk.injEq] at he
      obtain ⟨rfl, rfl⟩ := he
      refine ⟨β, _, _, .inl (hrun ?_), VR.of_af (by simp [af, afc]), hr, hr.refl⟩
      rw [hp]
      simp [Instr.next, run_getObj' k2 (by simp)]
    · rename_i m since seen last hb
      obtain ⟨e, hbe⟩ := Option.isSome_iff_exists.1 (hr.live r _ hb (by simp))
      obtain ⟨o1, o2, k1, k2, k3⟩ := hr.obj r e hbe
      rw [hb] at k1; cases k1
      cases o2 <;> simp only [ORel] at k3
      obtain ⟨km, k0, rfl, rfl, rfl⟩ := k3
      rename_i m0 since seen last
      have hp : ρ' it = .pointer (some ⟨e.blk, 0, none⟩) := by
        rw [hv] at hit
        revert hit; generalize ρ' it = y; intro hit
        cases hit with | ptr _ _ a' hk ha => rw [ha e hbe, k0]
      split at he
      · rename_i es clock kd hbm
        obtain ⟨em, es', b1, b2, b3⟩ := hr.map hbm
        have hm0 : m0 = some em.blk := by cases km with | map _ r' hk hh => rw [hh em b1]
        subst hm0
        have herl : ERL β (· < h.size) es.toList es'.toList := ERL.of_get (by simpa using b3.2.1) (fun i a a' h1 h2 => b3.2.2 i a a' (by simpa using h1) (by simpa using h2))
        split at he
        · cases he
        rename_i hodd
        have hemp : es'.isEmpty = es.isEmpty := by unfold Array.isEmpty; rw [b3.2.1]
        have hall : (es'.all fun x => decide (x.born ≥ last)) = (es.all fun x => decide (x.born ≥ last)) := by
          have := herl.all (fun n => decide (n ≥ last))
          simpa using this
        dsimp only at he
        generalize hL : (es.filter fun e => !seen.contains e.born) = left at he
        generalize hL' : (es'.filter fun e => !seen.contains e.born) = left'
        have hl : ERL β (· < h.size) left.toList left'.toList := by
          have := herl.filter (fun n => !seen.contains n)
          rw [← hL, ← hL']; simpa using this
        generalize hO : (left.filter fun e => decide (e.born < since)) = old at he
        generalize hO' : (left'.filter fun e => decide (e.born < since)) = old'
        have ho' : ERL β (· < h.size) old.toList old'.toList := by
          have := hl.filter (fun n => decide (n < since))
          rw [← hO, ← hO']; simpa using this
        generalize hN : (left.filter fun e => decide (e.born ≥ since)) = new at he
        generalize hN' : (left'.filter fun e => decide (e.born ≥ since)) = new'
        have hn' : ERL β (· < h.size) new.toList new'.toList := by
          have := hl.filter (fun n => decide (n ≥ since))
          rw [← hN, ← hN']; simpa using this
        have hgo : ∀ {r1 : Value} {w1 : World}, ((do
              let candidates := (if old'.isEmpty then #[none] else #[]) ++ (old' ++ new').map some
              match candidates[← choose (.mapNext candidates.size)]? with
              | some (some e2) => do
                setObj e.blk (.mapIter (some em.blk) since (seen.push e2.born) clock)
                pure (.tuple #[.bool true, e2.key, e2.val])
              | some none => pure (.tuple #[.bool false])
              | none => stuck "Next: no such candidate") : Sem Value).run P w = .ok r1 w1 → (Instr.next (ρ' it) false o.type).run P w = .ok r1 w1 := by
          intro r1 w1 hh
          rw [hp, ← hh]
          simp only [Instr.next, Sem.run_bind, run_getObj' k2 (by simp), Result.andThen_ok, run_getObj' b2 (by simp), hemp, hall, hodd, Bool.false_eq_true, if_false, hL', hO', hN']
          rfl
        have hsz : ((if old.isEmpty = true then #[none] else #[]) ++ (old ++ new).map some : Array (Option MapEntry)).size ≤ 1 := by
          refine Classical.byContradiction fun hn => ?_
          rw [if_pos hn] at he; cases he
        rw [if_neg (fun hn => hn hsz)] at he
        have hold : old'.size = old.size := by simpa using ho'.length
        have hnew : new'.size = new.size := by simpa using hn'.length
        have hforce : ((if old'.isEmpty then #[none] else #[]) ++ (old' ++ new').map some : Array (Option MapEntry)).size ≤ 1 := by
          revert hsz
          have : old'.isEmpty = old.isEmpty := by unfold Array.isEmpty; rw [hold]
          rw [this]
          simp only [Array.size_append, Array.size_map, hold, hnew]
          exact id
        have hch : ∀ n, n ≤ 1 → (choose (.mapNext n)).run P w = .ok 0 w := fun n hn => by simp [Question.forced, hn]
        by_cases hoe : old.size = 0
        · have hoe' : old'.isEmpty = true := by unfold Array.isEmpty; rw [hold]; simpa using hoe
          have hoe2 : old.isEmpty = true := by unfold Array.isEmpty; simpa using hoe
          simp only [hoe2, if_true] at he
          simp only [Array.getElem?_append, Array.size_singleton] at he
          simp at he
          obtain ⟨rfl, rfl⟩ := he
          refine ⟨β, _, _, .inl (hrun (hgo ?_)), VR.of_af (by simp [af, afc]), hr, hr.refl⟩
          have hf2 := hforce
          rw [hoe'] at hf2
          simp only [if_true, Array.size_append, Array.size_map, List.size_toArray, List.length_cons, List.length_nil] at hf2
          have e1 : old' = #[] := Array.eq_empty_of_size_eq_zero (by omega)
          have e2 : new' = #[] := Array.eq_empty_of_size_eq_zero (by omega)
          simp only [Sem.run_bind, hch _ hforce, Result.andThen_ok]
          rw [e1, e2]
          simp
        · have hoe2 : old.isEmpty = false := by unfold Array.isEmpty; simpa using hoe
          have hoe' : old'.isEmpty = false := by unfold Array.isEmpty; rw [hold]; simpa using hoe
          rw [hoe2] at hsz he
          simp only [Bool.false_eq_true, if_false, Array.size_append, Array.size_map, List.size_toArray, List.length_nil] at hsz
          have hnn : new = #[] := Array.eq_empty_of_size_eq_zero (by omega)
          have hnn' : new' = #[] := Array.eq_empty_of_size_eq_zero (by omega)
          obtain ⟨x, hx⟩ : ∃ x, old.toList = [x] := List.length_eq_one_iff.1 (by simpa using (show old.size = 1 by omega))
          rw [hx] at ho'
          have hox : old = #[x] := by rw [← Array.toArray_toList (xs := old), hx]
          cases hol : old'.toList with
          | nil => rw [hol] at ho'; cases ho'
          | cons x' l' =>
            rw [hol] at ho'
            cases ho' with
            | cons _ _ _ _ q1 q2 q3 q4 =>
              cases q4
              have hox' : old' = #[x'] := by rw [← Array.toArray_toList (xs := old'), hol]
              rw [hox, hnn] at he
              simp at he
              obtain ⟨rfl, rfl⟩ := he
              obtain ⟨r1, r2⟩ := hr.set (obj := .iter (some m) since (seen.push x.born) clock) (o' := .mapIter (some em.blk) since (seen.push x'.born) clock) (w' := { w with heap := w.heap.setIfInBounds e.blk (.mapIter (some em.blk) since (seen.push x'.born) clock) }) hbe (hnro hb rfl) ⟨km, k0, rfl, by rw [q3], rfl⟩ rfl rfl rfl rfl
              refine ⟨β, .tuple #[.bool true, x'.key, x'.val], _, .inl (hrun (hgo ?_)), ?_, r1, r2⟩
              · simp only [Sem.run_bind, hch _ hforce, Result.andThen_ok]
                rw [hox', hnn']
                simp [run_setObj' k2 (by simp)]
              · have hmono : ∀ {a a' : Value}, VR β (· < h.size) a a' → VR β (· < (h.setIfInBounds r (.iter (some m) since (seen.push x.born) clock)).size) a a' := fun q => q.mono (fun b hb => by simpa using hb) (fun _ _ => .inl rfl)
                exact .tuple _ _ (.cons _ _ _ _ (.bool _) (.cons _ _ _ _ (hmono q1) (.cons _ _ _ _ (hmono q2) .nil)))
      · cases he
    · cases he
  · cases he
end
end Go.Am
