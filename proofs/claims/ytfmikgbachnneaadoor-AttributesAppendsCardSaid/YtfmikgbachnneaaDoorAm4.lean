/- The operations that read. -/
import Derived.Test.YtfmikgbachnneaaDoorAm3
set_option linter.unusedSimpArgs false
set_option linter.unusedVariables false
namespace Go.Am
section
variable {P : Program} {β : Nat → Option Emb} {h : H} {w : World}

theorem Rel.cells (hr : Rel P β h w) {b : Nat} {cs : Array Value} {T : TypeId} {k : Kind} (hb : h[b]? = some (.cells cs T k)) :
    ∃ e cs' fr, β b = some e ∧ w.heap[e.blk]? = some (.cells cs' T fr) ∧ ORel P β (· < h.size) e (.cells cs T k) (.cells cs' T fr) := by
  have hl := hr.live b _ hb (by simp)
  obtain ⟨e, he⟩ := Option.isSome_iff_exists.1 hl
  obtain ⟨o, o', h1, h2, h3⟩ := hr.obj b e he
  rw [hb] at h1; cases h1
  cases o' with
  | cells cs' T' fr =>
    obtain rfl : T' = T := h3.1
    exact ⟨e, cs', fr, he, h2, h3⟩
  | _ => simp [ORel] at h3
theorem Rel.map (hr : Rel P β h w) {b : Nat} {es : Array MapEntry} {cl : Nat} {k : Kind} (hb : h[b]? = some (.map es cl k)) :
    ∃ e es', β b = some e ∧ w.heap[e.blk]? = some (.map es' cl) ∧ ORel P β (· < h.size) e (.map es cl k) (.map es' cl) := by
  have hl := hr.live b _ hb (by simp)
  obtain ⟨e, he⟩ := Option.isSome_iff_exists.1 hl
  obtain ⟨o, o', h1, h2, h3⟩ := hr.obj b e he
  rw [hb] at h1; cases h1
  cases o' with
  | map es' cl' =>
    obtain rfl : cl' = cl := h3.1
    exact ⟨e, es', he, h2, h3⟩
  | _ => simp [ORel] at h3

theorem lt_of_get {b : Nat} {o : HObj} (hb : h[b]? = some o) : b < h.size := (Array.getElem?_eq_some_iff.1 hb).1

theorem cell?_at {blk i : Nat} {cs : Array Value} {T : TypeId} {fr : Nat × Nat} (hw : w.heap[blk]? = some (.cells cs T fr)) : w.cell? ⟨blk, i, none⟩ = cs[i]? := by
  simp [World.cell?, hw]

theorem run_cells {blk off n : Nat} {cs : Array Value} {T : TypeId} {fr : Nat × Nat} (hw : w.heap[blk]? = some (.cells cs T fr)) (hn : off + n ≤ cs.size) :
    (loadCells ⟨blk, off, none⟩ n).run P w = .ok (cs.extract off (off + n)) w := by
  rw [run_loadCells w ⟨blk, off, none⟩ n (fun j => cs.getD (off + j) undef) (fun j hj => by
    rw [addr_add, cell?_at hw, Array.getD_eq_getD_getElem?, Array.getElem?_eq_getElem (by omega)]; rfl)]
  congr 1
  apply Array.ext_getElem?
  intro j
  rw [Array.getElem?_extract]
  by_cases hj : j < n
  · rw [if_pos (by omega)]
    simp [hj, Array.getD_eq_getD_getElem?, Array.getElem?_eq_getElem (show off + j < cs.size by omega)]
  · rw [if_neg (by omega)]
    simp [Nat.le_of_not_lt hj]

theorem ORel.sub {e : Emb} {cs cs' : Array Value} {T : TypeId} {k : Kind} {fr : Nat × Nat} (ho : ORel P β (· < h.size) e (.cells cs T k) (.cells cs' T fr)) {o n : Nat} (hn : o + n ≤ cs.size) :
    e.shift + o + n ≤ cs'.size ∧ VRA β (· < h.size) (cs.extract o (o + n)) (cs'.extract (e.shift + o) (e.shift + o + n)) := by
  have hsz : e.shift + o + n ≤ cs'.size := by
    obtain ⟨_, h1, _, h2⟩ := ho
    cases k <;> simp only at h2 <;> omega
  refine ⟨hsz, .of_get (by simp; omega) fun i v v' h1 h2 => ?_⟩
  rw [Array.getElem?_extract] at h1 h2
  split at h1
  · rw [if_pos (by omega)] at h2
    obtain ⟨x, h3, h4⟩ := ho.2.2.1 _ _ h1
    rw [show e.shift + (o + i) = e.shift + o + i by omega] at h3
    rw [h3] at h2; cases h2; exact h4
  · cases h1

theorem run_isAgg {t : TypeId} {d : TypeDesc} (hu : P.underlying t = some d) (w : World) : (isAgg t).run P w = .ok (aggB d) w := quiet_run (by rw [quiet_isAgg, hu]; rfl) w
theorem run_sizeOf' {t : TypeId} {i : TypeInfo} (hi : P.info? t = some i) (w : World) : (sizeOf t).run P w = .ok i.size w := quiet_run (by rw [quiet_sizeOf, hi]; rfl) w
theorem run_und {t : TypeId} {d : TypeDesc} (hu : P.underlying t = some d) (w : World) : (underlying t).run P w = .ok d w := quiet_run (by rw [quiet_underlying, hu]) w
theorem run_tinfo {t : TypeId} {i : TypeInfo} (hi : P.info? t = some i) (w : World) : (typeInfo t).run P w = .ok i w := quiet_run (by rw [quiet_typeInfo, hi]) w
theorem run_zero {t : TypeId} {z : Value} (hi : (P.info? t).bind (·.zero) = some z) (w : World) : (zeroValue t).run P w = .ok z w := quiet_run (by rw [quiet_zeroValue, hi]) w

theorem cLoad_sim (hr : Rel P β h w) {t : TypeId} {x x' v : Value} (hx : VRh β h x x') (he : cLoad P t x h = some v) : ∃ v', (Instr.loadAt t x').run P w = .ok v' w ∧ VRh β h v v' := by
  unfold cLoad at he
  split at he
  · rename_i b o
    split at he
    · rename_i cs T k hb
      obtain ⟨e, cs', fr, h1, h2, h3⟩ := hr.cells hb
      cases hx with
      | ptr _ _ a' hk ha =>
        obtain rfl := ha e h1
        have hagg : ∀ i d, P.underlying t = some d → P.info? t = some i → aggB d = true → (if o + i.size ≤ cs.size then some (Value.agg (cs.extract o (o + i.size))) else none) = some v → ∃ v', (Instr.loadAt t (.pointer (some ⟨e.blk, e.shift + o, none⟩))).run P w = .ok v' w ∧ VRh β h v v' := by
          intro i d hu hi hd hh
          split at hh
          · rename_i hle
            cases hh
            obtain ⟨h4, h5⟩ := h3.sub hle
            refine ⟨.agg (cs'.extract (e.shift + o) (e.shift + o + i.size)), ?_, .agg _ _ h5⟩
            simp only [Instr.loadAt, Instr.sureAddr, loadVar, Sem.run_bind, Sem.run_pure, Result.andThen_ok, run_isAgg hu, hd, if_true, run_sizeOf' hi, run_cells h2 h4]
          · cases hh
        split at he
        · rename_i i hu hi; exact hagg i _ hu hi rfl he
        · rename_i i hu hi; exact hagg i _ hu hi rfl he
        · rename_i d i hn1 hn2 hu hi
          have hd : aggB d = false := by cases d <;> first | rfl | exact (hn1 _ rfl).elim | exact (hn2 _ _ rfl).elim
          obtain ⟨v', h4, h5⟩ := h3.2.2.1 _ _ he
          refine ⟨v', ?_, h5⟩
          simp only [Instr.loadAt, Instr.sureAddr, loadVar, Sem.run_bind, Sem.run_pure, Result.andThen_ok, run_isAgg hu, hd]
          simp [cell?_at h2, h4]
        · cases he
    · cases he
  · cases he

/-! ### equality -/
theorem equal_depth : ∃ d, Op.maxDepth = d + 2 := ⟨9998, rfl⟩

theorem run_sameAddr {a b : Addr} {ca cb : Array Value} {Ta Tb : TypeId} (ha : w.heap[a.block]? = some (.cells ca Ta (0, 0))) (hb : w.heap[b.block]? = some (.cells cb Tb (0, 0))) :
    (sameAddr a b).run P w = .ok (a == b) w := by
  unfold sameAddr
  by_cases hbl : a.block = b.block
  · simp [hbl]
  · have hne : (a == b) = false := by
      rw [beq_eq_false_iff_ne]; rintro rfl; exact hbl rfl
    have hfa : ∀ o s, w.frozen? ⟨a.block, o, s⟩ = false := fun o s => by simp [World.frozen?, ha]
    have hfb : ∀ o s, w.frozen? ⟨b.block, o, s⟩ = false := fun o s => by simp [World.frozen?, hb]
    have hsa : w.shape? a.block = some (Ta, ca.size) := by simp [World.shape?, ha]
    have hsb : w.shape? b.block = some (Tb, cb.size) := by simp [World.shape?, hb]
    have hfa' : w.frozen? a = false := hfa a.off a.spot
    have hfb' : w.frozen? b = false := hfb b.off b.spot
    simp [hbl, hne, hfa', noView, viewAt, hsa, hsb, mayBeOne, stringish, hfa, hfb]

theorem cNilEq_in {d : TypeDesc} {x x' y y' : Value} {r : Bool} {t : TypeId} (hu : P.underlying t = some d) (hx : VRh β h x x') (hy : VRh β h y y') (he : cNilEq d x y = some r) (n : Nat) (w : World) :
    (Op.equalIn (n + 1) t x' y').run P w = .ok r w := by
  rw [Op.equalIn]
  simp only [Sem.run_bind, run_und hu, Result.andThen_ok]
  unfold cNilEq at he
  split at he <;> cases he <;> cases hx <;> cases hy <;> simp
theorem equal_in {t : TypeId} {x y : Value} {r : Bool} {w : World} (hh : ∀ n, (Op.equalIn (n + 1) t x y).run P w = .ok r w) : (Op.equal t x y).run P w = .ok r w := by
  obtain ⟨n, hn⟩ := equal_depth
  unfold Op.equal
  rw [hn]
  exact hh (n + 1)
theorem cNilEq_sim {d : TypeDesc} {x x' y y' : Value} {r : Bool} {t : TypeId} (hu : P.underlying t = some d) (hx : VRh β h x x') (hy : VRh β h y y') (he : cNilEq d x y = some r) :
    (Op.equal t x' y').run P w = .ok r w := equal_in fun n => cNilEq_in hu hx hy he n w

theorem cEq_sim (hr : Rel P β h w) {t : TypeId} {x x' y y' : Value} {r : Bool} (hx : VRh β h x x') (hy : VRh β h y y') (he : cEq P t x y h = some r) :
    (Op.equal t x' y').run P w = .ok r w := by
  unfold cEq at he
  split at he
  · rename_i el hu
    split at he
    · rename_i a i b j
      split at he
      · cases he
      · rename_i hsz
        split at he
        · rename_i ca Ta cb Tb hha hhb
          cases he
          obtain ⟨ea, ca', fra, a1, a2, a3⟩ := hr.cells hha
          obtain ⟨eb, cb', frb, b1, b2, b3⟩ := hr.cells hhb
          cases hx with
          | ptr _ _ a' hka hxa =>
            cases hy with
            | ptr _ _ b' hkb hyb =>
              obtain rfl := hxa ea a1
              obtain rfl := hyb eb b1
              refine equal_in fun n => ?_
              have fa : fra = (0, 0) := a3.2.2.2.2.2.2
              have fb : frb = (0, 0) := b3.2.2.2.2.2.2
              subst fa; subst fb
              cases hi : P.info? el with
              | none => simp [szT, hi] at hsz
              | some inf =>
                have hz : inf.size ≠ 0 := by simpa [szT, hi] using hsz
                simp only [Op.equalIn, Sem.run_bind, run_und hu, Result.andThen_ok, run_sizeOf' hi, hz, ne_eq, not_false_eq_true, if_true, Sem.run_ite]
                rw [run_sameAddr a2 b2]
                congr 1
                by_cases hab : a = b
                · subst hab
                  rw [a1] at b1; cases b1
                  by_cases hij : i = j
                  · subst hij; simp
                  · simp [hij]
                · have hne : ea.blk ≠ eb.blk := fun hh => by
                    rcases hr.inj a b ea eb a1 b1 hh with k | ⟨⟨o, k1, k2⟩, _⟩
                    · exact hab k
                    · rw [hha] at k1; cases k1; cases k2
                  simp [hab, hne]
        · cases he
    · exact cNilEq_sim hu hx hy he
  · rename_i d hn hu
    exact cNilEq_sim hu hx hy he
  · cases he

/-- What makes 'binOp .eql' go to 'equal'. -/
def eqRoad : Value → Value → Bool
  | .int .., .int .. | .float .., .float .. | .complex .., .complex .. | .string _, .string _ => false
  | _, _ => true
theorem binOp_eql {t : TypeId} {x y : Value} (hr : eqRoad x y = true) : binOp .eql t x y = (do pure (.bool (← Op.equal t x y))) := by
  cases x <;> cases y <;> first | rfl | simp [eqRoad] at hr
theorem binOp_neq {t : TypeId} {x y : Value} (hr : eqRoad x y = true) : binOp .neq t x y = (do pure (.bool (!(← Op.equal t x y)))) := by
  cases x <;> cases y <;> first | rfl | simp [eqRoad] at hr
/-- What makes the guard ahead of '==' idle. -/
def noGuard : Value → Bool
  | .nilIface | .agg _ => false
  | _ => true
theorem eqGuard_idle {op : BinOp} {t : TypeId} {x y : Operand} {a b : Value} (ha : noGuard a = true) : eqGuard op t x y a b = pure () := by
  unfold eqGuard
  cases a <;> simp [noGuard] at ha <;> (split <;> rfl)

theorem cEq_shape {t : TypeId} {x y : Value} {r : Bool} (he : cEq P t x y h = some r) {x' y' : Value} (hx : VRh β h x x') (hy : VRh β h y y') : eqRoad x' y' = true ∧ noGuard x' = true := by
  have key : (∃ d, cNilEq d x y = some r) ∨ (∃ a b, x = .pointer (some a) ∧ y = .pointer (some b)) := by
    unfold cEq at he
    split at he
    · split at he
      · exact .inr ⟨_, _, rfl, rfl⟩
      · exact .inl ⟨_, he⟩
    · exact .inl ⟨_, he⟩
    · cases he
  rcases key with ⟨d, hd⟩ | ⟨a, b, rfl, rfl⟩
  · unfold cNilEq at hd
    split at hd <;> cases hd <;> cases hx <;> cases hy <;> exact ⟨rfl, rfl⟩
  · cases hx; cases hy; exact ⟨rfl, rfl⟩

/-! ### slicing -/
theorem quiet_sliceBound {x : Value} {y : Nat} {c : BoundsCode} {r : Nat} (hq : quiet P (Instr.sliceBound x y c) = some r) : ∃ k, x = .int k (r : Int) ∧ r ≤ y := by
  simp only [Instr.sliceBound, quiet_bind, quiet_asIntOf] at hq
  cases x <;> simp only [Option.bind_none, reduceCtorEq] at hq
  rename_i k n
  simp only [Option.bind_some] at hq
  split at hq
  · rename_i hn
    simp only [quiet_pure, Option.some.injEq] at hq
    subst hq
    exact ⟨k, by congr 1; omega, by omega⟩
  · simp [quiet_boundsPanic] at hq
theorem quiet_sliceBound_mk (k : IntKind) {r y : Nat} (hr : r ≤ y) (c : BoundsCode) : quiet P (Instr.sliceBound (.int k r) y c) = some r := by
  simp only [Instr.sliceBound, quiet_bind, quiet_asIntOf, Option.bind_some]
  rw [if_pos ⟨by omega, by omega⟩]; simp [quiet_pure]

theorem quiet_sliceBounds {β : Nat → Option Emb} {K : Nat → Prop} {s : Bool} {len cap cap' : Nat} {ρ ρ' : Operand → Value} {lo hi mx : Option Operand} {l h' m : Nat} (hlen : len ≤ cap) (hc : cap ≤ cap')
    (hlo : ∀ x ∈ lo, VR β K (ρ x) (ρ' x)) (hhi : ∀ x ∈ hi, VR β K (ρ x) (ρ' x)) (hmx : ∀ x ∈ mx, VR β K (ρ x) (ρ' x))
    (hq : quiet P (Instr.sliceBounds s len cap (lo.map ρ) (hi.map ρ) (mx.map ρ)) = some (l, h', m)) :
    ∃ m', quiet P (Instr.sliceBounds s len cap' (lo.map ρ') (hi.map ρ') (mx.map ρ')) = some (l, h', m') ∧ (m' = m ∧ m ≤ cap ∨ m = cap ∧ m' = cap') ∧ l ≤ h' ∧ h' ≤ m := by
  have hbnd : ∀ {y y' : Nat} {c : BoundsCode} {r : Nat} {x : Operand}, y ≤ y' → VR β K (ρ x) (ρ' x) → quiet P (Instr.sliceBound (ρ x) y c) = some r → quiet P (Instr.sliceBound (ρ' x) y' c) = some r ∧ r ≤ y := by
    intro y y' c r x hy hv hb
    obtain ⟨k, h1, h2⟩ := quiet_sliceBound hb
    rw [h1] at hv
    rw [vr_int hv]
    exact ⟨quiet_sliceBound_mk k (by omega) c, h2⟩
  have step : ∀ {α γ : Type} {o : Option α} {f : α → Option γ} {r : γ}, o.bind f = some r → ∃ a, o = some a ∧ f a = some r := by
    intro α γ o f r ho; cases o with
    | none => simp at ho
    | some a => exact ⟨a, rfl, ho⟩
  cases mx <;> cases hi <;> cases lo <;>
    simp only [Instr.sliceBounds, Option.map_none, Option.map_some, quiet_bind, quiet_pure, quiet_stuck, Option.bind_some, Option.bind_none, Option.isSome_none, Option.isSome_some, if_true, Bool.false_eq_true, if_false] at hq ⊢
  · cases hq
    exact ⟨cap', rfl, .inr ⟨rfl, rfl⟩, by omega, hlen⟩
  · rename_i x
    obtain ⟨q, h1, hq⟩ := step hq
    cases hq
    obtain ⟨h3, h4⟩ := hbnd (Nat.le_refl _) (hlo x rfl) h1
    exact ⟨cap', by rw [h3]; rfl, .inr ⟨rfl, rfl⟩, h4, hlen⟩
  · rename_i y
    obtain ⟨q, h1, hq⟩ := step hq
    cases hq
    obtain ⟨h3, h4⟩ := hbnd hc (hhi y rfl) h1
    exact ⟨cap', by rw [h3]; rfl, .inr ⟨rfl, rfl⟩, by omega, h4⟩
  · rename_i y x
    obtain ⟨q, h1, hq⟩ := step hq
    obtain ⟨p, h2, hq⟩ := step hq
    cases hq
    obtain ⟨h3, h4⟩ := hbnd hc (hhi y rfl) h1
    obtain ⟨h5, h6⟩ := hbnd (Nat.le_refl _) (hlo x rfl) h2
    exact ⟨cap', by rw [h3, Option.bind_some, h5]; rfl, .inr ⟨rfl, rfl⟩, h6, h4⟩
  · exact absurd hq (by cases quiet P _ <;> simp)
  · exact absurd hq (by cases quiet P _ <;> simp)
  · rename_i z y
    obtain ⟨m1, h1, hq⟩ := step hq
    obtain ⟨q, h2, hq⟩ := step hq
    cases hq
    obtain ⟨h3, h4⟩ := hbnd hc (hmx z rfl) h1
    obtain ⟨h5, h6⟩ := hbnd (Nat.le_refl _) (hhi y rfl) h2
    exact ⟨_, by rw [h3, Option.bind_some, h5]; rfl, .inl ⟨rfl, h4⟩, by omega, h6⟩
  · rename_i z y x
    obtain ⟨m1, h1, hq⟩ := step hq
    obtain ⟨q, h2, hq⟩ := step hq
    obtain ⟨p, h7, hq⟩ := step hq
    cases hq
    obtain ⟨h3, h4⟩ := hbnd hc (hmx z rfl) h1
    obtain ⟨h5, h6⟩ := hbnd (Nat.le_refl _) (hhi y rfl) h2
    obtain ⟨h8, h9⟩ := hbnd (Nat.le_refl _) (hlo x rfl) h7
    exact ⟨_, by rw [h3, Option.bind_some, h5, Option.bind_some, h8]; rfl, .inl ⟨rfl, h4⟩, h9, h6⟩

theorem cSlice_sim (hr : Rel P β h w) {t : TypeId} {x x' v : Value} {ρ ρ' : Operand → Value} {lo hi mx : Option Operand} (hx : VRh β h x x')
    (hlo : ∀ y ∈ lo, VRh β h (ρ y) (ρ' y)) (hhi : ∀ y ∈ hi, VRh β h (ρ y) (ρ' y)) (hmx : ∀ y ∈ mx, VRh β h (ρ y) (ρ' y)) (he : cSlice P t x (lo.map ρ) (hi.map ρ) (mx.map ρ) h = some v) :
    ∃ v', (Instr.sliceAt t x' (lo.map ρ') (hi.map ρ') (mx.map ρ')).run P w = .ok v' w ∧ VRh β h v v' := by
  unfold cSlice at he
  split at he
  · rename_i el len cap hu
    cases hx
    split at he
    · cases he
    rename_i hinf
    rw [not_or] at hinf
    cases hi' : P.info? el with
    | none => simp [hi'] at hinf
    | some inf =>
    cases hq : quiet P (Instr.sliceBounds true len cap (lo.map ρ) (hi.map ρ) (mx.map ρ)) with
    | none => rw [hq] at he; simp at he
    | some r =>
      obtain ⟨l, h', m⟩ := r
      rw [hq] at he; simp only [Option.map_some, Option.some.injEq] at he; subst he
      obtain ⟨m', h1, h2, h3, h4⟩ := quiet_sliceBounds (by omega) (Nat.le_refl cap) hlo hhi hmx hq
      obtain rfl : m' = m := by omega
      refine ⟨.slice none (h' - l) (m' - l), ?_, .sliceNil _ _⟩
      simp [Instr.sliceAt, Instr.slice, run_und hu, quiet_run h1, run_sizeOf' hi']
  · rename_i el b o len cap hu
    split at he
    · rename_i cs T k hb
      split at he
      · cases he
      rename_i hinf
      rw [not_or] at hinf
      cases hi' : P.info? el with
      | none => simp [hi'] at hinf
      | some inf =>
      have hsz : szT P el = inf.size := by simp [szT, hi']
      obtain ⟨e, cs', fr, b1, b2, b3⟩ := hr.cells hb
      cases hx with
      | slice _ _ _ _ a' cap' hk hs =>
        obtain ⟨s0, hcc, s2, s3⟩ := hs e b1
        cases hq : quiet P (Instr.sliceBounds true len cap (lo.map ρ) (hi.map ρ) (mx.map ρ)) with
        | none => rw [hq] at he; simp at he
        | some r =>
          obtain ⟨l, h', m⟩ := r
          rw [hq] at he; simp only [Option.map_some, Option.some.injEq] at he; subst he
          obtain ⟨m', h1, h2, h3, h4⟩ := quiet_sliceBounds s0 hcc hlo hhi hmx hq
          refine ⟨.slice (if m' = l then some a' else (some a').map (·.add (l * inf.size))) (h' - l) (m' - l), ?_, ?_⟩
          · simp [Instr.sliceAt, Instr.slice, run_und hu, quiet_run h1, run_sizeOf' hi']
          · have hval : (if m' = l then some a' else (some a').map (·.add (l * inf.size))) = some (if m' = l then a' else a'.add (l * inf.size)) := by split <;> rfl
            rw [hval]
            refine .slice _ _ _ _ _ _ hk fun e' he' => ?_
            rw [b1] at he'; cases he'
            refine ⟨by omega, by omega, fun hne => ?_, ?_⟩
            · rw [if_neg (by omega), s2 (by omega), addr_add, hsz, Nat.add_assoc]
            · obtain ⟨_, c1, _, c2⟩ := b3
              cases k with
              | grown =>
                simp only at c2
                rw [c2.1] at s3 ⊢
                simp only at s3 ⊢
                have hse : szT P T = szT P el := by
                  have := hinf.2; simp at this; exact this
                rw [hse, hsz] at s3
                rw [hse, hsz]
                obtain ⟨d1, d3, d4, d5⟩ := s3
                have e1 : ∀ q, l ≤ q → o + l * inf.size + (q - l) * inf.size = o + q * inf.size := fun q hq => by
                  rw [Nat.add_assoc, ← Nat.add_mul]; congr 2; omega
                rw [e1 m (by omega), e1 m' (by omega)]
                have hle : m * inf.size ≤ cap * inf.size := Nat.mul_le_mul_right _ (by omega)
                have hle' : m' * inf.size ≤ cap' * inf.size := Nat.mul_le_mul_right _ (by omega)
                refine ⟨d1, by omega, by omega, fun hlt => ?_⟩
                rcases h2 with ⟨rfl, hm⟩ | ⟨rfl, rfl⟩
                · rfl
                · rw [d5 hlt]
              | ro => simp only at c2; rw [c2.1] at s3 ⊢; simp only at s3 ⊢; omega
              | own => simp only at c2; rw [c2.1] at s3 ⊢; simp only at s3 ⊢; omega
              | text => simp only at c2; rw [c2.1] at s3 ⊢; simp only at s3 ⊢; omega
    · cases he
  · rename_i s hu
    cases hx
    split at he
    · cases he
    rename_i hmn
    cases mx with
    | some => simp at hmn
    | none =>
    cases hq : quiet P (Instr.sliceBounds false s.size s.size (lo.map ρ) (hi.map ρ) (Option.map ρ none)) with
    | none => rw [hq] at he; simp at he
    | some r =>
      obtain ⟨l, h', m⟩ := r
      rw [hq] at he; simp only [Option.map_some, Option.some.injEq] at he; subst he
      obtain ⟨m', h1, h2, h3, h4⟩ := quiet_sliceBounds (Nat.le_refl _) (Nat.le_refl _) hlo hhi hmx hq
      refine ⟨.string (s.extract l h'), ?_, .string _⟩
      simp only [Option.map_none] at h1
      simp [Instr.sliceAt, Instr.slice, run_und hu, quiet_run h1]
  · rename_i n el b o hu
    split at he
    · rename_i cs T k hb
      split at he
      · cases he
      rename_i hinf
      rw [not_or] at hinf
      cases hi' : P.info? el with
      | none => simp [hi'] at hinf
      | some inf =>
      have hsz : szT P el = inf.size := by simp [szT, hi']
      obtain ⟨e, cs', fr, b1, b2, b3⟩ := hr.cells hb
      cases hx with
      | ptr _ _ a' hk ha =>
        obtain rfl := ha e b1
        cases hq : quiet P (Instr.sliceBounds false n n (lo.map ρ) (hi.map ρ) (mx.map ρ)) with
        | none => rw [hq] at he; simp at he
        | some r =>
          obtain ⟨l, h', m⟩ := r
          rw [hq] at he; simp only [Option.map_some, Option.some.injEq] at he; subst he
          obtain ⟨m', h1, h2, h3, h4⟩ := quiet_sliceBounds (Nat.le_refl n) (Nat.le_refl n) hlo hhi hmx hq
          obtain rfl : m' = m := by omega
          refine ⟨.slice (some (if m' = l then ⟨e.blk, e.shift + o, none⟩ else (⟨e.blk, e.shift + o, none⟩ : Addr).add (l * inf.size))) (h' - l) (m' - l), ?_, ?_⟩
          · simp [Instr.sliceAt, Instr.sureAddr, run_und hu, quiet_run h1, run_sizeOf' hi']
          · refine .slice _ _ _ _ _ _ hk fun e' he' => ?_
            rw [b1] at he'; cases he'
            refine ⟨by omega, by omega, fun hne => ?_, ?_⟩
            · rw [if_neg (by omega), addr_add, hsz, Nat.add_assoc]
            · obtain ⟨_, c1, _, c2⟩ := b3
              cases k with
              | grown => exact absurd rfl hinf.2
              | ro => simp only at c2; rw [c2.1]
              | own => simp only at c2; rw [c2.1]
              | text => simp only at c2; rw [c2.1]
    · cases he
  · cases he

/-! ### maps -/
theorem entries_sim (hr : Rel P β h w) {x x' : Value} {es : Array MapEntry} (hx : VRh β h x x') (he : cEntries x h = some es) :
    (x' = .map none ∧ es = #[]) ∨ ∃ r r' es' cl k, x = .map (some r) ∧ x' = .map (some r') ∧ h[r]? = some (.map es cl k) ∧ w.heap[r']? = some (.map es' cl) ∧ es'.size = es.size ∧
      (∀ (i : Nat) (a a' : MapEntry), es[i]? = some a → es'[i]? = some a' → VRh β h a.key a'.key ∧ VRh β h a.val a'.val ∧ a'.born = a.born) := by
  unfold cEntries at he
  split at he
  · cases he; cases hx; exact .inl ⟨rfl, rfl⟩
  · rename_i r
    split at he
    · rename_i es0 cl k hb
      cases he
      obtain ⟨e, es', h1, h2, h3⟩ := hr.map hb
      cases hx with
      | map _ r' hk hh =>
        obtain rfl := hh e h1
        exact .inr ⟨r, _, es', cl, k, rfl, rfl, hb, h2, h3.2.1, h3.2.2⟩
    · cases he
  · cases he

theorem findNow_sim {d : TypeDesc} {k : Value} (hk : afc k = true) : ∀ (es es' : List MapEntry) (i : Nat) (r : Option (Nat × Value)), es'.length = es.length →
    (∀ (j : Nat) (a a' : MapEntry), es[j]? = some a → es'[j]? = some a' → VRh β h a.key a'.key ∧ VRh β h a.val a'.val ∧ a'.born = a.born) →
    Instr.findNow d k es i = some r → (r = none ∧ Instr.findNow d k es' i = some none) ∨ ∃ n v v', r = some (n, v) ∧ Instr.findNow d k es' i = some (some (n, v')) ∧ VRh β h v v' ∧ i ≤ n ∧ n < i + es.length ∧ ∃ a, es[n - i]? = some a := by
  intro es
  induction es with
  | nil => intro es' i r hl _ hf; cases es' with
    | nil => simp [Instr.findNow] at hf; subst hf; exact .inl ⟨rfl, rfl⟩
    | cons => simp at hl
  | cons a es ih =>
    intro es' i r hl hg hf
    cases es' with
    | nil => simp at hl
    | cons a' es' =>
      obtain ⟨g1, g2, _⟩ := hg 0 a a' rfl rfl
      simp only [Instr.findNow] at hf ⊢
      have hs : ∀ b, Instr.sameNow d k a.key = some b → Instr.sameNow d k a'.key = some b := by
        intro b hb
        generalize a.key = ak at g1 hb
        generalize a'.key = ak' at g1 ⊢
        unfold Instr.sameNow at hb
        split at hb <;> first | (cases g1; exact hb) | (simp at hb; done)
      cases hb : Instr.sameNow d k a.key with
      | none => rw [hb] at hf; simp at hf
      | some b =>
        rw [hb] at hf; rw [hs b hb]
        cases b with
        | true =>
          simp only [Option.some.injEq] at hf ⊢
          subst hf
          exact .inr ⟨i, a.val, a'.val, rfl, rfl, g2, Nat.le_refl _, by simp, a, by simp⟩
        | false =>
          simp only at hf ⊢
          rcases ih es' (i + 1) r (by simpa using hl) (fun j x x' h1 h2 => hg (j + 1) x x' (by simpa using h1) (by simpa using h2)) hf with h1 | ⟨n, v, v', h1, h2, h3, h4, h5, y, h6⟩
          · exact .inl h1
          · refine .inr ⟨n, v, v', h1, h2, h3, by omega, by simp; omega, y, ?_⟩
            rw [show n - i = (n - (i + 1)) + 1 by omega]; simpa using h6

theorem findAsking_sim (hr : Rel P β h w) {kt : TypeId} {k k' : Value} (hk : VRh β h k k') : ∀ (es es' : List MapEntry) (i : Nat) (r : Option (Nat × Value)), es'.length = es.length →
    (∀ (j : Nat) (a a' : MapEntry), es[j]? = some a → es'[j]? = some a' → VRh β h a.key a'.key ∧ VRh β h a.val a'.val ∧ a'.born = a.born) →
    cFindPtr P kt k h es i = some r → (r = none ∧ (Instr.findAsking kt k' es' i).run P w = .ok none w) ∨ ∃ n v v', r = some (n, v) ∧ (Instr.findAsking kt k' es' i).run P w = .ok (some (n, v')) w ∧ VRh β h v v' ∧ i ≤ n ∧ n < i + es.length ∧ ∃ a, es[n - i]? = some a := by
  intro es
  induction es with
  | nil => intro es' i r hl _ hf; cases es' with
    | nil => simp [cFindPtr] at hf; subst hf; exact .inl ⟨rfl, by simp [Instr.findAsking]⟩
    | cons => simp at hl
  | cons a es ih =>
    intro es' i r hl hg hf
    cases es' with
    | nil => simp at hl
    | cons a' es' =>
      obtain ⟨g1, g2, _⟩ := hg 0 a a' rfl rfl
      simp only [cFindPtr] at hf
      simp only [Instr.findAsking, Sem.run_bind]
      cases hb : cEq P kt k a.key h with
      | none => rw [hb] at hf; simp at hf
      | some b =>
        rw [hb] at hf; rw [cEq_sim hr hk g1 hb]
        cases b with
        | true =>
          simp only [Option.some.injEq] at hf
          subst hf
          exact .inr ⟨i, a.val, a'.val, rfl, by simp, g2, Nat.le_refl _, by simp, a, by simp⟩
        | false =>
          simp only at hf
          rcases ih es' (i + 1) r (by simpa using hl) (fun j x x' h1 h2 => hg (j + 1) x x' (by simpa using h1) (by simpa using h2)) hf with ⟨h1, h2⟩ | ⟨n, v, v', h1, h2, h3, h4, h5, y, h6⟩
          · exact .inl ⟨h1, by simpa using h2⟩
          · refine .inr ⟨n, v, v', h1, by simpa using h2, h3, by omega, by simp; omega, y, ?_⟩
            rw [show n - i = (n - (i + 1)) + 1 by omega]; simpa using h6

theorem checkKey_ptr {kt el : TypeId} {v : Value} {e : Bool} (hu : P.underlying kt = some (.pointer el)) (w : World) : (Instr.checkKey e 10000 kt v).run P w = .ok () w := by
  have : ∀ n, (Instr.checkKey e (n + 1) kt v).run P w = .ok () w := fun n => by
    simp [Instr.checkKey, run_und hu]
  exact this 9999

/-- The search for a key, on both sides. -/
theorem cFind_sim (hr : Rel P β h w) {kt : TypeId} {k k' : Value} (hk : VRh β h k k') {es es' : Array MapEntry} {r : Option (Nat × Value)} (hl : es'.size = es.size)
    (hg : ∀ (j : Nat) (a a' : MapEntry), es[j]? = some a → es'[j]? = some a' → VRh β h a.key a'.key ∧ VRh β h a.val a'.val ∧ a'.born = a.born) (hf : cFind P kt k es h = some r) :
    (Instr.checkKey es'.isEmpty 10000 kt k').run P w = .ok () w ∧
    ((r = none ∧ (Instr.findKey kt k' es'.toList).run P w = .ok none w) ∨ ∃ n v v', r = some (n, v) ∧ (Instr.findKey kt k' es'.toList).run P w = .ok (some (n, v')) w ∧ VRh β h v v' ∧ n < es.size) := by
  have hg' : ∀ (j : Nat) (a a' : MapEntry), es.toList[j]? = some a → es'.toList[j]? = some a' → VRh β h a.key a'.key ∧ VRh β h a.val a'.val ∧ a'.born = a.born := fun j a a' h1 h2 => hg j a a' (by simpa using h1) (by simpa using h2)
  have hemp : es'.isEmpty = es.isEmpty := by
    unfold Array.isEmpty; rw [hl]
  unfold cFind at hf
  split at hf
  · rename_i hc
    simp only [Bool.and_eq_true] at hc
    obtain rfl := VR.afc_eq hc.1 hk
    split at hf
    · rename_i d hq hu
      refine ⟨by rw [hemp]; exact quiet_run hq w, ?_⟩
      rcases findNow_sim hc.1 es.toList es'.toList 0 r (by simpa using hl) hg' hf with ⟨h1, h2⟩ | ⟨n, v, v', h1, h2, h3, _, h5, _⟩
      · exact .inl ⟨h1, by simp [Instr.findKey, run_und hu, h2]⟩
      · exact .inr ⟨n, v, v', h1, by simp [Instr.findKey, run_und hu, h2], h3, by simpa using h5⟩
    · cases hf
  · split at hf
    · rename_i hp
      unfold isPtrT at hp
      split at hp
      · rename_i el hu
        refine ⟨checkKey_ptr hu w, ?_⟩
        have hroad : (Instr.findKey kt k' es'.toList).run P w = (Instr.findAsking kt k' es'.toList).run P w := by
          simp only [Instr.findKey, Sem.run_bind, run_und hu, Result.andThen_ok]
          cases hes : es'.toList with
          | nil => simp [Instr.findNow, Instr.findAsking]
          | cons a l => simp [Instr.findNow, Instr.sameNow]
        rw [hroad]
        rcases findAsking_sim hr hk es.toList es'.toList 0 r (by simpa using hl) hg' hf with ⟨h1, h2⟩ | ⟨n, v, v', h1, h2, h3, _, h5, _⟩
        · exact .inl ⟨h1, h2⟩
        · exact .inr ⟨n, v, v', h1, h2, h3, by simpa using h5⟩
      · cases hp
    · cases hf

theorem zeroAf_vr {t : TypeId} {z : Value} (hz : zeroAf P t = true) (h1 : (P.info? t).bind (·.zero) = some z) : VRh β h z z := by
  unfold zeroAf at hz
  rw [h1] at hz
  simp only at hz
  cases z with
  | agg c => exact .agg _ _ (VRA.of_afc hz)
  | tuple c => simp [Value.cells, afc] at hz
  | iface t v => simp [Value.cells, afc] at hz
  | _ => exact VR.of_afc (by simpa [Value.cells] using hz)

theorem cLookup_sim (hr : Rel P β h w) {t : TypeId} {x x' k k' v : Value} {ok : Bool} (hx : VRh β h x x') (hk : VRh β h k k') (he : cLookup P t x k ok h = some v) :
    ∃ v', (Instr.lookup t x' k' ok).run P w = .ok v' w ∧ VRh β h v v' := by
  unfold cLookup at he
  split at he
  · rename_i kt et hu
    cases hes : cEntries x h with
    | none => rw [hes] at he; simp at he
    | some es =>
      rw [hes] at he
      simp only [Option.bind_some] at he
      cases hfr : cFind P kt k es h with
      | none => rw [hfr] at he; simp at he
      | some r =>
        rw [hfr] at he
        simp only [Option.bind_some] at he
        have main : ∀ es' : Array MapEntry, es'.size = es.size → (∀ (j : Nat) (a a' : MapEntry), es[j]? = some a → es'[j]? = some a' → VRh β h a.key a'.key ∧ VRh β h a.val a'.val ∧ a'.born = a.born) →
            ∃ v', ((do
              Instr.checkKey es'.isEmpty 10000 kt k'
              let (v, ok') ← match ← Instr.findKey kt k' es'.toList with
                | some (_, v) => pure (v, true)
                | none => pure (← zeroValue et, false)
              pure (if ok then .tuple #[v, .bool ok'] else v)) : Sem Value).run P w = .ok v' w ∧ VRh β h v v' := by
          intro es' hl hg
          obtain ⟨c1, c2⟩ := cFind_sim hr hk hl hg hfr
          rcases c2 with ⟨rfl, c3⟩ | ⟨n, u, u', rfl, c3, c4, _⟩
          · simp only at he
            split at he
            · rename_i hz
              cases hz1 : (P.info? et).bind (·.zero) with
              | none => rw [hz1] at he; simp at he
              | some z =>
                rw [hz1] at he
                simp only [Option.map_some, Option.some.injEq] at he
                subst he
                refine ⟨if ok then .tuple #[z, .bool false] else z, by simp [c1, c3, run_zero hz1], ?_⟩
                split
                · exact .tuple _ _ (.cons _ _ _ _ (zeroAf_vr hz hz1) (.cons _ _ _ _ (.bool _) .nil))
                · exact zeroAf_vr hz hz1
            · cases he
          · simp only [Option.some.injEq] at he
            subst he
            refine ⟨if ok then .tuple #[u', .bool true] else u', by simp [c1, c3], ?_⟩
            split
            · exact .tuple _ _ (.cons _ _ _ _ c4 (.cons _ _ _ _ (.bool _) .nil))
            · exact c4
        rcases entries_sim hr hx hes with ⟨rfl, rfl⟩ | ⟨r1, r', es', cl, kd, rfl, rfl, h1, h2, h3, h4⟩
        · obtain ⟨v', m1, m2⟩ := main #[] rfl (by simp)
          refine ⟨v', ?_, m2⟩
          rw [← m1]
          simp only [Instr.lookup, Sem.run_bind, run_und hu, Result.andThen_ok, Sem.run_pure]
          rfl
        · obtain ⟨v', m1, m2⟩ := main es' h3 h4
          refine ⟨v', ?_, m2⟩
          rw [← m1]
          have hgo : (getObj r').run P w = .ok (.map es' cl) w := by simp [getObj, Sem.run, h2]
          simp only [Instr.lookup, Sem.run_bind, run_und hu, Result.andThen_ok, Sem.run_pure, hgo]
          rfl
  · cases he

/-! ### bytes and lengths -/
theorem isU8_und {e : TypeId} (he : isU8 P e = true) : P.underlying e = some (.int .u8) := by
  unfold isU8 at he; split at he
  · assumption
  · cases he
/-- What the model's own reading of n cells gives. -/
def CellsRun (P : Program) (w : World) (n : Nat) (cs' : Array Value) : Value → Prop
  | .slice none _ _ => cs' = #[]
  | .slice (some a) _ _ => (loadCells a n).run P w = .ok cs' w
  | .string b => cs' = (b.extract 0 n).data.map fun b => .int .u8 b.toNat
  | _ => False
theorem cCells_sim (hr : Rel P β h w) {x x' : Value} {n s : Nat} {cs : Array Value} (hx : VRh β h x x') (hs : ∀ b o l c, x = .slice (some ⟨b, o, none⟩) l c → n ≤ l * s ∧ (0 < s ∨ n = 0)) (he : cCells x n h = some cs) :
    ∃ cs', VRA β (· < h.size) cs cs' ∧ CellsRun P w n cs' x' := by
  unfold cCells at he
  split at he
  · cases he; cases hx; exact ⟨#[], VRA.nil, rfl⟩
  · rename_i b o l c
    split at he
    · rename_i cs0 T k hb
      split at he
      · rename_i hle
        cases he
        obtain ⟨e, cs', fr, b1, b2, b3⟩ := hr.cells hb
        cases hx with
        | slice _ _ _ _ a' cap' hk hh =>
          obtain ⟨s0, s1, s2, _⟩ := hh e b1
          obtain ⟨g1, g2⟩ := b3.sub hle
          refine ⟨_, g2, ?_⟩
          show (loadCells a' n).run P w = _
          by_cases hn : n = 0
          · subst hn
            simp only [Nat.add_zero]
            rw [Array.extract_eq_empty_of_le (by omega)]
            simp [loadCells, loadCellsFrom]
          · obtain ⟨q1, q2⟩ := hs b o l c rfl
            have : l ≠ 0 := by rintro rfl; omega
            rw [s2 (by omega)]
            exact run_cells b2 g1
      · cases he
    · cases he
  · rename_i b
    cases he
    cases hx
    refine ⟨_, ?_, rfl⟩
    refine VRA.of_afc ?_
    rw [Array.all_eq_true']
    intro v hv
    simp only [Array.mem_map] at hv
    obtain ⟨y, _, rfl⟩ := hv
    rfl
  · cases he

theorem bytes_fold (w : World) {f : Value → ByteArray → Sem (ForInStep ByteArray)} (hf : ∀ n r, f (.int .u8 n) r = pure (.yield (r.push (UInt8.ofNat n.toNat)))) : ∀ (l : List Value) (bs : List UInt8) (s : ByteArray), bytesOf l = some bs →
    (forIn (m := Sem) l s f).run P w = .ok ⟨s.data ++ bs.toArray⟩ w := by
  intro l
  induction l with
  | nil => intro bs s hb; simp [bytesOf] at hb; subst hb; simp
  | cons v l ih =>
    intro bs s hb
    unfold bytesOf at hb
    rw [List.mapM_cons] at hb
    cases v <;> try (simp at hb; done)
    rename_i k n
    cases k <;> try (simp at hb; done)
    simp only [bind, Option.bind_some] at hb
    cases hl : bytesOf l with
    | none => unfold bytesOf at hl; rw [hl] at hb; simp at hb
    | some bs' =>
      have hl' := hl
      unfold bytesOf at hl'
      rw [hl'] at hb
      simp only [Option.bind_some, pure, Option.some.injEq] at hb
      subst hb
      simp only [List.forIn_cons, hf, Sem.run_bind, Sem.run_pure, Result.andThen_ok]
      rw [ih bs' _ hl]
      simp [ByteArray.push]

theorem evRead_sim (hr : Rel P β h w) {o : Oper} {ρ ρ' : Operand → Value} (hρ : ER β (· < h.size) o ρ ρ') {v : Value} (he : evRead P o ρ h = some v) :
    ∃ v', (execOp ρ' o).run P w = .ok (.value v') w ∧ VRh β h v v' := by
  unfold evRead at he
  unfold ER at hρ
  unfold execOp
  split at he <;> rename_i hop <;> simp only [hop, Op.operands] at hρ ⊢
  · rename_i t a
    obtain ⟨v', h1, h2⟩ := cLoad_sim hr (hρ a (by simp)) he
    exact ⟨v', by simp [h1], h2⟩
  · rename_i op t x y yt
    have hx := hρ x (by simp)
    have hy := hρ y (by simp)
    split at he
    · rename_i hg
      simp only [Bool.and_eq_true] at hg
      obtain ⟨he, hav⟩ := keepAf_some he
      rw [VR.af_eq hg.1 hx, VR.af_eq hg.2 hy]
      have := quiet_run he w
      exact ⟨v, by simp only [Sem.run_bind] at this ⊢; rw [this]; rfl, VR.of_af hav⟩
    · split at he
      · cases hq : cEq P t (ρ x) (ρ y) h with
        | none => rw [hq] at he; simp at he
        | some r =>
          rw [hq] at he; simp only [Option.map_some, Option.some.injEq] at he; subst he
          obtain ⟨s1, s2⟩ := cEq_shape hq hx hy
          exact ⟨.bool r, by simp [eqGuard_idle s2, binOp_eql s1, cEq_sim hr hx hy hq], .bool _⟩
      · cases hq : cEq P t (ρ x) (ρ y) h with
        | none => rw [hq] at he; simp at he
        | some r =>
          rw [hq] at he; simp only [Option.map_some, Option.some.injEq] at he; subst he
          obtain ⟨s1, s2⟩ := cEq_shape hq hx hy
          exact ⟨.bool (!r), by simp [eqGuard_idle s2, binOp_neq s1, cEq_sim hr hx hy hq], .bool _⟩
      · cases he
  · rename_i t x lo hi mx
    obtain ⟨v', h1, h2⟩ := cSlice_sim hr (hρ x (by simp)) (fun y hy => hρ y (by simp at hy; simp [hy])) (fun y hy => hρ y (by simp at hy; simp [hy])) (fun y hy => hρ y (by simp at hy; simp [hy])) he
    exact ⟨v', by simp [h1], h2⟩
  · rename_i t m k ok
    obtain ⟨v', h1, h2⟩ := cLookup_sim hr (hρ m (by simp)) (hρ k (by simp)) he
    exact ⟨v', by simp [h1], h2⟩
  · rename_i s d x
    have hx := hρ x (by simp)
    split at he
    · rename_i e a n c hus hud hxv
      split at he
      · rename_i hu8
        cases hcc : cCells (.slice a n c) n h with
        | none => rw [hcc] at he; simp at he
        | some cs =>
          rw [hcc] at he
          simp only [Option.bind_some] at he
          cases hb : bytesOf cs.toList with
          | none => rw [hb] at he; simp at he
          | some bs =>
            rw [hb] at he
            simp only [Option.map_some, Option.some.injEq] at he
            subst he
            rw [hxv] at hx
            obtain ⟨cs', c1, c2⟩ := cCells_sim (s := 1) hr hx (fun b o l c hh => by cases hh; exact ⟨by omega, by omega⟩) hcc
            have hal : cs.all afc = true := by
              rw [Array.all_eq_true']
              intro y hy
              have : ∀ (l : List Value) (bs : List UInt8), bytesOf l = some bs → ∀ y ∈ l, afc y = true := by
                intro l
                induction l with
                | nil => intro bs _ y hy; cases hy
                | cons q l ih =>
                  intro bs hb y hy
                  unfold bytesOf at hb
                  rw [List.mapM_cons] at hb
                  cases q <;> try (simp at hb; done)
                  rename_i k n
                  cases hl : bytesOf l with
                  | none => unfold bytesOf at hl; rw [hl] at hb; cases k <;> simp at hb
                  | some bs' =>
                    rcases List.mem_cons.1 hy with rfl | hy
                    · rfl
                    · exact ih bs' hl y hy
              exact this cs.toList bs hb y (by simpa using hy)
            obtain rfl := VRA.afc_eq hal c1
            have hpu := isU8_und hu8
            refine ⟨.string ⟨bs.toArray⟩, ?_, .string _⟩
            have hconv : (Conv.bytesToString (ρ' x)).run P w = .ok (.string ⟨bs.toArray⟩) w := by
              generalize ρ' x = x' at hx c2
              cases hx with
              | sliceNil l c =>
                have c2 : cs' = #[] := c2
                subst c2
                simp [bytesOf] at hb
                subst hb
                simp [Conv.bytesToString]; rfl
              | slice b o len cap a' cap' hk hh =>
                have c2 : (loadCells a' n).run P w = .ok cs' w := c2
                simp only [Conv.bytesToString, Sem.run_bind, c2, Result.andThen_ok]
                rw [← Array.forIn_toList, bytes_fold w (fun n r => rfl) cs'.toList bs .empty hb]
                simp
            have hsl : ∃ a' c', ρ' x = .slice a' n c' := by
              generalize ρ' x = x' at hx
              cases hx <;> exact ⟨_, _, rfl⟩
            obtain ⟨a', c', hs'⟩ := hsl
            rw [hs'] at hconv ⊢
            have : (convert s d (.slice a' n c')).run P w = .ok (.string ⟨bs.toArray⟩) w := by
              simp only [convert, Sem.run_bind, run_und hus, run_und hud, Result.andThen_ok]
              simp only [run_und hpu, Result.andThen_ok, hconv]
            simp [this]
      · cases he
    · cases he
  · rename_i c
    have hm : VRA β (· < h.size) (c.args.map ρ) (c.args.map ρ') := map_vra fun x hx => hρ x (by simp [Call.operands, hx])
    split at he
    · rename_i hcal
      have hlen : ∀ {r : Value}, (Builtin.len_ c.argTypes o.type (c.args.map ρ')).run P w = .ok r w → (do let d ← resolve ρ' c o.type; invoke d.target d.args : Sem Next).run P w = .ok (.value r) w := fun hh => by
        simp [resolve, hcal, invoke, builtin, hh]
      cases ht : c.argTypes[0]? with
      | none => rw [ht] at he; simp at he
      | some t =>
        rw [ht] at he
        simp only [Option.bind_some] at he
        have hlu : ∀ {d : TypeDesc} {y : Value}, P.underlying t = some d → (c.args.map ρ')[0]? = some y → Builtin.len_ c.argTypes o.type (c.args.map ρ') = Builtin.len_ #[t] o.type #[y] := fun _ hy => by
          simp [Builtin.len_, ht, hy]
        split at he
        · rename_i s hu ha
          cases he
          obtain ⟨y, hy, hv⟩ := hm.get ha
          obtain rfl := vr_string hv
          exact ⟨_, hlen (by rw [hlu hu hy]; simp [Builtin.len_, run_und hu, goInt]), .int _ _⟩
        · rename_i n el a hu ha
          cases he
          obtain ⟨y, hy, hv⟩ := hm.get ha
          exact ⟨_, hlen (by rw [hlu hu hy]; simp [Builtin.len_, run_und hu, goInt]), .int _ _⟩
        · rename_i el a n cap hu ha
          cases he
          obtain ⟨y, hy, hv⟩ := hm.get ha
          have : ∃ a' c', y = .slice a' n c' := by cases hv <;> exact ⟨_, _, rfl⟩
          obtain ⟨a', c', rfl⟩ := this
          exact ⟨_, hlen (by rw [hlu hu hy]; simp [Builtin.len_, run_und hu, goInt]), .int _ _⟩
        · rename_i kt et a hu ha
          cases hes : cEntries a h with
          | none => rw [hes] at he; simp at he
          | some es =>
            rw [hes] at he
            simp only [Option.map_some, Option.some.injEq] at he
            subst he
            obtain ⟨y, hy, hv⟩ := hm.get ha
            rcases entries_sim hr hv hes with ⟨rfl, rfl⟩ | ⟨r1, r', es', cl, kd, rfl, rfl, h1, h2, h3, h4⟩
            · exact ⟨_, hlen (by rw [hlu hu hy]; simp [Builtin.len_, run_und hu, goInt]), .int _ _⟩
            · have hgo : (getObj r').run P w = .ok (.map es' cl) w := by simp [getObj, Sem.run, h2]
              refine ⟨_, hlen (r := .int .i64 es.size) (by rw [hlu hu hy]; simp [Builtin.len_, run_und hu, goInt, hgo, h3]), .int _ _⟩
        · cases he
    · cases he
  · cases he
end
end Go.Am
