/- Slices that are made, copied into, appended to. -/
import Derived.Test.YtfmikgbachnneaaDoorAm5
set_option linter.unusedSimpArgs false
set_option linter.unusedVariables false
namespace Go.Am
section
variable {P : Program} {β : Nat → Option Emb} {h : H} {w : World}

theorem growBy_le (newLen : Nat) : ∀ (r c : Nat), 256 ≤ c → c ≤ 2 * newLen → Builtin.growBy newLen r c ≤ 2 * newLen
  | 0, c, _, h => h
  | r + 1, c, h1, h2 => by
    simp only [Builtin.growBy]
    split
    · exact h2
    · exact growBy_le newLen r _ (by omega) (by omega)
theorem nextslicecap_le {need c : Nat} (hc : c < need) : Builtin.nextslicecap need c ≤ 2 * need := by
  unfold Builtin.nextslicecap
  split
  · omega
  · split
    · omega
    · exact growBy_le need 4 c (by omega) (by omega)

theorem first_sim (hr : Rel P β h w) {x x' : Value} {n s : Nat} {e : TypeId} {cs : Array Value} (hx : VRh β h x x') (hsz : szT P e = s) (hs0 : 0 < s) (hsrc : srcOk P e x = true) (hn : ∀ b l c, x = .slice (some b) l c → n ≤ l) (he : cCells x (n * s) h = some cs) :
    ∃ cs', VRA β (· < h.size) cs cs' ∧ (Builtin.firstCells s n x').run P w = .ok cs' w := by
  obtain ⟨cs', h1, h2⟩ := cCells_sim (s := s) hr hx (fun b o l c hh => ⟨Nat.mul_le_mul_right _ (hn _ _ _ hh), .inl hs0⟩) he
  refine ⟨cs', h1, ?_⟩
  cases hx with
  | any => simp [cCells] at he
  | string b =>
    have h2 : cs' = (b.extract 0 (n * s)).data.map fun b => .int .u8 b.toNat := h2
    have : s = 1 := by rw [← hsz]; simpa [srcOk] using hsrc
    subst this
    rw [h2, Nat.mul_one]; simp [Builtin.firstCells]
  | sliceNil l c =>
    have h2 : cs' = #[] := h2
    rw [h2]; simp [Builtin.firstCells]
  | slice b o l c a' cap' hk hh =>
    have h2 : (loadCells a' (n * s)).run P w = .ok cs' w := h2
    simp only [Builtin.firstCells]; exact h2
  | _ => exact h2.elim

theorem lenOf_sim {x x' : Value} {n : Nat} (hx : VRh β h x x') (he : cLen x = some n) (w : World) : (Builtin.lenOf x').run P w = .ok n w := by
  unfold cLen at he
  split at he
  · cases he; cases hx <;> rfl
  · cases he; cases hx; rfl
  · cases he

theorem cPut'_sim (hr : Rel P β h w) {b o cap' : Nat} {a' : Addr} {vs vs' : List Value} {h1 : H} (ha : ∀ e, β b = some e → cap' ≠ 0 → a' = ⟨e.blk, e.shift + o, none⟩) (hne : vs ≠ [] → cap' ≠ 0) (hv : VRL β (· < h.size) vs vs') (hp : cPut' b o vs h = some h1) :
    ∃ w1, (storeCells a' vs').run P w = .ok () w1 ∧ Rel P β h1 w1 ∧ Evo β h w β h1 w1 := by
  unfold cPut' at hp
  split at hp
  · rename_i hemp
    have : vs = [] := by simpa using hemp
    subst this
    cases hv; cases hp
    exact ⟨w, rfl, hr, hr.refl⟩
  · rename_i hemp
    have hv0 : vs ≠ [] := by simpa using hemp
    have hlive : ∃ e, β b = some e := by
      unfold cPut at hp
      split at hp
      · rename_i cs T k hb
        obtain ⟨e, _, _, h2, _⟩ := hr.cells hb
        exact ⟨e, h2⟩
      · cases hp
    obtain ⟨e, hbe⟩ := hlive
    rw [ha e hbe (hne hv0)]
    exact cPut_sim hr hbe hv hp

/-- A new block of cells that may have more room in the world. -/
theorem grown_sim (hr : Rel P β h w) {cs cs' rest : Array Value} {T : TypeId} {fr : Nat × Nat} (hv : VRA β (· < h.size) cs cs') (hfr : fr.1 = fr.2 ∨ (cs' ++ rest).size ≤ fr.1) {w1 : World} (hw : w1.heap = w.heap.push (.cells (cs' ++ rest) T fr)) (h1 : w1.os = w.os) (h2 : w1.tape = w.tape) (h3 : w1.output = w.output)
    {n c : Nat} (hs0 : 0 < szT P T) (hn : cs.size = n * szT P T) (hc : (cs' ++ rest).size = c * szT P T) :
    ∃ β', VRh β' (h.push (.cells cs T .grown)) (.slice (some ⟨h.size, 0, none⟩) n n) (.slice (some ⟨w.heap.size, 0, none⟩) n c) ∧
      Rel P β' (h.push (.cells cs T .grown)) w1 ∧ Evo β h w β' (h.push (.cells cs T .grown)) w1 := by
  have hsz : cs.size ≤ (cs' ++ rest).size := by rw [Array.size_append, hv.size]; omega
  obtain ⟨r1, r2⟩ := hr.alloc (obj := .cells cs T .grown) (o' := .cells (cs' ++ rest) T fr) (e := ⟨w.heap.size, 0, (cs' ++ rest).size, some (szT P T, cs.size)⟩) rfl
    ⟨rfl, by simp, fun i v hi => by
      obtain ⟨v', g1, g2⟩ := hv.get hi
      have hlt := (Array.getElem?_eq_some_iff.1 g1).1
      exact ⟨v', by simp only [Nat.zero_add]; rw [Array.getElem?_append_left hlt]; exact g1, g2⟩, rfl, hsz, hfr⟩ (w' := w1) hw h1 h2 h3
  refine ⟨_, ?_, r1, r2⟩
  refine .slice _ _ _ _ _ _ (by simp) fun e he => ?_
  rw [upd_at] at he; cases he
  have hnc : n ≤ c := Nat.le_of_mul_le_mul_right (by rw [← hn, ← hc]; exact hsz) hs0
  exact ⟨Nat.le_refl _, hnc, fun _ => rfl, hs0, by simp only [Nat.zero_add, hn]; exact Nat.le_refl _, by simp only [Nat.zero_add, hc]; exact Nat.le_refl _, fun hlt => by simp only [Nat.zero_add, hn] at hlt; omega⟩

theorem growOk_spec {e : TypeId} (hg : growOk P e = true) : ∃ i z, P.info? e = some i ∧ i.zero = some z ∧ z.cells.all afc = true ∧ z.cells.size = i.size ∧ i.size ≠ 0 ∧ i.bytes ≠ 0 ∧ szT P e = i.size := by
  unfold growOk at hg
  split at hg
  · rename_i i hi
    simp only [Bool.and_eq_true, bne_iff_ne] at hg
    obtain ⟨⟨g1, g2⟩, g3⟩ := hg
    split at g3
    · rename_i z hz
      simp only [Bool.and_eq_true, beq_iff_eq] at g3
      exact ⟨i, z, hi, hz, g3.1, g3.2, g1, g2, by simp [szT, hi]⟩
    · cases g3
  · cases hg

theorem run_append_in {st xt e ty : TypeId} {xd : TypeDesc} {inf : TypeInfo} {n sLen cap' : Nat} {base : Option Addr} {x' : Value} {new' : Array Value} (hu : P.underlying st = some (.slice e)) (hux : P.underlying xt = some xd) (hxd : isSeqT xd = true) (hi : P.info? e = some inf)
    (hl : (Builtin.lenOf x').run P w = .ok n w) (hf : (Builtin.firstCells inf.size n x').run P w = .ok new' w) (hle : sLen + n ≤ cap') :
    (Builtin.append_ #[st, xt] ty #[.slice base sLen cap', x']).run P w = match base with
      | none => .ok (.slice none (sLen + n) cap') w
      | some a => ((storeCells (a.add (sLen * inf.size)) new'.toList).run P w).andThen fun _ w1 => .ok (.slice (some a) (sLen + n) cap') w1 := by
  unfold Builtin.append_
  have hxx : (∃ y, xd = .slice y) ∨ xd = .string := by cases xd <;> simp_all [isSeqT]
  rcases hxx with ⟨y, rfl⟩ | rfl
  · cases base <;> simp [run_und hu, run_sizeOf' hi, run_und hux, hl, hf, hle]
  · cases base <;> simp [run_und hu, run_sizeOf' hi, run_und hux, hl, hf, hle]

theorem run_append_new {st xt e ty : TypeId} {xd : TypeDesc} {inf : TypeInfo} {z : Value} {n sLen cap' : Nat} {base : Option Addr} {x' : Value} {new' old' : Array Value} (hu : P.underlying st = some (.slice e)) (hux : P.underlying xt = some xd) (hxd : isSeqT xd = true) (hi : P.info? e = some inf) (hz : inf.zero = some z)
    (hl : (Builtin.lenOf x').run P w = .ok n w) (hf1 : (Builtin.firstCells inf.size n x').run P w.drew = .ok new' w.drew) (hfo1 : (Builtin.firstCells inf.size sLen (.slice base sLen cap')).run P w.drew = .ok old' w.drew)
    (hle : ¬ sLen + n ≤ cap') (hb : inf.bytes ≠ 0) (hroom : (sLen + n) * inf.bytes ≤ 2 ^ 47) :
    ∃ nc, sLen + n ≤ nc ∧ (Builtin.append_ #[st, xt] ty #[.slice base sLen cap', x']).run P w = .ok (.slice (some ⟨w.heap.size, 0, none⟩) (sLen + n) nc) { w with drawn := w.drawn + 1, heap := w.heap.push (.cells (old' ++ new' ++ Builtin.zeroCells z.cells (nc - (sLen + n))) e) } := by
  have hnx : ¬ Builtin.nextslicecap (sLen + n) cap' * inf.bytes > 2 ^ 48 := by
    have h1 := nextslicecap_le (need := sLen + n) (c := cap') (by omega)
    have h2 : Builtin.nextslicecap (sLen + n) cap' * inf.bytes ≤ 2 * (sLen + n) * inf.bytes := Nat.mul_le_mul_right _ h1
    rw [Nat.mul_assoc] at h2
    omega
  have hzv : (P.info? e).bind (·.zero) = some z := by rw [hi]; exact hz
  refine ⟨(Question.appendCap (sLen + n) cap' e).cut (w.tape w.drawn (Question.appendCap (sLen + n) cap' e)), by simp [Question.cut], ?_⟩
  unfold Builtin.append_
  have hxx : (∃ y, xd = .slice y) ∨ xd = .string := by cases xd <;> simp_all [isSeqT]
  rcases hxx with ⟨y, rfl⟩ | rfl
  · simp [run_und hu, run_sizeOf' hi, run_und hux, hl, hle, run_tinfo hi, hb, hnx, Question.forced, hfo1, hf1, run_zero hzv, newRow]
    rfl
  · simp [run_und hu, run_sizeOf' hi, run_und hux, hl, hle, run_tinfo hi, hb, hnx, Question.forced, hfo1, hf1, run_zero hzv, newRow]
    rfl

theorem append_eff (hr : Rel P β h w) {o : Oper} {ρ ρ' : Operand → Value} {c : Call} (ho : o.op = .call c) (hc : c.callee = .builtin .append) (hm : VRA β (· < h.size) (c.args.map ρ) (c.args.map ρ'))
    {v : Value} {h1 : H} (he : cAppend P c.argTypes (c.args.map ρ) h = some (v, h1)) : EffOut P β h w o ρ' v h1 := by
  unfold cAppend at he
  split at he
  · rename_i st xt base sLen sCap x ht0 ht1 ha0 ha1
    split at he
    · rename_i e xd hu hux
      split at he
      · cases he
      rename_i hg
      simp only [Bool.or_eq_true, not_or, Bool.not_eq_true'] at hg
      obtain ⟨⟨g1, g2⟩, g3⟩ := hg
      obtain ⟨s', hs0, hs⟩ := hm.get ha0
      obtain ⟨x', hx0, hx⟩ := hm.get ha1
      obtain ⟨inf, z, i1, i2, i3, i4, i5, i6, i7⟩ := growOk_spec (by simpa using g2)
      cases hn : cLen x with
      | none => rw [hn] at he; simp at he
      | some n =>
      rw [hn] at he
      simp only [Option.bind_some] at he
      cases hcells : cCells x (n * szT P e) h with
      | none => rw [hcells] at he; simp at he
      | some new =>
      rw [hcells] at he
      simp only [Option.bind_some] at he
      split at he
      · cases he
      rename_i hoc
      have hpos : 0 < szT P e := by rw [i7]; omega
      have hsrcl : ∀ b l c, x = .slice (some b) l c → n ≤ l := fun b l c hh => by subst hh; simp [cLen] at hn; omega
      obtain ⟨new', n1, n2⟩ := first_sim (n := n) (s := szT P e) hr hx rfl hpos (by simpa using g3) hsrcl hcells
      have hlen := lenOf_sim (P := P) hx hn w
      have hrunE : ∀ {r : Value} {w1 : World}, (Builtin.append_ #[st, xt] o.type #[s', x']).run P w = .ok r w1 → (execOp ρ' o).run P w = .ok (.value r) w1 := fun hh => run_builtin ho hc (by
        have : Builtin.append_ c.argTypes o.type (c.args.map ρ') = Builtin.append_ #[st, xt] o.type #[s', x'] := by simp only [Builtin.append_, ht0, ht1, hs0, hx0]; rfl
        simp [builtin, this, hh])
      rw [not_or] at hoc
      have hnewsz : new.size = n * szT P e := by have := hoc.2; omega
      have hall : new.toList.all oc = true := by have := hoc.1; simpa using this
      by_cases hle : sLen + n ≤ sCap
      · rw [if_pos hle] at he
        rw [i7] at n2
        cases base with
        | none =>
          simp only [Option.some.injEq, Prod.mk.injEq] at he
          obtain ⟨rfl, rfl⟩ := he
          cases hs
          refine ⟨β, _, w, .inl (hrunE (run_append_in hu hux (by simpa using g1) i1 hlen n2 hle)), .sliceNil _ _, hr, hr.refl⟩
        | some a =>
          obtain ⟨b, off, sp⟩ := a
          cases sp with
          | some => simp at he
          | none =>
            dsimp only at he
            cases hbb : h[b]? with
            | none => simp [hbb] at he
            | some ob =>
            rw [hbb] at he
            cases ob <;> simp only [reduceCtorEq] at he
            rename_i cs T k
            obtain ⟨e1, cs', fr, b1, b2, b3⟩ := hr.cells hbb
            cases hp : cPut' b (off + sLen * szT P e) new.toList h with
            | none => simp [hp] at he
            | some h2 =>
              simp only [hp, Option.map_some, Option.some.injEq, Prod.mk.injEq] at he
              obtain ⟨rfl, rfl⟩ := he
              cases hs with
              | slice _ _ _ _ a' cap' hk hh =>
                obtain ⟨s0, s1, s2, s3⟩ := hh e1 b1
                have hne : new.toList ≠ [] → cap' ≠ 0 := by
                  intro hh2
                  have h5 : new.size ≠ 0 := by intro hz; exact hh2 (by simpa using hz)
                  have h6 : n ≠ 0 := by rintro rfl; simp at hnewsz; exact h5 (by simp [hnewsz])
                  omega
                obtain ⟨w1, q1, q2, q3⟩ := cPut'_sim (a' := a'.add (sLen * inf.size)) (cap' := cap') hr (fun e2 he2 hc0 => by
                  rw [b1] at he2; cases he2
                  rw [s2 hc0, addr_add, i7, Nat.add_assoc]) hne n1 hp
                refine ⟨β, .slice (some a') (sLen + n) cap', w1, .inl (hrunE ?_), ?_, q2, q3⟩
                · rw [run_append_in hu hux (by simpa using g1) i1 hlen n2 (by omega)]
                  simp only [q1, Result.andThen_ok]
                · refine .slice _ _ _ _ _ _ (Nat.lt_of_lt_of_le hk q3.hsize) fun e2 he2 => ?_
                  rw [b1] at he2; cases he2
                  exact ⟨hle, s1, s2, s3⟩
      · rw [if_neg hle] at he
        split at he
        · cases he
        rename_i hroom
        have hroom' : (sLen + n) * inf.bytes ≤ 2 ^ 47 := by
          have := hroom
          simp only [i1, Option.map_some, Option.getD_some, Classical.not_not] at this
          exact this
        have hrd := hr.same (w' := w.drew) rfl
        obtain ⟨new2, m1, m2⟩ := first_sim (n := n) (s := szT P e) hrd hx rfl hpos (by simpa using g3) hsrcl hcells
        rw [i7] at m2
        have evo_d : Evo β h w β h w.drew := hr.evo_same rfl rfl rfl rfl
        have hnew2 : new2.size = n * inf.size := by rw [m1.size, hnewsz, i7]
        -- a new block, behind whatever has been dropped
        have fin : ∀ {β1 : Nat → Option Emb} {hh : H} {old old' : Array Value} {base' : Option Addr} {cap' : Nat}, s' = .slice base' sLen cap' → Rel P β1 hh w.drew → Evo β h w β1 hh w.drew → hh.size = h.size → VRA β1 (· < hh.size) old old' → VRA β1 (· < hh.size) new new2 → old.size = sLen * inf.size →
            (Builtin.firstCells inf.size sLen (.slice base' sLen cap')).run P w.drew = .ok old' w.drew → ¬ sLen + n ≤ cap' → EffOut P β h w o ρ' (.slice (some ⟨h.size, 0, none⟩) (sLen + n) (sLen + n)) (hh.push (.cells (old ++ new) e .grown)) := by
          intro β1 hh old old' base' cap' hs' hr1 hev hhs ho hnn hos hfo hncap
          obtain ⟨nc, p1, p2⟩ := run_append_new (ty := o.type) hu hux (by simpa using g1) i1 i2 hlen m2 hfo hncap i6 hroom'
          have hold' : old'.size = sLen * inf.size := by rw [ho.size, hos]
          have hcat : VRA β1 (· < hh.size) (old ++ new) (old' ++ new2) := ho.append hnn
          have hsz2 : (old ++ new).size = (sLen + n) * szT P e := by rw [Array.size_append, hos, hnewsz, i7, Nat.add_mul]
          obtain ⟨β2, q1, q2, q3⟩ := grown_sim (T := e) (fr := (0, 0)) (rest := Builtin.zeroCells z.cells (nc - (sLen + n))) hr1 hcat (.inl rfl) (w1 := { w with drawn := w.drawn + 1, heap := w.heap.push (.cells (old' ++ new2 ++ Builtin.zeroCells z.cells (nc - (sLen + n))) e) }) rfl rfl rfl rfl (n := sLen + n) (c := nc) hpos hsz2 (by
            simp only [Array.size_append, hold', hnew2, Builtin.zeroCells, Array.size_map, Array.size_range, i4, i7]
            rw [← Nat.add_mul, ← Nat.add_mul]; congr 1; omega)
          rw [hhs] at q1
          refine ⟨β2, _, _, .inl (hrunE ?_), q1, q2, hev.trans q3⟩
          rw [hs']; exact p2
        cases base with
        | none =>
          dsimp only at he
          split at he
          · rename_i hz0
            simp only [Option.some.injEq, Prod.mk.injEq] at he
            obtain ⟨rfl, rfl⟩ := he
            cases hs
            have := fin (old := #[]) (old' := #[]) rfl hrd evo_d rfl VRA.nil m1 (by simp [hz0]) (by simp [Builtin.firstCells]) hle
            simpa using this
          · cases he
        | some a =>
          obtain ⟨b, off, sp⟩ := a
          cases sp with
          | some => simp at he
          | none =>
            dsimp only at he
            cases hbb : h[b]? with
            | none => simp [hbb] at he
            | some ob =>
            rw [hbb] at he
            cases ob <;> simp only [reduceCtorEq] at he
            rename_i cs T k
            split at he
            · cases he
            rename_i hoff
            simp only [Classical.not_not] at hoff
            obtain ⟨e1, cs', fr, b1, b2, b3⟩ := hr.cells hbb
            cases hs with
            | slice _ _ _ _ a' cap' hk hh =>
              obtain ⟨s0, s1, s2, s3⟩ := hh e1 b1
              obtain ⟨d1, d2⟩ := b3.sub hoff
              have hfo : (Builtin.firstCells inf.size sLen (.slice (some a') sLen cap')).run P w.drew = .ok (cs'.extract (e1.shift + off) (e1.shift + off + sLen * szT P e)) w.drew := by
                simp only [Builtin.firstCells, ← i7]
                by_cases hz : sLen = 0
                · subst hz
                  rw [Nat.zero_mul, Nat.add_zero, Array.extract_eq_empty_of_le (by omega)]
                  simp [loadCells, loadCellsFrom]
                · rw [s2 (by omega)]
                  exact run_cells (w := w.drew) b2 d1
              have hos : (cs.extract off (off + sLen * szT P e)).size = sLen * inf.size := by rw [Array.size_extract, ← i7]; omega
              by_cases hC : k = .grown ∧ ¬ off + sCap * szT P T < cs.size
              · rw [if_pos hC] at he
                split at he
                · cases he
                rename_i hTe
                rw [not_or] at hTe
                have hTe2 : T = e := by simpa using hTe.2
                subst hTe2
                simp only [Option.some.injEq, Prod.mk.injEq] at he
                obtain ⟨rfl, rfl⟩ := he
                obtain ⟨rfl, hC2⟩ := hC
                have hnro : ¬ roAt h b := by rintro ⟨q, q1, q2⟩; rw [hbb] at q1; cases q1; cases q2
                obtain ⟨c0, c1, c2, c3⟩ := b3
                simp only at c3
                rw [c3.1] at s3
                simp only at s3
                by_cases hcap : sLen + n ≤ cap'
                · have ha' := s2 (by omega)
                  have hmul : (sLen + n) * szT P T ≤ cap' * szT P T := Nat.mul_le_mul_right _ hcap
                  rw [Nat.add_mul] at hmul
                  obtain ⟨new', n1, n2⟩ := first_sim (n := n) (s := szT P T) hr hx rfl hpos (by simpa using g3) hsrcl hcells
                  rw [i7] at n2
                  have hnl : new'.toList.length = n * szT P T := by rw [Array.length_toList, n1.size, hnewsz]
                  have hone : ∀ v ∈ new'.toList, v.oneCell' = true := by
                    intro v hm
                    obtain ⟨i, hi⟩ := List.mem_iff_getElem?.1 hm
                    have hil : i < new.toList.length := by rw [← VRL.length n1]; exact (List.getElem?_eq_some_iff.1 hi).1
                    obtain ⟨y, hy1, hy2⟩ := VRL.get n1 i new.toList[i] (List.getElem?_eq_getElem hil)
                    rw [hi] at hy1; cases hy1
                    exact vr_oneCell (List.all_eq_true.1 (by have := hoc.1; simpa using this) _ (List.getElem_mem hil)) hy2
                  have hrun := run_storeCells' (P := P) new'.toList 0 (e1.shift + off + sLen * szT P T) cs' w b2 hone (fun j hj => by have := c3.2.2; omega) (by omega)
                  obtain ⟨r1, r2⟩ := hr.moved (obj := .cells (cs.extract off (off + sLen * szT P T) ++ new) T .grown) (o' := .cells (putL cs' (e1.shift + off + sLen * szT P T + 0) new'.toList) T fr) (e' := ⟨e1.blk, e1.shift + off, e1.room - off, some (szT P T, (cs.extract off (off + sLen * szT P T) ++ new).size)⟩)
                    (w' := { w with heap := w.heap.setIfInBounds e1.blk (.cells (putL cs' (e1.shift + off + sLen * szT P T + 0) new'.toList) T fr) }) b1 hnro rfl ⟨rfl, by rw [putL_size]; simp only; omega, fun i v hi => by
                      rw [putL_get _ _ _ _ (by omega)]
                      simp only
                      rw [Array.getElem?_append] at hi
                      split at hi
                      · rename_i hlt
                        rw [if_neg (by rw [hos, ← i7] at hlt; omega)]
                        rw [Array.getElem?_extract] at hi
                        split at hi
                        · obtain ⟨v', t1, t2⟩ := c2 _ _ hi
                          exact ⟨v', by rw [Nat.add_assoc]; exact t1, t2⟩
                        · cases hi
                      · rename_i hlt
                        rw [hos, ← i7] at hlt hi
                        have hlt2 := (Array.getElem?_eq_some_iff.1 hi).1
                        rw [hnewsz] at hlt2
                        rw [if_pos (by omega)]
                        obtain ⟨v', t1, t2⟩ := VRL.get n1 _ _ (by simpa using hi)
                        exact ⟨v', by rw [show e1.shift + off + i - (e1.shift + off + sLen * szT P T + 0) = i - sLen * szT P T by omega]; exact t1, t2⟩, rfl, by
                          simp only [Array.size_append, hos, hnewsz, ← i7]; omega, by rw [putL_size]; exact c3.2.2⟩ rfl rfl rfl rfl
                  refine ⟨_, .slice (some a') (sLen + n) cap', _, .inl (hrunE ?_), ?_, r1, r2⟩
                  · rw [run_append_in hu hux (by simpa using g1) i1 hlen n2 hcap]
                    simp only
                    rw [ha', addr_add, ← i7, hrun]
                    rfl
                  · refine .slice _ _ _ _ _ _ (by simp) fun e2 he2 => ?_
                    rw [upd_at] at he2; cases he2
                    refine ⟨Nat.le_refl _, hcap, fun _ => by rw [ha']; rfl, hpos, ?_, ?_, ?_⟩
                    · simp only [Array.size_append, hos, hnewsz, ← i7, Nat.zero_add, Nat.add_mul]; exact Nat.le_refl _
                    · simp only [Nat.zero_add]; omega
                    · simp only [Array.size_append, hos, hnewsz, ← i7, Nat.zero_add, Nat.add_mul]; omega
                · obtain ⟨r1, r2⟩ := hrd.kill b hnro
                  have hmono : ∀ {c c' : Array Value}, VRA β (· < h.size) c c' → VRA (upd β b none) (· < (h.setIfInBounds b .dead).size) c c' := fun q => q.mono (fun b hb => by simpa using hb) r2.old
                  exact fin rfl r1 (evo_d.trans r2) (by simp) (hmono d2) (hmono m1) hos hfo hcap
              · rw [if_neg hC] at he
                simp only [Option.some.injEq, Prod.mk.injEq] at he
                obtain ⟨rfl, rfl⟩ := he
                have hce : cap' = sCap := by
                  obtain ⟨c0, c1, c2, c3⟩ := b3
                  cases k with
                  | grown =>
                    simp only at c3; rw [c3.1] at s3; simp only at s3
                    exact s3.2.2.2 (by
                      refine Classical.byContradiction fun hn => hC ⟨rfl, hn⟩)
                  | ro => simp only at c3; rw [c3.1] at s3; exact s3
                  | own => simp only at c3; rw [c3.1] at s3; exact s3
                  | text => simp only at c3; rw [c3.1] at s3; exact s3
                exact fin rfl hrd evo_d rfl d2 m1 hos hfo (by omega)
    · cases he
  · cases he

theorem copy_eff (hr : Rel P β h w) {o : Oper} {ρ ρ' : Operand → Value} {c : Call} (ho : o.op = .call c) (hc : c.callee = .builtin .copy) (hm : VRA β (· < h.size) (c.args.map ρ) (c.args.map ρ'))
    {v : Value} {h1 : H} (he : cCopy P c.argTypes (c.args.map ρ) h = some (v, h1)) : EffOut P β h w o ρ' v h1 := by
  unfold cCopy at he
  split at he
  · rename_i dt base dLen dCap src ht0 ha0 ha1
    split at he
    · rename_i e hu
      split at he
      · cases he
      rename_i hg
      simp only [Bool.or_eq_true, not_or, Bool.not_eq_true'] at hg
      obtain ⟨g1, g2⟩ := hg
      obtain ⟨d', hd0, hd⟩ := hm.get ha0
      obtain ⟨x', hx0, hx⟩ := hm.get ha1
      cases hi : P.info? e with
      | none => simp [hi] at g1
      | some inf =>
      have hsz : szT P e = inf.size := by simp [szT, hi]
      cases hn : cLen src with
      | none => rw [hn] at he; simp at he
      | some n =>
      rw [hn] at he
      simp only [Option.bind_some] at he
      cases hcells : cCells src (Nat.min n dLen * szT P e) h with
      | none => rw [hcells] at he; simp at he
      | some new =>
      rw [hcells] at he
      simp only [Option.bind_some] at he
      have hrunE : ∀ {r : Value} {w1 : World}, (Builtin.copy_ #[dt] o.type #[d', x']).run P w = .ok r w1 → (execOp ρ' o).run P w = .ok (.value r) w1 := fun hh => run_builtin ho hc (by
        have : Builtin.copy_ c.argTypes o.type (c.args.map ρ') = Builtin.copy_ #[dt] o.type #[d', x'] := by simp only [Builtin.copy_, ht0, hd0, hx0]; rfl
        simp [builtin, this, hh])
      have hlen := lenOf_sim (P := P) hx hn w
      have hmin : Nat.min n dLen ≤ n := Nat.min_le_left _ _
      have hsrcl : ∀ b l c, src = .slice (some b) l c → Nat.min n dLen ≤ l := fun b l c hh => by subst hh; simp [cLen] at hn; omega
      have hfirst : ∃ new', VRA β (· < h.size) new new' ∧ (Builtin.firstCells inf.size (Nat.min n dLen) x').run P w = .ok new' w := by
        by_cases hp : 0 < szT P e
        · obtain ⟨new', q1, q2⟩ := first_sim (n := Nat.min n dLen) (s := szT P e) hr hx rfl hp (by simpa using g2) hsrcl hcells
          exact ⟨new', q1, by rw [← hsz]; exact q2⟩
        · obtain ⟨cs', q1, q2⟩ := cCells_sim (s := szT P e) hr hx (fun b o l c hh => by rw [show szT P e = 0 by omega]; exact ⟨by simp, .inr (by simp)⟩) hcells
          refine ⟨cs', q1, ?_⟩
          have hz : inf.size = 0 := by omega
          rw [hsz, hz, Nat.mul_zero] at q2
          rw [hz]
          cases hx with
          | any => simp [cLen] at hn
          | string b => simp [srcOk] at g2; omega
          | sliceNil l c =>
            have q2 : cs' = #[] := q2
            rw [q2]; simp [Builtin.firstCells]
          | slice b o l c a' cap' hk hh =>
            have q2 : (loadCells a' 0).run P w = .ok cs' w := q2
            simp only [Builtin.firstCells, Nat.mul_zero]; exact q2
          | _ => exact q2.elim
      obtain ⟨new', n1, n2⟩ := hfirst
      cases base with
      | none =>
        simp only [Option.some.injEq, Prod.mk.injEq] at he
        obtain ⟨rfl, rfl⟩ := he
        cases hd
        refine ⟨β, _, w, .inl (hrunE (r := .int .i64 (Nat.min n dLen : Nat)) ?_), .int _ _, hr, hr.refl⟩
        simp [Builtin.copy_, run_und hu, hlen, run_sizeOf' hi, n2, goInt]
      | some a =>
        obtain ⟨b, off, sp⟩ := a
        cases sp with
        | some => simp at he
        | none =>
          dsimp only at he
          cases hp : cPut' b off new.toList h with
          | none => simp [hp] at he
          | some h2 =>
            simp only [hp, Option.map_some, Option.some.injEq, Prod.mk.injEq] at he
            obtain ⟨rfl, rfl⟩ := he
            cases hd with
            | slice _ _ _ _ a' cap' hk hh =>
              have hput : ∃ w1, (storeCells a' new'.toList).run P w = .ok () w1 ∧ Rel P β h2 w1 ∧ Evo β h w β h2 w1 := by
                by_cases hnn : new.toList = []
                · have : new' = #[] := by
                    have h5 : new = #[] := by simpa using hnn
                    have := n1.size; rw [h5] at this
                    exact Array.eq_empty_of_size_eq_zero (by simpa using this)
                  rw [this]
                  rw [hnn] at hp
                  simp [cPut'] at hp
                  subst hp
                  exact ⟨w, rfl, hr, hr.refl⟩
                · have hlive : ∃ e1, β b = some e1 := by
                    unfold cPut' at hp
                    rw [if_neg (by simpa using hnn)] at hp
                    unfold cPut at hp
                    split at hp
                    · rename_i cs T k hb
                      obtain ⟨e1, _, _, h2, _⟩ := hr.cells hb
                      exact ⟨e1, h2⟩
                    · cases hp
                  obtain ⟨e1, hb1⟩ := hlive
                  obtain ⟨s0, s1, s2, s3⟩ := hh e1 hb1
                  refine cPut'_sim (a' := a') (cap' := cap') hr (fun e2 he2 hc0 => by rw [hb1] at he2; cases he2; exact s2 hc0) (fun _ => ?_) n1 hp
                  have h6 : new.size ≠ 0 := by intro hz; exact hnn (by simpa using hz)
                  have h7 : new.size ≤ Nat.min n dLen * szT P e := by
                    unfold cCells at hcells
                    split at hcells
                    · cases hcells; simp
                    · split at hcells
                      · split at hcells
                        · cases hcells; rw [Array.size_extract]; omega
                        · cases hcells
                      · cases hcells
                    · cases hcells
                      simp only [Array.size_map, ByteArray.size_data, ByteArray.size_extract]
                      omega
                    · cases hcells
                  have h8 : Nat.min n dLen ≠ 0 := by intro hz; rw [hz] at h7; simp at h7; exact h6 (by simp [h7])
                  have h9 : Nat.min n dLen ≤ dLen := Nat.min_le_right _ _
                  omega
              obtain ⟨w1, q1, q2, q3⟩ := hput
              refine ⟨β, _, w1, .inl (hrunE (r := .int .i64 (Nat.min n dLen : Nat)) ?_), .int _ _, q2, q3⟩
              simp [Builtin.copy_, run_und hu, hlen, run_sizeOf' hi, n2, goInt, q1]
    · cases he
  · cases he

theorem makeCells_afc {z : Array Value} (hz : z.all afc = true) (n : Nat) : ((Array.range n).map (fun x => z[x % z.size]!)).all afc = true := by
  rw [Array.all_eq_true']
  intro v hv
  simp only [Array.mem_map] at hv
  obtain ⟨i, _, rfl⟩ := hv
  by_cases hs : i % z.size < z.size
  · rw [getElem!_pos z _ hs]
    exact Array.all_eq_true'.1 hz _ (Array.getElem_mem hs)
  · rw [getElem!_neg z _ hs]; rfl

theorem zsel_afc {e : TypeId} (hz : zeroAf P e = true) (n : Nat) : (zsel P e n).all afc = true := by
  unfold zeroAf at hz
  unfold zsel
  split
  · simp
  · cases hzz : (P.info? e).bind (·.zero) with
    | none => simp
    | some z => rw [hzz] at hz; simpa using hz
theorem rowOf_afc {e : TypeId} (hz : zeroAf P e = true) (n : Nat) : (rowOf P e n).all afc = true := makeCells_afc (zsel_afc hz n) n
theorem map_range0 (f : Nat → Value) : (Array.range 0).map f = #[] := by simp [Array.range]
theorem run_zsel {e : TypeId} (hz : zeroAf P e = true) (n : Nat) (w : World) : ((if n = 0 then pure #[] else do pure (← zeroValue e).cells : Sem (Array Value))).run P w = .ok (zsel P e n) w := by
  unfold zsel
  by_cases hn : n = 0
  · simp [hn]
  · unfold zeroAf at hz
    cases hzz : (P.info? e).bind (·.zero) with
    | none => rw [hzz] at hz; cases hz
    | some z => simp [hn, run_zero hzz]

theorem makeSlice_eff (hr : Rel P β h w) {o : Oper} {ρ' : Operand → Value} {t e : TypeId} {l c : Operand} {kl kc : IntKind} {il ic : Int} (ho : o.op = .makeSlice t l c) (hu : P.underlying t = some (.slice e)) (hl : ρ' l = .int kl il) (hc : ρ' c = .int kc ic)
    (hinf : (P.info? e).isNone = false) (hz : zeroAf P e = true) (hb : 0 ≤ il ∧ il ≤ ic ∧ (((P.info? e).map (·.bytes)).getD 0 : Int) * ic ≤ 2 ^ 47 ∧ ic ≤ 9223372036854775807) :
    EffOut P β h w o ρ' (.slice (some ⟨h.size, 0, none⟩) il.toNat ic.toNat) (h.push (.cells (rowOf P e (ic.toNat * szT P e)) e .own)) := by
  cases hi : P.info? e with
  | none => simp [hi] at hinf
  | some inf =>
  have hsz : szT P e = inf.size := by simp [szT, hi]
  obtain ⟨b1, b2, b3, b4⟩ := hb
  obtain ⟨β', s1, s2, s3, s4⟩ := new_sim hr e (VRA.of_afc (rowOf_afc hz (ic.toNat * szT P e)))
  refine ⟨β', _, _, .inl ?_, s2 il.toNat ic.toNat (by omega), s3, s4⟩
  have w1 : IntKind.i64.wrap il = il := by simp [IntKind.wrap, IntKind.bits, IntKind.signed]; omega
  have w2 : IntKind.i64.wrap ic = ic := by simp [IntKind.wrap, IntKind.bits, IntKind.signed]; omega
  have hbytes : ¬ ((inf.bytes : Int) * ic > 2 ^ 48) := by rw [hi] at b3; simp at b3; omega
  have hbytes2 : ¬ ((281474976710656 : Int) < (inf.bytes : Int) * ic) := by omega
  unfold execOp
  simp only [ho, hl, hc]
  have e1 : ¬ ic < 0 := by omega
  have e2 : ¬ il < 0 := by omega
  have e3 : ¬ ic < il := by omega
  have hzc := run_zsel (P := P) hz (ic.toNat * inf.size) w
  have : (Instr.makeSlice t (.int kl il) (.int kc ic)).run P w = .ok (.slice (some ⟨w.heap.size, 0, none⟩) il.toNat ic.toNat) { w with heap := w.heap.push (.cells (rowOf P e (ic.toNat * szT P e)) e) } := by
    unfold Instr.makeSlice
    simp only [Sem.run_bind, run_und hu, Result.andThen_ok, asInt, asIntOf, Sem.run_pure, run_tinfo hi, w1, w2]
    have hq : ¬ ((inf.bytes : Int) * ic > 2 ^ 48) := hbytes
    have hc0 : (((decide (ic < 0) || decide ((inf.bytes : Int) * ic > 2 ^ 48)) || decide (il < 0)) || decide (il > ic)) = false := by
      rw [decide_eq_false e1, decide_eq_false hq, decide_eq_false e2, decide_eq_false (show ¬ il > ic from e3)]; rfl
    rw [if_neg (by rw [hc0]; decide)]
    simp only [Sem.run_bind, run_askRoom, Result.andThen_ok, run_sizeOf' hi]
    rw [hsz]
    unfold zeroAf at hz
    cases hzz : (P.info? e).bind (·.zero) with
    | none => rw [hzz] at hz; cases hz
    | some z =>
      by_cases hn : ic.toNat * inf.size = 0
      · simp [hn, newRow, rowOf, map_range0]
      · simp [hn, newRow, rowOf, zsel, run_zero hzz, hzz]
  simp [this]

theorem buildSlice_eff (hr : Rel P β h w) {o : Oper} {ρ ρ' : Operand → Value} {t e : TypeId} {n : Nat} {parts : Array (Nat × Operand)} {r : Array Value} (ho : o.op = .buildSlice t n parts) (hu : P.underlying t = some (.slice e))
    (hinf : (P.info? e).isNone = false) (hz : zeroAf P e = true) (hsm : ¬ 2 ^ 24 < n * szT P e) (hany : ∀ x ∈ parts, isAny (ρ x.2) = false) (hρ : ∀ x ∈ parts, VRh β h (ρ x.2) (ρ' x.2))
    (hf : Instr.fill (fun i => some (i * szT P e, szT P e)) (rowOf P e (n * szT P e)) (parts.map fun (i, x) => (i, ρ x)).toList = some r) :
    EffOut P β h w o ρ' (.slice (some ⟨h.size, 0, none⟩) n n) (h.push (.cells r e .own)) := by
  cases hi : P.info? e with
  | none => simp [hi] at hinf
  | some inf =>
  have hsz : szT P e = inf.size := by simp [szT, hi]
  obtain ⟨r', f1, f2⟩ := fill_vra (β := β) (K := (· < h.size)) (fun i => some (i * szT P e, szT P e)) (parts.map fun (i, x) => (i, ρ x)).toList (parts.map fun (i, x) => (i, ρ' x)).toList _ _ r (VRA.of_afc (rowOf_afc hz (n * szT P e))) (by simp)
    (fun y hy => by
      simp only [Array.toList_map, List.mem_map] at hy
      obtain ⟨q, hq, rfl⟩ := hy
      exact hany q (by simpa using hq))
    (VRL.of_get (by simp) fun i u u' h1 h2 => by
      simp only [Array.toList_map, List.map_map, List.getElem?_map, Option.map_eq_some_iff] at h1 h2
      obtain ⟨q, hq, rfl⟩ := h1
      obtain ⟨y, hy, rfl⟩ := h2
      rw [hq] at hy; cases hy
      exact hρ q (by simpa using List.mem_of_getElem? hq)) hf
  obtain ⟨β', s1, s2, s3, s4⟩ := new_sim hr e f2
  refine ⟨β', _, _, .inl ?_, s2 n n (Nat.le_refl _), s3, s4⟩
  unfold execOp
  simp only [ho]
  have : (Instr.buildSlice t n (parts.map fun (i, x) => (i, ρ' x))).run P w = .ok (.slice (some ⟨w.heap.size, 0, none⟩) n n) { w with heap := w.heap.push (.cells r' e) } := by
    unfold Instr.buildSlice
    rw [hsz] at hsm f1
    simp only [Sem.run_bind, run_und hu, Result.andThen_ok, run_sizeOf' hi]
    rw [if_neg (by omega)]
    have hzc := run_zsel (P := P) hz (n * inf.size) w
    unfold zeroAf at hz
    cases hzz : (P.info? e).bind (·.zero) with
    | none => rw [hzz] at hz; cases hz
    | some z =>
      by_cases hn : n * inf.size = 0
      · have hrow : rowOf P e (n * inf.size) = (Array.range (n * inf.size)).map fun x => (#[] : Array Value)[x % (#[] : Array Value).size]! := by simp [rowOf, zsel, hn]
        rw [hrow] at f1
        simp [hn, newRow] at f1 ⊢
        simp [f1]
      · have hrow : rowOf P e (n * inf.size) = (Array.range (n * inf.size)).map fun x => z.cells[x % z.cells.size]! := by simp [rowOf, zsel, hn, hzz]
        rw [hrow] at f1
        simp [hn, newRow, run_zero hzz] at f1 ⊢
        simp [f1]
  simp [this]

def frz (fr : Nat × Nat) (n : Nat) : Nat × Nat := if fr.1 == fr.2 then (n, n + 1) else (min fr.1 n, max fr.2 (n + 1))
theorem run_markStringish {a : Addr} {cs : Array Value} {T : TypeId} {fr : Nat × Nat} (hw : w.heap[a.block]? = some (.cells cs T fr)) :
    (markStringish a).run P w = .ok () { w with heap := w.heap.setIfInBounds a.block (.cells cs T (frz fr cs.size)) } := by
  have hs : w.shape? a.block = some (T, cs.size) := by simp [World.shape?, hw]
  have : w.freeze { block := a.block, off := cs.size } 1 = { w with heap := w.heap.setIfInBounds a.block (.cells cs T (frz fr cs.size)) } := by
    unfold World.freeze
    simp only [Nat.one_ne_zero, if_false]
    congr 1
    apply Array.ext_getElem?
    intro i
    rw [Array.getElem?_modify, Array.getElem?_setIfInBounds]
    split
    · rename_i hi; subst hi
      rw [if_pos (Array.getElem?_eq_some_iff.1 hw).1, hw]
      rfl
    · rfl
  simp [markStringish, hs, this]

theorem convert_eff (hr : Rel P β h w) {o : Oper} {ρ ρ' : Operand → Value} {s d : TypeId} {x : Operand} (ho : o.op = .convert s d x) (hx : VRh β h (ρ x) (ρ' x)) {call : CallF} {v : Value} {h1 : H}
    (he : evEff P call o ρ h = some (v, h1)) : EffOut P β h w o ρ' v h1 := by
  unfold evEff at he
  simp only [ho] at he
  have hrunE : ∀ {r : Value} {w1 : World}, (convert s d (ρ' x)).run P w = .ok r w1 → (execOp ρ' o).run P w = .ok (.value r) w1 := fun hh => by
    unfold execOp; simp only [ho]; simp [hh]
  split at he
  · rename_i sd e st hus hud hxv
    split at he
    · rename_i hu8
      split at he
      · rename_i hs1
        simp only [Option.some.injEq, Prod.mk.injEq] at he
        obtain ⟨rfl, rfl⟩ := he
        rw [hxv] at hx
        have hx' := vr_string hx
        have hpu := isU8_und hu8
        generalize hcap : (Question.appendCap st.size 0 e).cut (w.tape w.drawn (Question.appendCap st.size 0 e)) = cap
        have hcl : st.size ≤ cap := by rw [← hcap]; simp [Question.cut]
        generalize hbs : (st.data.map fun (b : UInt8) => Value.int .u8 b.toNat) = bs
        have hbsz : bs.size = st.size := by rw [← hbs]; simp
        have hcells : VRA β (· < h.size) bs bs := VRA.of_afc (by
          rw [Array.all_eq_true', ← hbs]
          intro v hv
          simp only [Array.mem_map] at hv
          obtain ⟨y, _, rfl⟩ := hv
          rfl)
        have hsz1 : (bs ++ Array.replicate (cap - st.size) (Value.int .u8 0)).size = cap := by
          simp [hbsz]; omega
        obtain ⟨β', q1, q2, q3⟩ := grown_sim (T := e) (fr := (cap, cap + 1)) (rest := Array.replicate (cap - st.size) (Value.int .u8 0)) hr hcells (.inr (by rw [hsz1]; exact Nat.le_refl _)) (w1 := { w with drawn := w.drawn + 1, heap := w.heap.push (.cells (bs ++ Array.replicate (cap - st.size) (Value.int .u8 0)) e (cap, cap + 1)) }) rfl rfl rfl rfl (n := st.size) (c := cap) (by omega) (by simp [hs1, hbsz]) (by rw [hsz1, hs1, Nat.mul_one])
        refine ⟨β', _, _, .inl (hrunE ?_), q1, q2, q3⟩
        rw [hx']
        have hms := run_markStringish (P := P) (w := { w with drawn := w.drawn + 1, heap := w.heap.push (.cells (bs ++ Array.replicate (cap - st.size) (Value.int .u8 0)) e) }) (a := ⟨w.heap.size, 0, none⟩) (cs := bs ++ Array.replicate (cap - st.size) (Value.int .u8 0)) (T := e) (fr := (0, 0)) (by simp)
        have hset : (w.heap.push (Obj.cells (bs ++ Array.replicate (cap - st.size) (Value.int .u8 0)) e)).setIfInBounds w.heap.size (.cells (bs ++ Array.replicate (cap - st.size) (Value.int .u8 0)) e (frz (0, 0) (bs ++ Array.replicate (cap - st.size) (Value.int .u8 0)).size)) = w.heap.push (.cells (bs ++ Array.replicate (cap - st.size) (Value.int .u8 0)) e (cap, cap + 1)) := by
          rw [hsz1]
          apply Array.ext_getElem?
          intro i
          rw [Array.getElem?_setIfInBounds, Array.getElem?_push, Array.getElem?_push]
          by_cases hi : w.heap.size = i
          · subst hi; simp [frz]
          · rw [if_neg hi, if_neg (by omega), if_neg (by omega)]
        have hconv : (Conv.stringToBytes e st).run P w = .ok (.slice (some ⟨w.heap.size, 0, none⟩) st.size cap) { w with drawn := w.drawn + 1, heap := w.heap.push (.cells (bs ++ Array.replicate (cap - st.size) (Value.int .u8 0)) e (cap, cap + 1)) } := by
          unfold Conv.stringToBytes
          simp only [Sem.run_bind, run_choose, Question.forced, Bool.false_eq_true, if_false, Result.andThen_ok, hcap, hbs, newRow, run_newObj, Sem.run_pure]
          rw [hms]
          simp only [Result.andThen_ok, hset]
        unfold convert
        cases sd <;> simp [run_und hus, run_und hud, run_und hpu, hconv]
      · cases he
    · cases he
  · rename_i es e b off n c hus hud hxv
    split at he
    · rename_i hcond
      obtain ⟨rfl, hu8, hn0⟩ := hcond
      have hpu := isU8_und hu8
      rw [hud] at hus
      cases hus
      rw [hxv] at hx
      obtain ⟨a', c', hx', hx2⟩ : ∃ a' c', ρ' x = .slice (some a') n c' ∧ (∀ e1, β b = some e1 → SliceOk e1 off n c a' c') := by
        revert hx; generalize ρ' x = y; intro hx
        cases hx with | slice _ _ _ _ a' cap' hk hh => exact ⟨a', cap', rfl, hh⟩
      have hrun2 : ∀ {w1 : World}, (markStringish a').run P w = .ok () w1 → (execOp ρ' o).run P w = .ok (.value (.slice (some a') n c')) w1 := fun hh => hrunE (by
        rw [hx']
        unfold convert
        simp [run_und hud, run_und hpu, hh])
      have main : ∀ {cs : Array Value} {T : TypeId} {k k2 : Kind}, h[b]? = some (.cells cs T k) → k ≠ .ro → (k = .own → k2 = .text) → (k ≠ .own → k2 = k) → h1 = h.setIfInBounds b (.cells cs T k2) → v = .slice (some ⟨b, off, none⟩) n c → EffOut P β h w o ρ' v h1 := by
        intro cs T k k2 hb hk1 hk2 hk3 hh1 hv
        subst hh1; subst hv
        obtain ⟨e1, cs', fr, b1, b2, b3⟩ := hr.cells hb
        obtain ⟨s0, s1, s2, s3⟩ := hx2 e1 b1
        have ha' := s2 (by omega)
        have hms := run_markStringish (P := P) (a := a') (by rw [ha']; exact b2)
        have hnro : ¬ roAt h b := by
          rintro ⟨q, q1, q2⟩
          rw [hb] at q1; cases q1
          revert hk1 q2
          cases k <;> simp [HObj.isRo]
        have hfz : (fr.1 = fr.2 ∨ cs'.size ≤ fr.1) → (frz fr cs'.size).1 = (frz fr cs'.size).2 ∨ cs'.size ≤ (frz fr cs'.size).1 := by
          intro hf
          unfold frz
          split
          · right; exact Nat.le_refl _
          · rename_i hne
            have : fr.1 ≠ fr.2 := by simpa using hne
            right; simp only; omega
        obtain ⟨r1, r2⟩ := hr.set (obj := .cells cs T k2) (o' := .cells cs' T (frz fr cs'.size)) (w' := { w with heap := w.heap.setIfInBounds e1.blk (.cells cs' T (frz fr cs'.size)) }) b1 hnro (by
          obtain ⟨c0, c1, c2, c3⟩ := b3
          refine ⟨rfl, c1, c2, ?_⟩
          cases k with
          | ro => exact absurd rfl hk1
          | own =>
            rw [hk2 rfl]; simp only at c3 ⊢
            exact ⟨c3.1, c3.2.1, c3.2.2.1, hfz (.inl (by rw [c3.2.2.2]))⟩
          | text => rw [hk3 (by simp)]; simp only at c3 ⊢; exact ⟨c3.1, c3.2.1, c3.2.2.1, hfz c3.2.2.2⟩
          | grown => rw [hk3 (by simp)]; simp only at c3 ⊢; exact ⟨c3.1, c3.2.1, hfz c3.2.2⟩) rfl rfl rfl rfl
        refine ⟨β, .slice (some a') n c', _, .inl (hrun2 hms), ?_, by rw [ha']; exact r1, by rw [ha']; exact r2⟩
        exact .slice _ _ _ _ _ _ (by simpa using lt_of_get hb) hx2
      split at he
      · rename_i cs T hb
        simp only [Option.some.injEq, Prod.mk.injEq] at he
        exact main hb (by simp) (by simp) (fun _ => rfl) (by rw [Array.set_self' _ _ _ hb]; exact he.2.symm) he.1.symm
      · rename_i cs T hb
        simp only [Option.some.injEq, Prod.mk.injEq] at he
        exact main hb (by simp) (by simp) (fun _ => rfl) (by rw [Array.set_self' _ _ _ hb]; exact he.2.symm) he.1.symm
      · rename_i cs T hb
        simp only [Option.some.injEq, Prod.mk.injEq] at he
        exact main (k2 := .text) hb (by simp) (fun _ => rfl) (by simp) he.2.symm he.1.symm
      · cases he
    · cases he
  · cases he

theorem ERL.find {K : Nat → Prop} {l l' : List MapEntry} (h : ERL β K l l') (f : Nat → Bool) : ∀ e, l.find? (fun x => f x.born) = some e → ∃ e', l'.find? (fun x => f x.born) = some e' ∧ VR β K e.key e'.key ∧ VR β K e.val e'.val := by
  induction h with
  | nil => intro e he; cases he
  | cons a a' l l' h1 h2 h3 t ih =>
    intro e he
    rw [List.find?_cons] at he ⊢
    rw [h3]
    cases hf : f a.born with
    | true =>
      rw [hf] at he
      cases he
      exact ⟨a', rfl, h1, h2⟩
    | false =>
      rw [hf] at he
      exact ih e he
theorem entry_eff (hr : Rel P β h w) {o : Oper} {ρ ρ' : Operand → Value} {it : Operand} (ho : o.op = .entry it) (hit : VRh β h (ρ it) (ρ' it)) {v : Value} (he : cEntry (ρ it) h = some v) : EffOut P β h w o ρ' v h := by
  have hrun : ∀ {r : Value} {w1 : World}, (Instr.entry (ρ' it)).run P w = .ok r w1 → (execOp ρ' o).run P w = .ok (.value r) w1 := by
    intro r w1 hh
    unfold execOp
    simp only [ho]
    simp [hh]
  unfold cEntry at he
  split at he
  · rename_i r hv
    split at he
    · rename_i m since seen last hb
      obtain ⟨e, hbe⟩ := Option.isSome_iff_exists.1 (hr.live r _ hb (by simp))
      obtain ⟨o1, o2, k1, k2, k3⟩ := hr.obj r e hbe
      rw [hb] at k1; cases k1
      cases o2 <;> simp only [ORel] at k3
      obtain ⟨km, k0, rfl, rfl, rfl⟩ := k3
      rename_i m0 since seen last
      have hp : ρ' it = .pointer (some ⟨e.blk, 0, none⟩) := by
        rw [hv] at hit
        revert hit; generalize ρ' it = y; intro hit
        cases hit with | ptr _ _ a' hk ha => rw [ha e hbe, k0]
      split at he
      · rename_i stamp es clock kd hs hbm
        obtain ⟨em, es', b1, b2, b3⟩ := hr.map hbm
        have hm0 : m0 = some em.blk := by cases km with | map _ r' hk hh => rw [hh em b1]
        subst hm0
        have herl : ERL β (· < h.size) es.toList es'.toList := ERL.of_get (by simpa using b3.2.1) (fun i a a' h1 h2 => b3.2.2 i a a' (by simpa using h1) (by simpa using h2))
        split at he
        · rename_i hc
          simp only [Option.map_eq_some_iff] at he
          obtain ⟨x, hx, rfl⟩ := he
          obtain ⟨x', hx', hk, hval⟩ := herl.find (fun n => n == stamp) x (by simpa [← Array.find?_toList] using hx)
          have hx2 : es'.find? (fun x => x.born == stamp) = some x' := by simpa [← Array.find?_toList] using hx'
          refine ⟨β, .tuple #[x'.key, x'.val], w, .inl (hrun ?_), .tuple _ _ (.cons _ _ _ _ hk (.cons _ _ _ _ hval .nil)), hr, hr.refl⟩
          rw [hp]
          simp only [Instr.entry, Sem.run_bind, run_getObj' k2 (by simp), Result.andThen_ok, hs, run_getObj' b2 (by simp), hc, bne_self_eq_false, Bool.false_eq_true, if_false, hx2]
          rfl
        · cases he
      · cases he
    · cases he
  · cases he
theorem evEff_sim (hr : Rel P β h w) {o : Oper} {ρ ρ' : Operand → Value} (hρ : ER β (· < h.size) o ρ ρ') {call : CallF} {v : Value} {h1 : H} (he : evEff P call o ρ h = some (v, h1)) :
    EffOut P β h w o ρ' v h1 ∨ ∃ g args args', call g args h = some (v, h1) ∧ VRA β (· < h.size) args args' ∧ (execOp ρ' o).run P w = .ok (.enter g args') w := by
  have he0 := he
  unfold evEff at he
  unfold ER at hρ
  split at he <;> rename_i hop <;> simp only [hop, Op.operands] at hρ
  · rename_i t
    split at he
    · rename_i hz; exact .inl (alloc_eff hr hop hz he)
    · cases he
  · rename_i t x
    split at he
    · cases he
    · rename_i hz
      simp only [Option.some.injEq] at he
      exact .inl (box_eff hr hop (hρ x (by simp)) (by simpa using hz) he)
  · rename_i t n parts
    split at he
    · rename_i e hu
      split at he
      · cases he
      · rename_i hg
        simp only [Bool.or_eq_true, not_or, Bool.not_eq_true, decide_eq_true_eq, Bool.not_eq_eq_eq_not, Bool.not_true] at hg
        obtain ⟨⟨⟨g1, g2⟩, g3⟩, g4⟩ := hg
        cases hf : Instr.fill (fun i => some (i * szT P e, szT P e)) (rowOf P e (n * szT P e)) (parts.map fun (i, x) => (i, ρ x)).toList with
        | none => rw [hf] at he; simp at he
        | some r =>
          rw [hf] at he
          simp only [Option.map_some, Option.some.injEq, Prod.mk.injEq] at he
          obtain ⟨rfl, rfl⟩ := he
          refine .inl (buildSlice_eff hr hop hu g1 (by simpa using g3) g2 (fun x hx => ?_) (fun x hx => hρ x.2 (by simp; exact ⟨x.1, hx⟩)) hf)
          refine Bool.eq_false_iff.2 fun hh => ?_
          have : (parts.map fun (_, x) => ρ x).any isAny = true := Array.any_eq_true'.2 ⟨ρ x.2, by simp; exact ⟨x.1, x.2, hx, rfl⟩, hh⟩
          rw [g4] at this; cases this
    · cases he
  · rename_i t
    simp only [Option.some.injEq, Prod.mk.injEq] at he
    obtain ⟨rfl, rfl⟩ := he
    exact .inl (makeMap_eff hr hop)
  · rename_i t l c
    split at he
    · rename_i e kl il kc ic hu hl hc
      split at he
      · cases he
      · rename_i hg
        simp only [Bool.or_eq_true, not_or, Bool.not_eq_true, Bool.not_eq_eq_eq_not, Bool.not_true] at hg
        split at he
        · rename_i hb
          simp only [Option.some.injEq, Prod.mk.injEq] at he
          obtain ⟨rfl, rfl⟩ := he
          have h1 := hρ l (by simp); rw [hl] at h1
          have h2 := hρ c (by simp); rw [hc] at h2
          exact .inl (makeSlice_eff hr hop hu (vr_int h1) (vr_int h2) hg.1 (by simpa using hg.2) hb)
        · cases he
    · cases he
  · rename_i t a x
    cases hs : cStore P t (ρ a) (ρ x) h with
    | none => rw [hs] at he; simp at he
    | some h2 =>
      rw [hs] at he
      simp only [Option.map_some, Option.some.injEq, Prod.mk.injEq] at he
      obtain ⟨rfl, rfl⟩ := he
      exact .inl (store_eff hr hop (hρ a (by simp)) (hρ x (by simp)) hs)
  · rename_i t m k x
    cases hs : cMapSet P t (ρ m) (ρ k) (ρ x) h with
    | none => rw [hs] at he; simp at he
    | some h2 =>
      rw [hs] at he
      simp only [Option.map_some, Option.some.injEq, Prod.mk.injEq] at he
      obtain ⟨rfl, rfl⟩ := he
      exact .inl (mapSet_eff hr (.inl hop) (hρ m (by simp)) (hρ k (by simp)) (hρ x (by simp)) hs)
  · rename_i t m k x
    cases hs : cMapSet P t (ρ m) (ρ k) (ρ x) h with
    | none => rw [hs] at he; simp at he
    | some h2 =>
      rw [hs] at he
      simp only [Option.map_some, Option.some.injEq, Prod.mk.injEq] at he
      obtain ⟨rfl, rfl⟩ := he
      exact .inl (mapSet_eff hr (.inr hop) (hρ m (by simp)) (hρ k (by simp)) (hρ x (by simp)) hs)
  · rename_i t x
    exact .inl (iter_eff hr hop (hρ x (by simp)) he)
  · rename_i it s
    exact .inl (next_eff hr hop (hρ it (by simp)) he)
  · rename_i it
    simp only [Option.map_eq_some_iff, Prod.mk.injEq] at he
    obtain ⟨u, hu, rfl, rfl⟩ := he
    exact .inl (entry_eff hr hop (hρ it (by simp)) hu)
  · rename_i s d x
    exact .inl (convert_eff hr hop (hρ x (by simp)) he0)
  · rename_i c
    have hm : VRA β (· < h.size) (c.args.map ρ) (c.args.map ρ') := map_vra fun x hx => hρ x (by simp [Call.operands, hx])
    split at he
    · rename_i hc; exact .inl (append_eff hr hop hc hm he)
    · rename_i hc; exact .inl (copy_eff hr hop hc hm he)
    · rename_i hc
      split at he
      · rename_i t m k ht hm0 hk0
        cases hs : cDelete P t m k h with
        | none => rw [hs] at he; simp at he
        | some h2 =>
          rw [hs] at he
          simp only [Option.map_some, Option.some.injEq, Prod.mk.injEq] at he
          obtain ⟨rfl, rfl⟩ := he
          obtain ⟨m', q1, q2⟩ := hm.get hm0
          obtain ⟨k', q3, q4⟩ := hm.get hk0
          exact .inl (delete_eff hr hop hc ht q1 q3 q2 q4 hs)
      · cases he
    · rename_i hc
      split at he
      · rename_i t x ht hx0
        cases hs : cClear P t x h with
        | none => rw [hs] at he; simp at he
        | some h2 =>
          rw [hs] at he
          simp only [Option.map_some, Option.some.injEq, Prod.mk.injEq] at he
          obtain ⟨rfl, rfl⟩ := he
          obtain ⟨x', q1, q2⟩ := hm.get hx0
          exact .inl (clear_eff hr hop hc ht q1 q2 hs)
      · cases he
    · rename_i f hc
      split at he
      · rename_i g first captured hfv
        split at he
        · rename_i hcal
          have hfr := hρ f (by simp [Call.operands, hc])
          rw [hfv] at hfr
          obtain ⟨f', c', hf', q1, q2⟩ := vr_func_inv hfr
          refine .inr ⟨g, _, f' ++ c.args.map ρ' ++ c', he, (q1.append hm).append q2, ?_⟩
          unfold callable at hcal
          cases hfn : P.funcs[g]? with
          | none => rw [hfn] at hcal; cases hcal
          | some fn =>
            rw [hfn] at hcal
            simp only [Bool.and_eq_true, bne_iff_ne] at hcal
            obtain ⟨hnm, hbs⟩ := hcal
            obtain ⟨bd, hbd⟩ := Option.isSome_iff_exists.1 hbs
            unfold execOp
            simp only [hop, resolve, hc]
            simp [Deferred.ofValue, hf', invoke, callFunc, hfn, hnm, hbd]
        · cases he
      · cases he
    · cases he
  · cases he
end
end Go.Am
