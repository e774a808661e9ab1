/- What operations answer on a heap whose blocks are known: loads, stores, maps by whole numbers, rows that grow. -/
import Derived.Test.YtfmikgbachnneaaDoorAm16
set_option linter.unusedSimpArgs false
set_option linter.unusedVariables false
namespace Go.Am

/-- A proof that simp does not take for one by definition. -/
theorem nrfl {α : Sort _} {a b : α} (h : a = b) : a = b := Classical.byContradiction fun k => k h
theorem bd1_n {R : Type} {v : Value} {k : Value → Option R} : bd1 (some v) k = k v := nrfl rfl
theorem bd2_n {R : Type} {v : Value} {h : H} {k : Value → H → Option R} : bd2 (some (v, h)) k = k v h := nrfl rfl
theorem ifV_t {R : Type} {x y : Option R} : ifV (.bool true) x y = x := nrfl rfl
theorem ifV_f {R : Type} {x y : Option R} : ifV (.bool false) x y = y := nrfl rfl
def ld1 (o : Option HObj) (i : Nat) : Option Value := match o with
  | some (.cells cs _ _) => cs[i]?
  | _ => none
def lda (o : Option HObj) (i n : Nat) : Option Value := match o with
  | some (.cells cs _ _) => if i + n ≤ cs.size then some (.agg (cs.extract i (i + n))) else none
  | _ => none
def mlen (o : Option HObj) : Option Value := match o with
  | some (.map es _ _) => some (.int .i64 es.size)
  | _ => none
def stA (h : H) (b o : Nat) (vs : List Value) : Option (Value × H) := match h[b]? with
  | some (.cells cs T k) => if k = .ro ∨ ¬ o + vs.length ≤ cs.size then none else some (undef, h.setIfInBounds b (.cells (putL cs o vs) T k))
  | _ => none
theorem ld1_some {cs : Array Value} {T : TypeId} {k : Kind} {i : Nat} : ld1 (some (.cells cs T k)) i = cs[i]? := nrfl rfl
theorem lda_full {cs : Array Value} {T : TypeId} {k : Kind} {n : Nat} (hn : cs.size = n) : lda (some (.cells cs T k)) 0 n = some (.agg cs) := by
  subst hn
  simp [lda]
theorem lda_some {cs : Array Value} {T : TypeId} {k : Kind} {i n : Nat} (hn : i + n ≤ cs.size) : lda (some (.cells cs T k)) i n = some (.agg (cs.extract i (i + n))) := by simp [lda, hn]
theorem mlen_some {es : Array MapEntry} {c : Nat} {k : Kind} : mlen (some (.map es c k)) = some (.int .i64 es.size) := nrfl rfl
theorem stA_some {h : H} {b o : Nat} {vs : List Value} {cs : Array Value} {T : TypeId} {k : Kind} (hb : h[b]? = some (.cells cs T k)) (hk : k ≠ .ro) (hl : o + vs.length ≤ cs.size) :
    stA h b o vs = some (undef, h.setIfInBounds b (.cells (putL cs o vs) T k)) := by
  unfold stA
  rw [hb]
  simp only [if_neg (show ¬ (k = .ro ∨ ¬ o + vs.length ≤ cs.size) by simp [hk, hl])]

def oneT (P : Program) (T : TypeId) : Bool := match P.underlying T, P.info? T with
  | some (.struct _), _ => false
  | some (.array _ _), _ => false
  | some _, some _ => true
  | _, _ => false
def aggT (P : Program) (T : TypeId) (n : Nat) : Bool := match P.underlying T, P.info? T with
  | some (.struct _), some i => i.size == n
  | some (.array _ _), some i => i.size == n
  | _, _ => false
section
variable {P : Program} {call : CallF} {T ty : TypeId} {b o n : Nat} {h : H}
theorem ld_ld1 (h1 : oneT P T = true) : vR P (.load T (.const (.pointer (some ⟨b, o, none⟩)))) ty h = ld1 h[b]? o := by
  show cLoad P T (.pointer (some ⟨b, o, none⟩)) h = _
  unfold oneT at h1
  unfold cLoad ld1
  simp only
  cases h[b]? with
  | none => rfl
  | some ob =>
    cases ob <;> try rfl
    simp only
    cases hd : P.underlying T with
    | none => rw [hd] at h1; simp at h1
    | some d =>
      cases hi : P.info? T with
      | none => rw [hd, hi] at h1; cases d <;> simp at h1
      | some i => rw [hd, hi] at h1; cases d <;> first | rfl | simp at h1
theorem ld_lda (h1 : aggT P T n = true) : vR P (.load T (.const (.pointer (some ⟨b, o, none⟩)))) ty h = lda h[b]? o n := by
  show cLoad P T (.pointer (some ⟨b, o, none⟩)) h = _
  unfold aggT at h1
  unfold cLoad lda
  simp only
  cases h[b]? with
  | none => rfl
  | some ob =>
    cases ob <;> try rfl
    simp only
    cases hd : P.underlying T with
    | none => rw [hd] at h1; simp at h1
    | some d =>
      cases hi : P.info? T with
      | none => rw [hd, hi] at h1; cases d <;> simp at h1
      | some i =>
        rw [hd, hi] at h1
        cases d <;> first | (simp only [beq_iff_eq] at h1; subst h1; rfl) | simp at h1
theorem st_stA {v : Value} {vs : List Value} (h1 : (szT P T == vs.length) = true) (h2 : (P.info? T).isNone = false) (h3 : isAny v = false) (h4 : v.cells.toList = vs) (h5 : vs.all oc = true) :
    vE P call (.store T (.const (.pointer (some ⟨b, o, none⟩))) (.const v)) ty h = stA h b o vs := by
  show (cStore P T (.pointer (some ⟨b, o, none⟩)) v h).map (undef, ·) = _
  have hs : v.cells.size = vs.length := by rw [← h4, Array.length_toList]
  simp only [beq_iff_eq] at h1
  unfold cStore stA
  simp only [h3, hs, h1, h2, h4]
  rw [if_neg (by simp)]
  unfold cPut
  cases h[b]? with
  | none => rfl
  | some ob =>
    cases ob <;> try rfl
    simp only [h5, Bool.true_eq_false, false_or]
    split <;> rfl
theorem ln_mlen {m : Nat} (hT : (match P.underlying T with | some (.map _ _) => true | _ => false) = true) : vR P (.call ⟨.builtin .len, #[(.const (.map (some m)))], #[T]⟩) ty h = mlen h[m]? := by
  split at hT <;> first | cases hT | skip
  rename_i hu
  show evRead P (opr _ _) evalConst h = _
  simp [evRead, opr, evalConst, hu, cEntries, mlen]
  split <;> split <;> simp_all
theorem vP_indexAddrA {k : IntKind} {e : TypeId} {inf : TypeInfo} {i : Int} (ha : P.underlying T = some (.array n e)) (hi : P.info? e = some inf) (h0 : 0 ≤ i) (h1 : i < n) :
    vP P (.indexAddr T (.const (.pointer (some ⟨b, o, none⟩))) (.const (.int k i))) ty = some (.pointer (some ⟨b, o + i.toNat * inf.size, none⟩)) := by
  have h : 0 ≤ i ∧ i < (n : Int) := ⟨h0, h1⟩
  simp [vP, evPure, opr, evalConst, Instr.indexAt, asIntOf, quiet_sureAddr, quiet_bind, quiet_map, quiet_underlying, quiet_sizeOf, ha, hi, h, Addr.add]
theorem vP_extract {c : Array Value} {i : Nat} : vP P (.extract (.const (.tuple c)) i) ty = c[i]? := by
  show quiet P (Instr.extract (.tuple c) i) = _
  unfold Instr.extract
  cases hc : c[i]? <;> simp [quiet, hc, pure] <;> rfl
theorem vP_nilCheck {a : Addr} : vP P (.nilCheck (.const (.pointer (some a)))) ty = some (.pointer (some a)) := nrfl rfl
end

/-! ### heaps -/
section
variable {h : H} {b c : Nat} {x : HObj}
theorem gp1 : (h.push x)[h.size]? = some x := by simp
theorem gp2 (hb : b < h.size) : (h.push x)[b]? = h[b]? := by rw [Array.getElem?_push, if_neg (Nat.ne_of_lt hb)]
theorem gs1 (hb : b < h.size) : (h.setIfInBounds b x)[b]? = some x := by simp [hb]
theorem gs2 (hb : b ≠ c) : (h.setIfInBounds b x)[c]? = h[c]? := by simp [hb]
theorem lt_get {o : HObj} (hb : h[b]? = some o) : b < h.size := (Array.getElem?_eq_some_iff.1 hb).1
theorem ne_of_get {o o' : HObj} (hb : h[b]? = some o) (hc : h[c]? = some o') (hn : o ≠ o') : b ≠ c := by rintro rfl; rw [hb] at hc; cases hc; exact hn rfl
theorem ext_set_both {g : H} (he : Ext h g) {i : Nat} (o : HObj) : Ext (h.setIfInBounds i o) (g.setIfInBounds i o) := by
  refine ⟨by simpa using he.size, fun j hj => ?_⟩
  rw [Array.size_setIfInBounds] at hj
  have := he.get j hj
  have hs := he.size
  rw [Array.getElem?_setIfInBounds, Array.getElem?_setIfInBounds, this]
  split
  · simp only [show i < h.size by omega, show i < g.size by omega, if_true]
  · rfl
end
/-- What stays: all that p names. -/
structure Keep (p : HObj → Bool) (h h' : H) : Prop where
  size : h.size ≤ h'.size
  get : ∀ (b : Nat) (o : HObj), h[b]? = some o → p o = true → h'[b]? = some o
theorem Keep.refl (p : HObj → Bool) (h : H) : Keep p h h := ⟨Nat.le_refl _, fun _ _ h _ => h⟩
theorem Keep.trans {p : HObj → Bool} {a b c : H} (h1 : Keep p a b) (h2 : Keep p b c) : Keep p a c := ⟨Nat.le_trans h1.size h2.size, fun i o hi hp => h2.get i o (h1.get i o hi hp) hp⟩
theorem Keep.push {p : HObj → Bool} {a b : H} (h1 : Keep p a b) (x : HObj) : Keep p a (b.push x) := ⟨by rw [Array.size_push]; exact Nat.le_succ_of_le h1.size, fun i o hi hp => by
  have := h1.get i o hi hp
  rw [gp2 (lt_get this)]; exact this⟩
theorem Keep.set {p : HObj → Bool} {a b : H} (h1 : Keep p a b) {i : Nat} {o : HObj} (hi : b[i]? = some o) (hp : p o = false) (x : HObj) : Keep p a (b.setIfInBounds i x) := ⟨by simpa using h1.size, fun j y hj hy => by
  have := h1.get j y hj hy
  rw [gs2]; exact this
  rintro rfl
  rw [hi] at this; cases this
  rw [hp] at hy; cases hy⟩
/-- A block made since. -/
theorem Keep.setNew {p : HObj → Bool} {a b : H} (h1 : Keep p a b) {i : Nat} (hi : a.size ≤ i) (x : HObj) : Keep p a (b.setIfInBounds i x) := ⟨by simpa using h1.size, fun j y hj hy => by
  have := h1.get j y hj hy
  rw [gs2]; exact this
  rintro rfl
  have := lt_get hj
  omega⟩
theorem Keep.of_ext {p : HObj → Bool} {a b : H} (h : Ext a b) : Keep p a b := ⟨h.size, fun _ _ hb _ => h.some hb⟩
theorem Keep.weaken {p q : HObj → Bool} {a b : H} (h : Keep p a b) (hq : ∀ o, q o = true → p o = true) : Keep q a b := ⟨h.size, fun i o hi ho => h.get i o hi (hq o ho)⟩

/-! ### values that are equal to themselves -/
def gvc : Value → Bool
  | .bool _ | .int .. | .string _ | .pointer _ | .slice .. | .map _ | .nilFunc | .nilIface => true
  | _ => false
def gv : Value → Bool
  | .agg cs => cs.toList.all gvc
  | .tuple cs => cs.toList.all gvc
  | v => gvc v
theorem veqc_self {v : Value} (h : gvc v = true) : veqc v v = true := by
  cases v <;> first | (simp [gvc] at h; done) | simp [veqc]
theorem veqs_self : ∀ {l : List Value}, l.all gvc = true → veqs l l = true
  | [], _ => rfl
  | a :: l, h => by
    simp only [List.all_cons, Bool.and_eq_true] at h
    simp only [veqs, veqc_self h.1, veqs_self h.2, Bool.and_self]
theorem veq_self {v : Value} (h : gv v = true) : veq v v = true := by
  cases v with
  | agg c => exact veqs_self h
  | tuple c => exact veqs_self h
  | _ => simp only [gv] at h; simp only [veq]; exact veqc_self h
theorem same_self {R : Type} {v : Value} {k : Option R} (h : gv v = true) : same (some v) v k = k := same_eq (veq_self h)

/-! ### maps by whole numbers -/
abbrev Ent := Int × Value × Nat
def mkE1 (e : Ent) : MapEntry := { key := .int .i64 e.1, val := e.2.1, born := e.2.2 }
def mkE (l : List Ent) : Array MapEntry := (l.map mkE1).toArray
def lget (l : List Ent) (n : Int) : Option Value := (l.find? fun e => e.1 == n).map (·.2.1)
theorem findNow_int (n : Int) : ∀ (l : List Ent) (i : Nat), Instr.findNow (.int .i64) (.int .i64 n) (l.map mkE1) i = some ((l.findIdx? fun e => e.1 == n).bind fun j => (l[j]?).map fun e => (i + j, e.2.1))
  | [], i => rfl
  | e :: l, i => by
    simp only [List.map_cons, Instr.findNow, mkE1, Instr.sameNow, if_true]
    by_cases h : n = e.1
    · simp [h, List.findIdx?_cons]
    · rw [beq_eq_false_iff_ne.2 h]
      simp only
      rw [findNow_int n l (i + 1)]
      rw [List.findIdx?_cons, beq_eq_false_iff_ne.2 (Ne.symm h)]
      simp only [Bool.false_eq_true, if_false]
      cases List.findIdx? (fun e => e.1 == n) l with
      | none => simp
      | some j => simp [Nat.add_assoc, Nat.add_comm 1 j]
theorem idx_find {α : Type} (p : α → Bool) : ∀ (l : List α), (l.findIdx? p).bind (fun j => l[j]?) = l.find? p
  | [] => rfl
  | a :: l => by
    rw [List.findIdx?_cons, List.find?_cons]
    by_cases h : p a
    · simp [h]
    · have hh : p a = false := by simpa using h
      rw [hh]
      simp only [Bool.false_eq_true, if_false]
      rw [← idx_find p l]
      cases List.findIdx? p l <;> simp
theorem isPtrT_int {P : Program} {kt : TypeId} (hk : P.underlying kt = some (.int .i64)) : isPtrT P kt = false := by unfold isPtrT; rw [hk]
theorem quiet_checkKey_int {P : Program} {kt : TypeId} {b : Bool} {n : Int} (hk : P.underlying kt = some (.int .i64)) : quiet P (Instr.checkKey b 10000 kt (.int .i64 n)) = some () := by
  rw [show (10000 : Nat) = 9999 + 1 from rfl]
  unfold Instr.checkKey
  simp [quiet_bind, quiet_underlying, hk, quiet, pure]
theorem cFind_int {P : Program} {kt : TypeId} {h : H} {n : Int} {l : List Ent} (hk : P.underlying kt = some (.int .i64)) :
    cFind P kt (.int .i64 n) (mkE l) h = some ((l.findIdx? fun e => e.1 == n).bind fun j => (l[j]?).map fun e => (j, e.2.1)) := by
  unfold cFind
  rw [isPtrT_int hk, quiet_checkKey_int hk, hk]
  simp only [afc, Bool.not_false, Bool.and_self, if_true]
  show Instr.findNow (.int .i64) (.int .i64 n) (mkE l).toList 0 = _
  rw [show (mkE l).toList = l.map mkE1 from rfl, findNow_int]
  simp
section
variable {P : Program} {call : CallF} {T kt et ty : TypeId} {h : H} {m c : Nat} {l : List Ent} {n : Int} {kd : Kind} {z : Value}
theorem cLookup_int (hT : P.underlying T = some (.map kt et)) (hk : P.underlying kt = some (.int .i64)) (hz : zeroAf P et = true) (hzv : ((P.info? et).bind (·.zero)) = some z) (hm : h[m]? = some (.map (mkE l) c kd)) (ok : Bool) :
    cLookup P T (.map (some m)) (.int .i64 n) ok h = some (match lget l n with | some v => if ok then .tuple #[v, .bool true] else v | none => if ok then .tuple #[z, .bool false] else z) := by
  unfold cLookup
  simp only [hT, cEntries, hm, Option.bind_some, cFind_int hk]
  have := idx_find (fun e : Ent => e.1 == n) l
  unfold lget
  rw [← this]
  cases hf : l.findIdx? (fun e => e.1 == n) with
  | none => simp [hz, hzv]
  | some j =>
    simp only [Option.bind_some]
    cases hj : l[j]? with
    | none =>
      have := (List.findIdx?_eq_some_iff_getElem.1 hf).1
      rw [List.getElem?_eq_getElem this] at hj; cases hj
    | some e => simp
theorem vR_lookup_ok (hT : P.underlying T = some (.map kt et)) (hk : P.underlying kt = some (.int .i64)) (hz : zeroAf P et = true) (hzv : ((P.info? et).bind (·.zero)) = some z) (hm : h[m]? = some (.map (mkE l) c kd)) :
    vR P (.lookup T (.const (.map (some m))) (.const (.int .i64 n)) true) ty h = some (.tuple #[(lget l n).getD z, .bool (lget l n).isSome]) := by
  show cLookup P T (.map (some m)) (.int .i64 n) true h = _
  rw [cLookup_int hT hk hz hzv hm true]
  cases lget l n <;> rfl
theorem vR_lookup (hT : P.underlying T = some (.map kt et)) (hk : P.underlying kt = some (.int .i64)) (hz : zeroAf P et = true) (hzv : ((P.info? et).bind (·.zero)) = some z) (hm : h[m]? = some (.map (mkE l) c kd)) :
    vR P (.lookup T (.const (.map (some m))) (.const (.int .i64 n)) false) ty h = some ((lget l n).getD z) := by
  show cLookup P T (.map (some m)) (.int .i64 n) false h = _
  rw [cLookup_int hT hk hz hzv hm false]
  cases lget l n <;> rfl
/-- A key that was not there. -/
theorem vE_mapNew (hT : P.underlying T = some (.map kt et)) (hk : P.underlying kt = some (.int .i64)) (hm : h[m]? = some (.map (mkE l) c kd)) (hkd : kd ≠ .ro) (hn : ∀ e ∈ l, e.1 ≠ n) {v : Value} :
    vE P call (.mapUpdate T (.const (.map (some m))) (.const (.int .i64 n)) (.const v)) ty h = some (undef, h.setIfInBounds m (.map (mkE (l ++ [(n, v, c)])) (c + 1) kd)) := by
  show (cMapSet P T (.map (some m)) (.int .i64 n) v h).map (undef, ·) = _
  unfold cMapSet
  simp only [hT, hm, if_neg hkd, quiet_checkKey_int hk, cFind_int hk]
  have hf : l.findIdx? (fun e => e.1 == n) = none := by
    rw [List.findIdx?_eq_none_iff]
    intro e he
    simpa using hn e he
  rw [hf]
  simp only [Option.bind_none, Option.map_some]
  have : (mkE l).push { key := .int .i64 n, val := v, born := c } = mkE (l ++ [(n, v, c)]) := by
    unfold mkE; simp [mkE1]
  rw [this]
theorem map_eraseIdx' {α γ : Type} (f : α → γ) : ∀ (l : List α) (j : Nat), (l.map f).eraseIdx j = (l.eraseIdx j).map f
  | [], _ => rfl
  | _ :: _, 0 => rfl
  | a :: l, j + 1 => by simp only [List.map_cons, List.eraseIdx_cons_succ, map_eraseIdx' f l j]
theorem eraseIdx_findIdx {α : Type} (p : α → Bool) : ∀ (l : List α) (j : Nat), l.findIdx? p = some j → l.eraseIdx j = l.eraseP p
  | [], j, h => by simp at h
  | a :: l, j, h => by
    rw [List.findIdx?_cons] at h
    by_cases hp : p a
    · rw [if_pos hp] at h; cases h; simp [hp]
    · rw [if_neg hp] at h
      simp only [Option.map_eq_some_iff] at h
      obtain ⟨i, hi, rfl⟩ := h
      rw [List.eraseIdx_cons_succ, eraseIdx_findIdx p l i hi, List.eraseP_cons_of_neg hp]
theorem vE_delete {mt : TypeId} (hT : P.underlying mt = some (.map kt et)) (hk : P.underlying kt = some (.int .i64)) (hm : h[m]? = some (.map (mkE l) c kd)) (hkd : kd ≠ .ro) {ats : Array TypeId} (hats : ats[0]? = some mt) :
    vE P call (.call ⟨.builtin .delete, #[(.const (.map (some m))), (.const (.int .i64 n))], ats⟩) ty h = some (.tuple #[], h.setIfInBounds m (.map (mkE (l.eraseP fun e => e.1 == n)) c kd)) := by
  have : cDelete P mt (.map (some m)) (.int .i64 n) h = some (h.setIfInBounds m (.map (mkE (l.eraseP fun e => e.1 == n)) c kd)) := by
    unfold cDelete
    simp only [hT, hm, if_neg hkd, cFind_int hk]
    cases hf : l.findIdx? (fun e => e.1 == n) with
    | none =>
      simp only [Option.bind_none]
      rw [List.eraseP_of_forall_not]
      intro e he
      rw [List.findIdx?_eq_none_iff] at hf
      simpa using hf e he
    | some j =>
      have hj := (List.findIdx?_eq_some_iff_getElem.1 hf).1
      simp only [Option.bind_some, List.getElem?_eq_getElem hj, Option.map_some]
      congr 3
      unfold mkE
      rw [← eraseIdx_findIdx _ l j hf]
      apply Array.ext'
      rw [Array.eraseIdxIfInBounds, dif_pos (by simpa using hj)]
      simp [map_eraseIdx']
  simp [vE, evEff, opr, evalConst, hats, this]
end
end Go.Am
