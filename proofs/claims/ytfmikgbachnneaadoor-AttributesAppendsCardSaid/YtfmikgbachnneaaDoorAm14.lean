/- Walking through printed texts: what the operations answer. -/
import Derived.Test.YtfmikgbachnneaaDoorAm13
set_option linter.unusedSimpArgs false
set_option linter.unusedVariables false
namespace Go.Am

def Run (o : Option (Value × H)) (Q : Value → H → Prop) : Prop := ∃ v h, o = some (v, h) ∧ Q v h
theorem Run.mono {o : Option (Value × H)} {Q Q' : Value → H → Prop} (h : Run o Q) (hQ : ∀ v h, Q v h → Q' v h) : Run o Q' := let ⟨v, g, h1, h2⟩ := h; ⟨v, g, h1, hQ v g h2⟩
theorem run_some {v : Value} {h : H} {Q : Value → H → Prop} : Run (some (v, h)) Q ↔ Q v h :=
  ⟨fun ⟨_, _, h1, h2⟩ => by cases h1; exact h2, fun h2 => ⟨v, h, rfl, h2⟩⟩
theorem run_bd1 {v : Value} {k : Value → Option (Value × H)} {Q : Value → H → Prop} : Run (bd1 (some v) k) Q ↔ Run (k v) Q := Iff.rfl
theorem bd1_eq {R : Type} {v : Value} {k : Value → Option R} : bd1 (some v) k = k v := rfl
theorem bd2_eq {R : Type} {v : Value} {h : H} {k : Value → H → Option R} : bd2 (some (v, h)) k = k v h := rfl
theorem run_bd2 {o : Option (Value × H)} {k : Value → H → Option (Value × H)} {Q : Value → H → Prop} (h : Run o fun v h => Run (k v h) Q) : Run (bd2 o k) Q := by
  obtain ⟨v, g, rfl, h2⟩ := h
  exact h2
theorem ifV_true {R : Type} {x y : Option R} : ifV (.bool true) x y = x := rfl
theorem ifV_false {R : Type} {x y : Option R} : ifV (.bool false) x y = y := rfl
theorem run_ifV {b : Bool} {x y : Option (Value × H)} {Q : Value → H → Prop} (h1 : b = true → Run x Q) (h2 : b = false → Run y Q) : Run (ifV (.bool b) x y) Q := by
  cases b
  · exact h2 rfl
  · exact h1 rfl
theorem same_eq {R : Type} {u v : Value} {k : Option R} (hv : veq u v = true) : same (some u) v k = k := by simp [same, hv]

theorem run_loop {P : Program} {call : CallF} {c body : Code} {a : Act} {h : H} {k : Exit → Act → H → Option (Value × H)} {Q : Value → H → Prop} (heq : c = .loop body)
    (he : Run (kCode P call body a h (again P call body k)) Q) : Run (kCode P call c a h k) Q := by
  subst heq
  obtain ⟨v, g, h1, h2⟩ := he
  exact ⟨v, g, loop_again h1, h2⟩

/-- What does not change: the blocks that were there. -/
structure Ext (h h' : H) : Prop where
  size : h.size ≤ h'.size
  get : ∀ b, b < h.size → h'[b]? = h[b]?
theorem Ext.refl (h : H) : Ext h h := ⟨Nat.le_refl _, fun _ _ => rfl⟩
theorem Ext.trans {a b c : H} (h1 : Ext a b) (h2 : Ext b c) : Ext a c := ⟨Nat.le_trans h1.size h2.size, fun i hi => (h2.get i (Nat.lt_of_lt_of_le hi h1.size)).trans (h1.get i hi)⟩
theorem Ext.push {a b : H} (h1 : Ext a b) (o : HObj) : Ext a (b.push o) := ⟨by rw [Array.size_push]; exact Nat.le_succ_of_le h1.size, fun i hi => by
  rw [Array.getElem?_push, if_neg (Nat.ne_of_lt (Nat.lt_of_lt_of_le hi h1.size))]; exact h1.get i hi⟩
theorem Ext.some {h h' : H} (he : Ext h h') {b : Nat} {o : HObj} (hb : h[b]? = some o) : h'[b]? = some o := by
  rw [he.get b (Array.getElem?_eq_some_iff.1 hb).1]; exact hb
/-- A block made since may change. -/
theorem Ext.set {a b : H} (h1 : Ext a b) {i : Nat} (hi : a.size ≤ i) (o : HObj) : Ext a (b.setIfInBounds i o) := ⟨by simpa using h1.size, fun j hj => by
  rw [Array.getElem?_setIfInBounds, if_neg (by omega)]; exact h1.get j hj⟩

theorem get_push_self (h : H) (o : HObj) : (h.push o)[h.size]? = some o := by simp
theorem get_push_of {h : H} {o x : HObj} {b : Nat} (hb : h[b]? = some x) : (h.push o)[b]? = some x := (Ext.push (Ext.refl h) o).some hb

theorem quiet_map {α β : Type} {P : Program} (f : α → β) (s : Sem α) : quiet P (f <$> s) = (quiet P s).map f := by
  rw [map_eq_pure_bind, quiet_bind]
  cases quiet P s <;> rfl
section
variable {P : Program} {call : CallF} {k : IntKind} {x y : Int} {t u ty : TypeId} {h : H}
theorem vP_lss : vP P (.binOp .lss t (.const (.int k x)) (.const (.int k y)) u) ty = some (.bool (decide (x < y))) := by
  simp [vP, evPure, opr, evalConst, af, afc, binOp, Op.intCmp, quiet, keepAf, pure]
theorem vP_leq : vP P (.binOp .leq t (.const (.int k x)) (.const (.int k y)) u) ty = some (.bool (decide (x ≤ y))) := by
  simp [vP, evPure, opr, evalConst, af, afc, binOp, Op.intCmp, quiet, keepAf, pure]
theorem vP_gtr : vP P (.binOp .gtr t (.const (.int k x)) (.const (.int k y)) u) ty = some (.bool (decide (y < x))) := by
  simp [vP, evPure, opr, evalConst, af, afc, binOp, Op.intCmp, quiet, keepAf, pure]
theorem vP_geq : vP P (.binOp .geq t (.const (.int k x)) (.const (.int k y)) u) ty = some (.bool (decide (y ≤ x))) := by
  simp [vP, evPure, opr, evalConst, af, afc, binOp, Op.intCmp, quiet, keepAf, pure]
theorem vP_add : vP P (.binOp .add t (.const (.int k x)) (.const (.int k y)) u) ty = some (.int k (k.wrap (x + y))) := by
  simp [vP, evPure, opr, evalConst, af, afc, binOp, Op.intArith, quiet, keepAf, pure]
theorem vP_sub : vP P (.binOp .sub t (.const (.int k x)) (.const (.int k y)) u) ty = some (.int k (k.wrap (x - y))) := by
  simp [vP, evPure, opr, evalConst, af, afc, binOp, Op.intArith, quiet, keepAf, pure]
theorem vP_mul : vP P (.binOp .mul t (.const (.int k x)) (.const (.int k y)) u) ty = some (.int k (k.wrap (x * y))) := by
  simp [vP, evPure, opr, evalConst, af, afc, binOp, Op.intArith, quiet, keepAf, pure]
theorem vP_quo (hy : y ≠ 0) : vP P (.binOp .quo t (.const (.int k x)) (.const (.int k y)) u) ty = some (.int k (k.wrap (x.tdiv y))) := by
  simp [vP, evPure, opr, evalConst, af, afc, binOp, Op.intDiv, hy, quiet, keepAf, pure]
theorem vP_rem (hy : y ≠ 0) : vP P (.binOp .rem t (.const (.int k x)) (.const (.int k y)) u) ty = some (.int k (x.tmod y)) := by
  simp [vP, evPure, opr, evalConst, af, afc, binOp, Op.intDiv, hy, quiet, keepAf, pure]
def iand (k : IntKind) (x y : Int) : Int := k.wrap (BitVec.ofInt k.bits x &&& BitVec.ofInt k.bits y).toNat
def ior (k : IntKind) (x y : Int) : Int := k.wrap (BitVec.ofInt k.bits x ||| BitVec.ofInt k.bits y).toNat
def ixor (k : IntKind) (x y : Int) : Int := k.wrap (BitVec.ofInt k.bits x ^^^ BitVec.ofInt k.bits y).toNat
def iandNot (k : IntKind) (x y : Int) : Int := k.wrap (BitVec.ofInt k.bits x &&& ~~~ BitVec.ofInt k.bits y).toNat
theorem vP_and : vP P (.binOp .and t (.const (.int k x)) (.const (.int k y)) u) ty = some (.int k (iand k x y)) := by
  simp [vP, evPure, opr, evalConst, af, afc, binOp, Op.intBits, iand, quiet, keepAf, pure]
theorem vP_or : vP P (.binOp .or t (.const (.int k x)) (.const (.int k y)) u) ty = some (.int k (ior k x y)) := by
  simp [vP, evPure, opr, evalConst, af, afc, binOp, Op.intBits, ior, quiet, keepAf, pure]
theorem vP_xor : vP P (.binOp .xor t (.const (.int k x)) (.const (.int k y)) u) ty = some (.int k (ixor k x y)) := by
  simp [vP, evPure, opr, evalConst, af, afc, binOp, Op.intBits, ixor, quiet, keepAf, pure]
theorem vP_andNot : vP P (.binOp .andNot t (.const (.int k x)) (.const (.int k y)) u) ty = some (.int k (iandNot k x y)) := by
  simp [vP, evPure, opr, evalConst, af, afc, binOp, Op.intBits, iandNot, quiet, keepAf, pure]
theorem vP_shr {k' : IntKind} (hy : ¬ y < 0) : vP P (.binOp .shr t (.const (.int k x)) (.const (.int k' y)) u) ty = some (.int k (x.fdiv (2 ^ (min y.toNat k.bits)))) := by
  simp [vP, evPure, opr, evalConst, af, afc, binOp, Op.shift, hy, quiet, keepAf, pure]
theorem vP_shl {k' : IntKind} (hy : ¬ y < 0) : vP P (.binOp .shl t (.const (.int k x)) (.const (.int k' y)) u) ty = some (.int k (k.wrap (x * 2 ^ (min y.toNat k.bits)))) := by
  simp [vP, evPure, opr, evalConst, af, afc, binOp, Op.shift, hy, quiet, keepAf, pure]
theorem vP_not {b : Bool} : vP P (.unOp .not t (.const (.bool b))) ty = some (.bool (!b)) := by
  simp [vP, evPure, opr, evalConst, af, afc, Op.unary, quiet, keepAf, pure]
theorem vP_neg : vP P (.unOp .neg t (.const (.int k x))) ty = some (.int k (k.wrap (0 - x))) := by
  simp [vP, evPure, opr, evalConst, af, afc, Op.unary, Op.intArith, quiet, keepAf, pure]
theorem vB_eqi {a b : Operand} : vB P .eql t a b (.int k x) (.int k y) h = some (.bool (x == y)) := by
  simp [vB, af, afc, eqGuard, binOp, Op.intCmp, quiet, keepAf, pure, bind, Sem.bind]
theorem vB_nei {a b : Operand} : vB P .neq t a b (.int k x) (.int k y) h = some (.bool (x != y)) := by
  simp [vB, af, afc, eqGuard, binOp, Op.intCmp, quiet, keepAf, pure, bind, Sem.bind]
theorem vE_box {v : Value} (hv : isAny v = false) : vE P call (.box t (.const v)) ty h = some (.pointer (some ⟨h.size, 0, none⟩), h.push (.cells v.cells t .own)) := by
  simp [vE, evEff, opr, evalConst, hv, cNew]
/-- A new box: a block that was not there. -/
theorem run_box {v : Value} {kk : Value → H → Option (Value × H)} {Q : Value → H → Prop} (hv : isAny v = false)
    (he : ∀ b h', Ext h h' → h.size ≤ b → b < h'.size → h'[b]? = some (.cells v.cells t .own) → Run (kk (.pointer (some ⟨b, 0, none⟩)) h') Q) : Run (bd2 (vE P call (.box t (.const v)) ty h) kk) Q := by
  rw [vE_box hv, bd2_eq]
  exact he _ _ (Ext.push (Ext.refl h) _) (Nat.le_refl _) (by simp) (get_push_self h _)
/-- A store into a block that may be written. -/
theorem vE_store {b o n : Nat} {v : Value} {cs : Array Value} {T : TypeId} {kd : Kind} (hsz : szT P t = n) (hi : (P.info? t).isNone = false) (hv : isAny v = false) (hn : v.cells.size = n)
    (hb : h[b]? = some (.cells cs T kd)) (hk : kd ≠ .ro) (hoc : v.cells.toList.all oc = true) (hle : o + n ≤ cs.size) :
    vE P call (.store t (.const (.pointer (some ⟨b, o, none⟩))) (.const v)) ty h = some (undef, h.setIfInBounds b (.cells (putL cs o v.cells.toList) T kd)) := by
  have h1 : ¬ (isAny v = true ∨ v.cells.size ≠ szT P t ∨ (P.info? t).isNone = true) := by simp [hv, hn, hsz, hi]
  have h2 : ¬ (kd = .ro ∨ v.cells.toList.all oc = false ∨ ¬ o + v.cells.toList.length ≤ cs.size) := by
    rw [hoc, Array.length_toList, hn]
    simp [hk, hle]
  show (cStore P t (.pointer (some ⟨b, o, none⟩)) v h).map (undef, ·) = _
  unfold cStore
  simp only [if_neg h1]
  unfold cPut
  rw [hb]
  simp only [if_neg h2, Option.map_some]
theorem run_alloc {cs : Array Value} {kk : Value → H → Option (Value × H)} {Q : Value → H → Prop} (hz : vE P call (.alloc t) ty h = some (cNew (.cells cs t .own) h))
    (he : ∀ b h', Ext h h' → h.size ≤ b → b < h'.size → h'[b]? = some (.cells cs t .own) → Run (kk (.pointer (some ⟨b, 0, none⟩)) h') Q) : Run (bd2 (vE P call (.alloc t) ty h) kk) Q := by
  rw [hz]
  exact he _ _ (Ext.push (Ext.refl h) _) (Nat.le_refl _) (by simp) (get_push_self h _)
theorem get_set {b : Nat} {o : HObj} (hb : b < h.size) : (h.setIfInBounds b o)[b]? = some o := by simp [hb]
theorem get_set_ne {b c : Nat} {o : HObj} (hb : b ≠ c) : (h.setIfInBounds b o)[c]? = h[c]? := by simp [hb]
theorem vP_indexAddr {e : TypeId} {inf : TypeInfo} {b o n c : Nat} {i : Int} (hu : P.underlying t = some (.slice e)) (hi : P.info? e = some inf) (h0 : 0 ≤ i) (h1 : i < n) :
    vP P (.indexAddr t (.const (.slice (some ⟨b, o, none⟩) n c)) (.const (.int k i))) ty = some (.pointer (some ⟨b, o + i.toNat * inf.size, none⟩)) := by
  have h : 0 ≤ i ∧ i < (n : Int) := ⟨h0, h1⟩
  simp [vP, evPure, opr, evalConst, Instr.indexAt, asIntOf, quiet_bind, quiet_map, quiet_underlying, quiet_sizeOf, hu, hi, h, Addr.add]
end
end Go.Am
