/- The evaluator in continuations. -/
import Derived.Test.YtfmikgbachnneaaDoorAm11
set_option linter.unusedSimpArgs false
set_option linter.unusedVariables false
namespace Go.Am

def evalConst : Operand → Value
  | .const v => v
  | _ => undef
def sO (ρ : Operand → Value) (x : Operand) : Operand := .const (ρ x)
def substOp (ρ : Operand → Value) : Op → Op
  | .move x => .move (sO ρ x)
  | .assign x => .assign (sO ρ x)
  | .pick c a b => .pick (sO ρ c) (sO ρ a) (sO ρ b)
  | .box t v => .box t (sO ρ v)
  | .build t ps => .build t (ps.map fun p => (p.1, sO ρ p.2))
  | .buildSlice t n ps => .buildSlice t n (ps.map fun p => (p.1, sO ρ p.2))
  | .insert t m k v => .insert t (sO ρ m) (sO ρ k) (sO ρ v)
  | .load t x => .load t (sO ρ x)
  | .store t x v => .store t (sO ρ x) (sO ρ v)
  | .nilCheck x => .nilCheck (sO ρ x)
  | .binOp op t x y u => .binOp op t (sO ρ x) (sO ρ y) u
  | .unOp op t x => .unOp op t (sO ρ x)
  | .convert s d x => .convert s d (sO ρ x)
  | .makeInterface t x => .makeInterface t (sO ρ x)
  | .makeFunc fn f c => .makeFunc fn (f.map (sO ρ)) (c.map (sO ρ))
  | .makeSlice t l c => .makeSlice t (sO ρ l) (sO ρ c)
  | .slice t x l h m => .slice t (sO ρ x) (l.map (sO ρ)) (h.map (sO ρ)) (m.map (sO ρ))
  | .fieldAddr t x f => .fieldAddr t (sO ρ x) f
  | .field t x f => .field t (sO ρ x) f
  | .indexAddr t x i => .indexAddr t (sO ρ x) (sO ρ i)
  | .index t x i => .index t (sO ρ x) (sO ρ i)
  | .lookup t x i k => .lookup t (sO ρ x) (sO ρ i) k
  | .mapUpdate t m k v => .mapUpdate t (sO ρ m) (sO ρ k) (sO ρ v)
  | .range t x => .range t (sO ρ x)
  | .next it s => .next (sO ρ it) s
  | .entry it => .entry (sO ρ it)
  | .extract x i => .extract (sO ρ x) i
  | .call c => .call { c with callee := (match c.callee with | .value f => .value (sO ρ f) | x => x), args := c.args.map (sO ρ) }
  | o => o
def opr (op : Op) (ty : TypeId) : Oper := { dst := none, op := op, type := ty, pos := "", after := #[], guard := none }
def vP (P : Program) (op : Op) (ty : TypeId) : Option Value := evPure P (opr op ty) evalConst
def vR (P : Program) (op : Op) (ty : TypeId) (h : H) : Option Value := evRead P (opr op ty) evalConst h
/-- A comparison; what the two operands are in the text counts where both are nil interfaces. -/
def vB (P : Program) (op : BinOp) (t : TypeId) (x y : Operand) (vx vy : Value) (h : H) : Option Value :=
  if af vx && af vy then keepAf (quiet P (do eqGuard op t x y vx vy; binOp op t vx vy)) else
  match op with
  | .eql => (cEq P t vx vy h).map fun b => .bool b
  | .neq => (cEq P t vx vy h).map fun b => .bool (!b)
  | _ => none
def vE (P : Program) (call : CallF) (op : Op) (ty : TypeId) (h : H) : Option (Value × H) := evEff P call (opr op ty) evalConst h

theorem evalConst_sO (ρ : Operand → Value) (x : Operand) : evalConst (sO ρ x) = ρ x := rfl
theorem map_sO (ρ : Operand → Value) (xs : Array Operand) : (xs.map (sO ρ)).map evalConst = xs.map ρ := by simp [Function.comp_def, evalConst_sO]
theorem omap_sO (ρ : Operand → Value) (xs : Option Operand) : (xs.map (sO ρ)).map evalConst = xs.map ρ := by cases xs <;> rfl
theorem parts_sO (ρ : Operand → Value) (ps : Array (Nat × Operand)) : ((ps.map fun p => (p.1, sO ρ p.2)).map fun (_, x) => evalConst x) = ps.map fun (_, x) => ρ x := by simp [Function.comp_def, evalConst_sO]
theorem parts2_sO (ρ : Operand → Value) (ps : Array (Nat × Operand)) : ((ps.map fun p => (p.1, sO ρ p.2)).map fun (i, x) => (i, evalConst x)) = ps.map fun (i, x) => (i, ρ x) := by simp [Function.comp_def, evalConst_sO]

theorem vP_eq {P : Program} {o : Oper} {ρ : Operand → Value} : vP P (substOp ρ o.op) o.type = evPure P o ρ := by
  unfold vP evPure opr
  cases hop : o.op with
  | call c =>
    simp only [substOp]
    cases hc : c.callee with
    | builtin b => cases b <;> simp only [map_sO]
    | value f => rfl
    | invoke r m => rfl
  | build t ps => simp only [substOp, parts_sO, parts2_sO]
  | makeFunc fn f c => simp only [substOp, map_sO]
  | _ => rfl
theorem vR_eq0 {P : Program} {o : Oper} {ρ : Operand → Value} {h : H} (hb : ∀ op t x y u, o.op ≠ .binOp op t x y u) : vR P (substOp ρ o.op) o.type h = evRead P o ρ h := by
  unfold vR evRead opr
  cases hop : o.op with
  | binOp op t x y u => exact absurd hop (hb op t x y u)
  | call c =>
    simp only [substOp]
    cases hc : c.callee with
    | builtin b => cases b <;> simp only [map_sO]
    | value f => rfl
    | invoke r m => rfl
  | slice t x l h m => simp only [substOp, omap_sO, evalConst_sO]
  | _ => rfl
def vRd (P : Program) (o : Oper) (ρ : Operand → Value) (h : H) : Option Value :=
  match o.op with
  | .binOp op t x y _ => vB P op t x y (ρ x) (ρ y) h
  | op => vR P (substOp ρ op) o.type h
theorem vR_eq {P : Program} {o : Oper} {ρ : Operand → Value} {h : H} : vRd P o ρ h = evRead P o ρ h := by
  unfold vRd
  split
  · rename_i op t x y u hop
    unfold evRead vB
    simp only [hop]
    first | done | rfl
  · rename_i op hn
    exact vR_eq0 fun op t x y u hh => hn op t x y u hh
theorem vE_eq {P : Program} {call : CallF} {o : Oper} {ρ : Operand → Value} {h : H} : vE P call (substOp ρ o.op) o.type h = evEff P call o ρ h := by
  unfold vE evEff opr
  cases hop : o.op with
  | call c =>
    simp only [substOp]
    cases hc : c.callee with
    | builtin b => cases b <;> simp only [map_sO]
    | value f => simp only [map_sO, evalConst_sO]
    | invoke r m => rfl
  | buildSlice t n ps => simp only [substOp, parts_sO, parts2_sO]
  | makeMap t r => cases r <;> rfl
  | _ => rfl

section
variable {R : Type}
def bd1 (o : Option Value) (k : Value → Option R) : Option R := match o with
  | some v => k v
  | none => none
def bd2 (o : Option (Value × H)) (k : Value → H → Option R) : Option R := match o with
  | some (v, h) => k v h
  | none => none
def ifV (v : Value) (x y : Option R) : Option R := match v with
  | .bool true => x
  | .bool false => y
  | _ => none
def same (o : Option Value) (v : Value) (k : Option R) : Option R := match o with
  | some u => cond (veq u v) k none
  | none => none
def sames : List (Option Value × Value) → Option R → Option R
  | [], k => k
  | (o, v) :: l, k => same o v (sames l k)

def isGuard (ops : Array Oper) (i : Nat) : Bool := ops.toList.any fun o => match o.guard with | some (j, _) => j == i | none => false
def putK (ops : Array Oper) (i : Nat) (v : Value) (k : Value → Option R) : Option R :=
  match isGuard ops i with
  | true => ifV v (k (.bool true)) (k (.bool false))
  | false => k v
def kOp (P : Program) (call : CallF) (o : Oper) (a : Act) (h : H) (k : Value → H → Option R) : Option R :=
  match cls P o with
  | 0 => bd1 (vP P (substOp a.eval o.op) o.type) fun v => k v h
  | 1 => bd1 (vRd P o a.eval h) fun v => k v h
  | _ => bd2 (vE P call (substOp a.eval o.op) o.type h) k
def kOps (P : Program) (call : CallF) (ops : Array Oper) : List Oper → Nat → Act → H → (Act → H → Option R) → Option R
  | [], _, a, h, k => k a h
  | o :: l, i, a, h, k => match want ops o a.tmps with
    | some true => kOp P call o a h fun v h' => putK ops i v fun v' => kOps P call ops l (i + 1) (a.put o.dst v') h' k
    | some false => kOps P call ops l (i + 1) (a.put o.dst undef) h k
    | none => none

def atChks (P : Program) (ops : Array Oper) (b : Array Nat) (recs : List (Rec × Nat)) (i : Nat) (h : H) : List (Option Value × Value) :=
  recs.filterMap fun (r, j) => if r.ran && cls P r.o == 1 && mayAt P ops b j i then some (vRd P r.o r.a.eval h, r.v) else none
def readChks (P : Program) (ops : Array Oper) (b : Array Nat) (recs : List (Rec × Nat)) (j : Nat) (o : Oper) (a : Act) (v : Value) : List (Option Value × Value) :=
  recs.filterMap fun (s, i) => if cls P s.o == 2 && mayAt P ops b j i then some (vRd P o a.eval s.h, v) else none
def kTr (P : Program) (call : CallF) (ops : Array Oper) (b : Array Nat) : List Oper → Nat → Act → H → List (Rec × Nat) → (Act → H → Option R) → Option R
  | [], _, a, h, recs, k => sames (atChks P ops b recs ops.size h) (k a h)
  | o :: l, i, a, h, recs, k =>
    sames (match cls P o with | 2 => atChks P ops b recs i h | _ => []) <|
    match want ops o a.tmps with
    | some true => kOp P call o a h fun v h' => sames (match cls P o with | 1 => readChks P ops b recs i o a v | _ => []) <|
        putK ops i v fun v' => kTr P call ops b l (i + 1) (a.put o.dst v') h' (recs ++ [(⟨o, a, h, true, v'⟩, i)]) k
    | some false => kTr P call ops b l (i + 1) (a.put o.dst undef) h (recs ++ [(⟨o, a, h, false, undef⟩, i)]) k
    | none => none

def setT (c : Operand) (b : Bool) (a : Act) : Act := match c with
  | .tmp t => { a with tmps := a.tmps.setIfInBounds t (.bool b) }
  | _ => a
noncomputable def kCode (P : Program) (call : CallF) : Code → Act → H → (Exit → Act → H → Option R) → Option R
  | .skip, a, h, k => k .normal a h
  | .region _ ops false, a, h, k => kOps P call ops ops.toList 0 a h (k .normal)
  | .region _ ops true, a, h, k => kTr P call ops (Region.before ops) ops.toList 0 a h [] (k .normal)
  | .seq x y, a, h, k => kCode P call x a h fun e a1 h1 => match e with
    | .normal => kCode P call y a1 h1 k
    | e => k e a1 h1
  | .cond c x y, a, h, k => ifV (a.eval c) (kCode P call x (setT c true a) h k) (kCode P call y (setT c false a) h k)
  | .block id c, a, h, k => kCode P call c a h fun e a1 h1 => match e with
    | .exit i => match Nat.beq i id with
      | true => k .normal a1 h1
      | false => k (.exit i) a1 h1
    | e => k e a1 h1
  | .loop c, a, h, k => match lim fun n => evIter (evI P call c) n a h with
    | some (e, a1, h1) => k e a1 h1
    | none => none
  | .exit id, a, h, k => k (.exit id) a h
  | .scope c, a, h, k => kCode P call c a h k
  | .label _, a, h, k => k .normal a h
  | .ret, a, h, k => k .ret a h
  | _, _, _, _ => none

def kRes (P : Program) (tmps : Array Value) (h : H) : List ResultVar → List Value → Option (Value × H)
  | [], acc => some (match acc with | [v] => v | vs => .tuple vs.toArray, h)
  | r :: l, acc => bd1 (cRes P tmps h r) fun v => kRes P tmps h l (acc ++ [v])
noncomputable def kFun (P : Program) (ok : FuncId → Bool) (X : Hooks) (f : FuncId) (args : Array Value) (h : H) : Option (Value × H) :=
  match X f with
  | some g => g args h
  | none => match ok f with
    | false => none
    | true => match P.funcs[f]? with
      | some fn => match fn.body with
        | some c => kCode P (evC P ok X) c { tmps := args ++ Array.replicate (fn.ntmps - args.size) undef, defers := [] } h fun e a h1 => match e with
          | .normal => kRes P a.tmps h1 fn.results.toList []
          | .ret => kRes P a.tmps h1 fn.results.toList []
          | _ => none
        | none => none
      | none => none

/-! ### soundness -/
theorem bd1_some {o : Option Value} {k : Value → Option R} {r : R} (h : bd1 o k = some r) : ∃ v, o = some v ∧ k v = some r := by
  cases o with
  | none => cases h
  | some v => exact ⟨v, rfl, h⟩
theorem bd2_some {o : Option (Value × H)} {k : Value → H → Option R} {r : R} (h : bd2 o k = some r) : ∃ v h', o = some (v, h') ∧ k v h' = some r := by
  cases o with
  | none => cases h
  | some v => exact ⟨v.1, v.2, rfl, h⟩
theorem ifV_some {v : Value} {x y : Option R} {r : R} (h : ifV v x y = some r) : (v = .bool true ∧ x = some r) ∨ (v = .bool false ∧ y = some r) := by
  unfold ifV at h
  split at h
  · exact .inl ⟨rfl, h⟩
  · exact .inr ⟨rfl, h⟩
  · cases h
theorem sames_some : ∀ {l : List (Option Value × Value)} {k : Option R} {r : R}, sames l k = some r → k = some r ∧ ∀ x ∈ l, ∃ u, x.1 = some u ∧ veq u x.2 = true
  | [], _, _, h => ⟨h, by simp⟩
  | (none, v) :: l, k, r, h => by simp only [sames, same] at h; cases h
  | (some u, v) :: l, k, r, h => by
      simp only [sames, same] at h
      cases hv : veq u v with
      | false => rw [hv] at h; cases h
      | true =>
        rw [hv] at h
        obtain ⟨h1, h2⟩ := sames_some (l := l) h
        refine ⟨h1, fun x hx => ?_⟩
        rcases List.mem_cons.1 hx with rfl | hx
        · exact ⟨u, rfl, hv⟩
        · exact h2 x hx
theorem putK_some {ops : Array Oper} {i : Nat} {v : Value} {k : Value → Option R} {r : R} (h : putK ops i v k = some r) : k v = some r := by
  unfold putK at h
  split at h
  · rcases ifV_some h with ⟨rfl, h⟩ | ⟨rfl, h⟩ <;> exact h
  · exact h
theorem kOp_some {P : Program} {call : CallF} {o : Oper} {a : Act} {h : H} {k : Value → H → Option R} {r : R} (he : kOp P call o a h k = some r) : ∃ v h', evOp P call o a.eval h = some (v, h') ∧ k v h' = some r := by
  unfold kOp at he
  unfold evOp
  rcases cls_cases P o with h0 | h0 | h0 <;> rw [h0] at he ⊢
  · obtain ⟨v, h1, h2⟩ := bd1_some he
    rw [vP_eq] at h1
    exact ⟨v, h, by simp only [h1, Option.map_some], h2⟩
  · obtain ⟨v, h1, h2⟩ := bd1_some he
    rw [vR_eq] at h1
    exact ⟨v, h, by simp only [h1, Option.map_some], h2⟩
  · obtain ⟨v, h', h1, h2⟩ := bd2_some he
    rw [vE_eq] at h1
    exact ⟨v, h', h1, h2⟩
theorem kOps_some {P : Program} {call : CallF} {ops : Array Oper} : ∀ (l : List Oper) (i : Nat) (a : Act) (h : H) (k : Act → H → Option R) (r : R), kOps P call ops l i a h k = some r → ∃ a1 h1, evOps P call ops l a h = some (a1, h1) ∧ k a1 h1 = some r
  | [], _, a, h, _, _, he => ⟨a, h, rfl, he⟩
  | o :: l, i, a, h, k, r, he => by
    simp only [kOps] at he
    simp only [evOps]
    split at he
    · rename_i hw
      obtain ⟨v, h', h1, h2⟩ := kOp_some he
      simp only [hw, h1]
      exact kOps_some l _ _ _ _ _ (putK_some h2)
    · rename_i hw
      simp only [hw]
      exact kOps_some l _ _ _ _ _ he
    · cases he

def pairOk (P : Program) (ops : Array Oper) (x y : Rec × Nat) : Prop := x.1.ran = true → cls P x.1.o = 1 → cls P y.1.o = 2 → mayAt P ops (Region.before ops) x.2 y.2 = true → readsSame P x.1 y.1.h = true
def endOk (P : Program) (ops : Array Oper) (x : Rec × Nat) (h : H) : Prop := x.1.ran = true → cls P x.1.o = 1 → mayAt P ops (Region.before ops) x.2 ops.size = true → readsSame P x.1 h = true
theorem readsSame_of {P : Program} {r : Rec} {h : H} {u : Value} (h1 : vRd P r.o r.a.eval h = some u) (h2 : veq u r.v = true) : readsSame P r h = true := by
  rw [vR_eq] at h1
  unfold readsSame
  rw [h1]; exact h2
theorem kTr_some {P : Program} {call : CallF} {ops : Array Oper} : ∀ (l : List Oper) (i : Nat) (a : Act) (h : H) (recs : List (Rec × Nat)) (k : Act → H → Option R) (r : R), kTr P call ops (Region.before ops) l i a h recs k = some r →
    (∀ x ∈ recs, ∀ y ∈ recs, x ≠ y → pairOk P ops x y) → 
    ∃ rs a1 h1, evTrace P call ops l a h = some (rs, a1, h1) ∧ k a1 h1 = some r ∧
      (∀ x ∈ recs ++ rs.zipIdx i, endOk P ops x h1) ∧ (∀ x ∈ recs ++ rs.zipIdx i, ∀ y ∈ recs ++ rs.zipIdx i, x ≠ y → pairOk P ops x y)
  | [], i, a, h, recs, k, r, he, hp => by
    simp only [kTr] at he
    obtain ⟨h1, h2⟩ := sames_some he
    refine ⟨[], a, h, rfl, h1, ?_, by simpa using hp⟩
    intro x hx q1 q2 q3
    simp only [List.zipIdx_nil, List.append_nil] at hx
    obtain ⟨u, h3, h4⟩ := h2 (vRd P x.1.o x.1.a.eval h, x.1.v) (by
      unfold atChks
      rw [List.mem_filterMap]
      exact ⟨x, hx, by simp [q1, q2, q3]⟩)
    exact readsSame_of h3 h4
  | o :: l, i, a, h, recs, k, r, he, hp => by
    simp only [kTr] at he
    obtain ⟨he, hpre⟩ := sames_some he
    simp only [evTrace]
    have hpre' : ∀ x ∈ recs, x.1.ran = true → cls P x.1.o = 1 → cls P o = 2 → mayAt P ops (Region.before ops) x.2 i = true → readsSame P x.1 h = true := by
      intro x hx q1 q2 q3 q4
      rw [q3] at hpre
      obtain ⟨u, h3, h4⟩ := hpre (vRd P x.1.o x.1.a.eval h, x.1.v) (by
        unfold atChks
        simp only
        rw [List.mem_filterMap]
        exact ⟨x, hx, by simp [q1, q2, q4]⟩)
      exact readsSame_of h3 h4
    have step : ∀ (rec : Rec), rec.o = o → rec.h = h → (rec.ran = true → cls P o = 1 → ∀ y ∈ recs, cls P y.1.o = 2 → mayAt P ops (Region.before ops) i y.2 = true → readsSame P rec y.1.h = true) →
        ∀ x ∈ recs ++ [(rec, i)], ∀ y ∈ recs ++ [(rec, i)], x ≠ y → pairOk P ops x y := by
      intro rec ho hh hread x hx y hy hne
      rcases List.mem_append.1 hx with hx | hx
      · rcases List.mem_append.1 hy with hy | hy
        · exact hp x hx y hy hne
        · simp only [List.mem_singleton] at hy
          subst hy
          intro q1 q2 q3 q4
          simp only [ho] at q3
          simp only [hh]
          exact hpre' x hx q1 q2 q3 q4
      · simp only [List.mem_singleton] at hx
        subst hx
        rcases List.mem_append.1 hy with hy | hy
        · intro q1 q2 q3 q4
          simp only [ho] at q2
          exact hread q1 q2 y hy q3 q4
        · simp only [List.mem_singleton] at hy
          exact absurd hy.symm hne
    split at he
    · rename_i hw
      obtain ⟨v, h', h1, h2⟩ := kOp_some he
      simp only [hw, h1]
      obtain ⟨h2, hrd⟩ := sames_some h2
      have h3 := putK_some h2
      obtain ⟨rs, a1, g1, p1, p2, p3, p4⟩ := kTr_some l _ _ _ _ _ _ h3 (step ⟨o, a, h, true, v⟩ rfl rfl fun _ q2 y hy q3 q4 => by
        rw [q2] at hrd
        obtain ⟨u, h3, h4⟩ := hrd (vRd P o a.eval y.1.h, v) (by
          unfold readChks
          simp only
          rw [List.mem_filterMap]
          exact ⟨y, hy, by simp [q3, q4]⟩)
        exact readsSame_of (r := ⟨o, a, h, true, v⟩) h3 h4)
      refine ⟨⟨o, a, h, true, v⟩ :: rs, a1, g1, by simp only [p1, Option.map_some], p2, ?_, ?_⟩
      · simpa [List.append_assoc] using p3
      · simpa [List.append_assoc] using p4
    · rename_i hw
      simp only [hw]
      obtain ⟨rs, a1, g1, p1, p2, p3, p4⟩ := kTr_some l _ _ _ _ _ _ he (step ⟨o, a, h, false, undef⟩ rfl rfl fun q => by cases q)
      refine ⟨⟨o, a, h, false, undef⟩ :: rs, a1, g1, by simp only [p1, Option.map_some], p2, ?_, ?_⟩
      · simpa [List.append_assoc] using p3
      · simpa [List.append_assoc] using p4
    · cases he

theorem kDraw_some {P : Program} {call : CallF} {ops : Array Oper} {a : Act} {h : H} {k : Act → H → Option R} {r : R} (he : kTr P call ops (Region.before ops) ops.toList 0 a h [] k = some r) : ∃ a1 h1, evDraw P call ops a h = some (a1, h1) ∧ k a1 h1 = some r := by
  obtain ⟨rs, a1, h1, p1, p2, p3, p4⟩ := kTr_some _ _ _ _ _ _ _ he (by simp)
  refine ⟨a1, h1, ?_, p2⟩
  unfold evDraw
  rw [p1]
  have : dynOk P ops rs h1 = true := by
    unfold dynOk
    rw [List.all_eq_true]
    rintro ⟨x, j⟩ hx
    have hx' : (x, j) ∈ [] ++ rs.zipIdx 0 := by simpa using hx
    simp only [Bool.or_eq_true, Bool.not_eq_true', Bool.and_eq_true, List.all_eq_true]
    by_cases hran : (x.ran && cls P x.o == 1) = true
    · simp only [Bool.and_eq_true, beq_iff_eq] at hran
      refine .inr ⟨?_, ?_⟩
      · cases hm : mayAt P ops (Region.before ops) j ops.size with
        | false => exact .inl rfl
        | true => exact .inr (p3 _ hx' hran.1 hran.2 hm)
      · rintro ⟨y, i⟩ hy
        have hy' : (y, i) ∈ [] ++ rs.zipIdx 0 := by simpa using hy
        by_cases hc : cls P y.o = 2
        · cases hm : mayAt P ops (Region.before ops) j i with
          | false => exact .inl (by simp)
          | true =>
            refine .inr (p4 _ hx' _ hy' ?_ hran.1 hran.2 hc hm)
            rintro h
            cases h
            rw [hran.2] at hc; cases hc
        · exact .inl (by simp [hc])
    · exact .inl (by simpa using hran)
  simp only [this, if_true]

theorem setT_eq {c : Operand} {a : Act} {b : Bool} (h : a.eval c = .bool b) : setT c b a = a := by
  unfold setT
  split
  · rename_i t
    have ht : a.tmps.getD t undef = .bool b := h
    have : a.tmps.setIfInBounds t (.bool b) = a.tmps := by
      apply Array.ext_getElem?
      intro i
      rw [Array.getElem?_setIfInBounds]
      by_cases hi : t = i
      · subst hi
        rw [if_pos rfl]
        by_cases hs : t < a.tmps.size
        · rw [if_pos hs, Array.getElem?_eq_getElem hs]
          rw [Array.getD_eq_getD_getElem?, Array.getElem?_eq_getElem hs] at ht
          simp only [Option.getD_some] at ht
          rw [ht]
        · rw [if_neg hs, Array.getElem?_eq_none (Nat.le_of_not_lt hs)]
      · rw [if_neg hi]
    rw [this]
  · rfl
theorem kCode_some {P : Program} {call : CallF} : ∀ (c : Code) (a : Act) (h : H) (k : Exit → Act → H → Option R) (r : R), kCode P call c a h k = some r → ∃ e a1 h1, evI P call c a h = some (e, a1, h1) ∧ k e a1 h1 = some r := by
  intro c
  induction c with
  | skip => intro a h k r he; exact ⟨_, _, _, rfl, he⟩
  | region id ops d =>
    intro a h k r he
    cases d with
    | false =>
      obtain ⟨a1, h1, h2, h3⟩ := kOps_some _ _ _ _ _ _ he
      exact ⟨.normal, a1, h1, by simp only [evI, h2, Option.map_some], h3⟩
    | true =>
      obtain ⟨a1, h1, h2, h3⟩ := kDraw_some he
      exact ⟨.normal, a1, h1, by simp only [evI, h2, Option.map_some], h3⟩
  | seq x y ihx ihy =>
    intro a h k r he
    simp only [kCode] at he
    obtain ⟨e, a1, h1, h2, h3⟩ := ihx _ _ _ _ he
    simp only [evI]
    cases e with
    | normal =>
      obtain ⟨e, a2, h4, h5, h6⟩ := ihy _ _ _ _ h3
      exact ⟨e, a2, h4, by rw [h2]; exact h5, h6⟩
    | _ => exact ⟨_, a1, h1, by rw [h2], h3⟩
  | cond c x y ihx ihy =>
    intro a h k r he
    simp only [kCode] at he
    simp only [evI]
    rcases ifV_some he with ⟨hc, he⟩ | ⟨hc, he⟩
    · rw [setT_eq hc] at he
      obtain ⟨e, a1, h1, h2, h3⟩ := ihx _ _ _ _ he
      exact ⟨e, a1, h1, by rw [hc]; exact h2, h3⟩
    · rw [setT_eq hc] at he
      obtain ⟨e, a1, h1, h2, h3⟩ := ihy _ _ _ _ he
      exact ⟨e, a1, h1, by rw [hc]; exact h2, h3⟩
  | block id c ih =>
    intro a h k r he
    simp only [kCode] at he
    obtain ⟨e, a1, h1, h2, h3⟩ := ih _ _ _ _ he
    simp only [evI]
    cases e with
    | exit i =>
      simp only at h3
      split at h3
      · rename_i hb
        have := Nat.eq_of_beq_eq_true hb
        exact ⟨.normal, a1, h1, by rw [h2]; simp [this], h3⟩
      · rename_i hb
        have := Nat.ne_of_beq_eq_false hb
        exact ⟨.exit i, a1, h1, by rw [h2]; simp [this], h3⟩
    | _ => exact ⟨_, a1, h1, by rw [h2], h3⟩
  | loop c ih =>
    intro a h k r he
    simp only [kCode] at he
    split at he
    · rename_i e a1 h1 hl
      exact ⟨e, a1, h1, hl, he⟩
    · cases he
  | rangeFunc => intro a h k r he; simp [kCode] at he
  | exit => intro a h k r he; exact ⟨_, _, _, rfl, he⟩
  | scope c ih => intro a h k r he; exact ih _ _ _ _ he
  | label => intro a h k r he; exact ⟨_, _, _, rfl, he⟩
  | goto => intro a h k r he; simp [kCode] at he
  | ret => intro a h k r he; exact ⟨_, _, _, rfl, he⟩
  | refuse => intro a h k r he; simp [kCode] at he

/-- One round of a loop. -/
theorem loop_step {P : Program} {call : CallF} {c : Code} {a : Act} {h : H} {k : Exit → Act → H → Option R} {r : R}
    (he : kCode P call c a h (fun e a1 h1 => match e with | .normal => kCode P call (.loop c) a1 h1 k | e => k e a1 h1) = some r) : kCode P call (.loop c) a h k = some r := by
  obtain ⟨e, a1, h1, h2, h3⟩ := kCode_some _ _ _ _ _ he
  have mono : ∀ (a : Act) (h : H) (n m : Nat) (r : Exit × Act × H), n ≤ m → evIter (evI P call c) n a h = some r → evIter (evI P call c) m a h = some r := fun a h n m r hn q => evIter_mono (fun _ _ _ q => q) n m hn a h r q
  simp only [kCode]
  have fin : ∀ e' a' h', (∃ n, evIter (evI P call c) n a h = some (e', a', h')) → (match lim fun n => evIter (evI P call c) n a h with | some (e, a1, h1) => k e a1 h1 | none => none) = k e' a' h' := by
    rintro e' a' h' ⟨n, hn⟩
    rw [lim_of (f := fun n => evIter (evI P call c) n a h) (fun n m r hn q => mono a h n m r hn q) hn]
  cases e with
  | normal =>
    simp only [kCode] at h3
    split at h3
    · rename_i e2 a2 g2 hl
      obtain ⟨n, hn⟩ := lim_some hl
      rw [fin e2 a2 g2 ⟨n + 1, by simp only [evIter, h2]; exact hn⟩]
      exact h3
    · cases h3
  | _ => exact (fin _ _ _ ⟨1, by simp only [evIter, h2]; first | done | rfl⟩).trans h3
end

theorem kRes_some {P : Program} {tmps : Array Value} {h : H} : ∀ (l : List ResultVar) (acc : List Value) (r : Value × H), kRes P tmps h l acc = some r → ∃ vs, l.mapM (cRes P tmps h) = some vs ∧ r = (match acc ++ vs with | [v] => v | vs => .tuple vs.toArray, h)
  | [], acc, r, he => by
    simp only [kRes, Option.some.injEq] at he
    exact ⟨[], rfl, by rw [List.append_nil]; exact he.symm⟩
  | x :: l, acc, r, he => by
    simp only [kRes] at he
    obtain ⟨v, h1, h2⟩ := bd1_some he
    obtain ⟨vs, h3, h4⟩ := kRes_some l _ _ h2
    refine ⟨v :: vs, ?_, by rw [h4]; simp⟩
    rw [List.mapM_cons, h1, h3]; rfl
theorem kFun_some {P : Program} {ok : FuncId → Bool} {X : Hooks} {f : FuncId} {args : Array Value} {h : H} {r : Value × H} (he : kFun P ok X f args h = some r) : evC P ok X f args h = some r := by
  unfold kFun at he
  split at he
  · rename_i g hg
    exact evC_of (n := 1) (by simp only [evCall, hg]; exact he)
  · rename_i hX
    split at he
    · cases he
    · rename_i hok
      split at he
      · rename_i fn hfn
        split at he
        · rename_i c hc
          obtain ⟨e, a1, h1, h2, h3⟩ := kCode_some _ _ _ _ _ he
          obtain ⟨n, hn⟩ := evI_lim _ _ _ _ h2
          refine evC_of (n := n + 1) ?_
          simp only [evCall, hX, hok, hfn, hc, hn]
          rw [if_neg (by simp)]
          have fin : kRes P a1.tmps h1 fn.results.toList [] = some r → (evResults P fn a1.tmps h1).map (·, h1) = some r := by
            intro hk
            obtain ⟨vs, q1, q2⟩ := kRes_some _ _ _ hk
            unfold evResults
            rw [q1, q2]
            simp only [Option.map_some, List.nil_append]
            rfl
          cases e with
          | normal => exact fin h3
          | ret => exact fin h3
          | _ => cases h3
        · cases he
      · cases he
/-- The law's run, without fuel. -/
theorem law_run' {P : Program} {ok : FuncId → Bool} {X : Hooks} (hS : Sound P ok X) {f : FuncId} {args : Array Value} {W : World} {v : Value} {h1 : H} (hv : af v = true)
    (he : evC P ok X f (args.map (canonV (hsz P W))) (canonH P W) = some (v, h1)) : Calls P f args W fun e W' => e = .returned v ∧ Go.RowKit.Below W.heap.size W W' := by
  obtain ⟨n, hn⟩ := evC_some he
  exact law_run hS hv hn
end Go.Am
