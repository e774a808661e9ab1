/- The evaluator in continuations over lists, with tables of what a region's order allows: what the kernel computes quickly. -/
import Derived.Test.YtfmikgbachnneaaDoorAm17
set_option linter.unusedSimpArgs false
set_option linter.unusedVariables false
namespace Go.Am

abbrev Env := Nat → Value
def evT (n : Nat) (l : Env) : Operand → Value
  | .tmp t => match Nat.ble (t + 1) n with
    | true => l t
    | false => undef
  | .const v => v
  | .global g => .pointer (some ⟨g, 0, none⟩)
  | .func f => .func (.func f) #[] #[]
def pT (l : Env) (d : Option Tmp) (v : Value) : Env := match d with
  | some t => fun s => match Nat.beq s t with
    | true => v
    | false => l s
  | none => l
abbrev actL (n : Nat) (l : Env) : Act := ⟨((List.range n).map l).toArray, []⟩
theorem getD_actL (n : Nat) (l : Env) (t : Nat) : ((List.range n).map l).toArray.getD t undef = match Nat.ble (t + 1) n with | true => l t | false => undef := by
  rw [Array.getD_eq_getD_getElem?, List.getElem?_toArray, List.getElem?_map]
  cases h : Nat.ble (t + 1) n with
  | true =>
    have := Nat.le_of_ble_eq_true h
    rw [List.getElem?_range (by omega)]; rfl
  | false =>
    have : ¬ t + 1 ≤ n := fun hh => by rw [Nat.ble_eq_true_of_le hh] at h; cases h
    rw [List.getElem?_eq_none (by simp; omega)]; rfl
theorem eval_actL (n : Nat) (l : Env) : (actL n l).eval = evT n l := by
  funext x
  cases x with
  | tmp t => exact getD_actL n l t
  | _ => rfl
theorem set_actL (n : Nat) (l : Env) (t : Nat) (v : Value) : ((List.range n).map l).toArray.setIfInBounds t v = ((List.range n).map (pT l (some t) v)).toArray := by
  rw [List.setIfInBounds_toArray]
  congr 1
  apply List.ext_getElem?
  intro i
  rw [List.getElem?_set, List.getElem?_map, List.getElem?_map]
  simp only [List.length_map, List.length_range, pT]
  by_cases hi : i < n
  · rw [List.getElem?_range hi]
    by_cases ht : t = i
    · subst ht
      simp [hi, Nat.beq_refl]
    · rw [if_neg ht]
      have : Nat.beq i t = false := by
        cases hb : Nat.beq i t with
        | false => rfl
        | true => exact absurd (Nat.eq_of_beq_eq_true hb).symm ht
      simp [this]
  · rw [List.getElem?_eq_none (show (List.range n).length ≤ i by simp; omega)]
    by_cases ht : t = i
    · subst ht; simp [hi]
    · rw [if_neg ht]; rfl
theorem put_actL (n : Nat) (l : Env) (d : Option Tmp) (v : Value) : (actL n l).put d v = actL n (pT l d v) := by
  cases d with
  | none => rfl
  | some t =>
    show (⟨((List.range n).map l).toArray.setIfInBounds t v, []⟩ : Act) = _
    rw [set_actL]
def wantL (ops : Array Oper) (o : Oper) (n : Nat) (l : Env) : Option Bool :=
  match o.guard with
  | none => some true
  | some (j, b) => match (ops[j]?).bind (·.dst) with
    | some t => match Nat.ble (t + 1) n with
      | true => match l t with
        | .bool c => some (c == b)
        | .tuple c => if c.isEmpty then some false else none
        | _ => none
      | false => none
    | none => none
theorem want_actL (ops : Array Oper) (o : Oper) (n : Nat) (l : Env) : want ops o ((List.range n).map l).toArray = wantL ops o n l := by
  unfold want wantL
  cases hg : o.guard with
  | none => rfl
  | some p =>
    obtain ⟨j, b⟩ := p
    simp only
    cases (ops[j]?).bind (·.dst) with
    | none => rfl
    | some t =>
      simp only [Option.bind_some, List.getElem?_toArray, List.getElem?_map]
      cases h : Nat.ble (t + 1) n with
      | true =>
        have := Nat.le_of_ble_eq_true h
        rw [List.getElem?_range (Nat.lt_of_succ_le this)]
        simp only [Option.map_some]
        cases l t <;> rfl
      | false =>
        have : ¬ t + 1 ≤ n := fun hh => by rw [Nat.ble_eq_true_of_le hh] at h; cases h
        rw [List.getElem?_eq_none (by rw [List.length_range]; exact Nat.le_of_not_lt this)]
        rfl

section
variable {R : Type}
def isSimple : Op → Bool
  | .move _ | .assign _ | .pick .. => true
  | _ => false
/-- The class, moves apart. -/
def clsS (P : Program) (o : Oper) : Nat := match isSimple o.op with
  | true => 3
  | false => cls P o
def kOpL (n : Nat) (P : Program) (call : CallF) (o : Oper) (c : Nat) (l : Env) (h : H) (k : Value → H → Option R) : Option R :=
  match c with
  | 0 => bd1 (vP P (substOp (evT n l) o.op) o.type) fun v => k v h
  | 1 => bd1 (vRd P o (evT n l) h) fun v => k v h
  | 2 => bd2 (vE P call (substOp (evT n l) o.op) o.type h) k
  | _ => match o.op with
    | .move x => k (evT n l x) h
    | .assign x => k (evT n l x) h
    | .pick c x y => match evT n l c with
      | .bool true => k (evT n l x) h
      | .bool false => k (evT n l y) h
      | _ => none
    | _ => none
theorem cls_simple {P : Program} {o : Oper} (h : isSimple o.op = true) : cls P o = 0 := by
  unfold cls
  cases hop : o.op <;> rw [hop] at h <;> first | rfl | cases h
theorem clsS_cases (P : Program) (o : Oper) : (clsS P o = 3 ∧ cls P o = 0) ∨ (clsS P o = cls P o) := by
  unfold clsS
  cases hs : isSimple o.op with
  | true => exact .inl ⟨rfl, cls_simple hs⟩
  | false => exact .inr rfl
theorem clsS1 (P : Program) (o : Oper) : (cls P o == 1) = (clsS P o == 1) := by
  rcases clsS_cases P o with ⟨h1, h2⟩ | h
  · rw [h1, h2]; rfl
  · rw [h]
theorem clsS2 (P : Program) (o : Oper) : (cls P o == 2) = (clsS P o == 2) := by
  rcases clsS_cases P o with ⟨h1, h2⟩ | h
  · rw [h1, h2]; rfl
  · rw [h]
theorem kOp_actL {n : Nat} {P : Program} {call : CallF} {o : Oper} {l : Env} {h : H} {k k' : Value → H → Option R} (hk : ∀ v h, k v h = k' v h) : kOp P call o (actL n l) h k = kOpL n P call o (clsS P o) l h k' := by
  have : k = k' := by funext v h; exact hk v h
  subst this
  unfold clsS
  cases hs : isSimple o.op with
  | false =>
    unfold kOp kOpL
    rw [eval_actL]
    rcases cls_cases P o with h0 | h0 | h0 <;> rw [h0] <;> rfl
  | true =>
    unfold kOp
    rw [cls_simple hs, eval_actL]
    unfold kOpL
    unfold isSimple at hs
    cases hop : o.op with
    | move x => rfl
    | assign x => rfl
    | pick c x y =>
      show bd1 (evPure P (opr (.pick (sO (evT n l) c) (sO (evT n l) x) (sO (evT n l) y)) o.type) evalConst) _ = _
      simp only [evPure, opr, evalConst_sO]
      cases evT n l c with
      | bool b => cases b <;> rfl
      | _ => rfl
    | _ => rw [hop] at hs; cases hs
def kOpsL (n : Nat) (P : Program) (call : CallF) (ops : Array Oper) : List (Oper × Nat) → Nat → Env → H → (Env → H → Option R) → Option R
  | [], _, l, h, k => k l h
  | (o, c) :: os, i, l, h, k => match wantL ops o n l with
    | some true => kOpL n P call o c l h fun v h' => putK ops i v fun v' => kOpsL n P call ops os (i + 1) (pT l o.dst v') h' k
    | some false => kOpsL n P call ops os (i + 1) (pT l o.dst undef) h k
    | none => none
theorem putK_congr {ops : Array Oper} {i : Nat} {v : Value} {k k' : Value → Option R} (hk : ∀ v, k v = k' v) : putK ops i v k = putK ops i v k' := by
  have : k = k' := by funext v; exact hk v
  rw [this]
theorem kOps_actL {n : Nat} {P : Program} {call : CallF} {ops : Array Oper} : ∀ (os : List Oper) (cl : List Nat), os.map (clsS P) = cl → ∀ (i : Nat) (l : Env) (h : H) (k : Act → H → Option R) (k' : Env → H → Option R), (∀ l h, k (actL n l) h = k' l h) →
    kOps P call ops os i (actL n l) h k = kOpsL n P call ops (os.zip cl) i l h k'
  | [], cl, hc, i, l, h, k, k', hk => by
    simp only [List.map_nil] at hc; subst hc
    exact hk l h
  | o :: os, cl, hc, i, l, h, k, k', hk => by
    simp only [List.map_cons] at hc; subst hc
    simp only [kOps, List.zip_cons_cons, kOpsL, want_actL]
    cases wantL ops o n l with
    | none => rfl
    | some b =>
      cases b with
      | true =>
        refine kOp_actL fun v h' => putK_congr fun v' => ?_
        rw [put_actL]
        exact kOps_actL os _ rfl _ _ _ _ _ hk
      | false =>
        simp only
        rw [put_actL]
        exact kOps_actL os _ rfl _ _ _ _ _ hk

theorem filterMap_congr' {α γ : Type} {f g : α → Option γ} : ∀ {l : List α}, (∀ x ∈ l, f x = g x) → l.filterMap f = l.filterMap g
  | [], _ => rfl
  | a :: l, h => by
    rw [List.filterMap_cons, List.filterMap_cons, h a (by simp), filterMap_congr' fun x hx => h x (by simp [hx])]
structure RecL where
  o : Oper
  l : Env
  h : H
  ran : Bool
  v : Value
  c : Nat
def RecL.r (n : Nat) (x : RecL) : Rec := ⟨x.o, actL n x.l, x.h, x.ran, x.v⟩
def mayT (mt : List Nat) (j i : Nat) : Bool := (mt.getD j 0).testBit i
def atChksL (n : Nat) (P : Program) (mt : List Nat) (recs : List (RecL × Nat)) (i : Nat) (h : H) : List (Option Value × Value) :=
  recs.filterMap fun (r, j) => if r.ran && r.c == 1 && mayT mt j i then some (vRd P r.o (evT n r.l) h, r.v) else none
def readChksL (n : Nat) (P : Program) (mt : List Nat) (recs : List (RecL × Nat)) (j : Nat) (o : Oper) (l : Env) (v : Value) : List (Option Value × Value) :=
  recs.filterMap fun (s, i) => if s.c == 2 && mayT mt j i then some (vRd P o (evT n l) s.h, v) else none
def kTrL (n : Nat) (P : Program) (call : CallF) (ops : Array Oper) (mt : List Nat) : List (Oper × Nat) → Nat → Env → H → List (RecL × Nat) → (Env → H → Option R) → Option R
  | [], i, l, h, recs, k => sames (atChksL n P mt recs i h) (k l h)
  | (o, c) :: os, i, l, h, recs, k =>
    sames (match c with | 2 => atChksL n P mt recs i h | _ => []) <|
    match wantL ops o n l with
    | some true => kOpL n P call o c l h fun v h' => sames (match c with | 1 => readChksL n P mt recs i o l v | _ => []) <|
        putK ops i v fun v' => kTrL n P call ops mt os (i + 1) (pT l o.dst v') h' (recs ++ [(⟨o, l, h, true, v', c⟩, i)]) k
    | some false => kTrL n P call ops mt os (i + 1) (pT l o.dst undef) h (recs ++ [(⟨o, l, h, false, undef, c⟩, i)]) k
    | none => none

/-- What the table must say. -/
def MtOk (P : Program) (ops : Array Oper) (cl mt : List Nat) : Prop :=
  ∀ j i, (cl[j]? = some 1) → (cl[i]? = some 2 ∨ i = ops.size) → mayT mt j i = mayAt P ops (Region.before ops) j i
theorem kTr_actL {n : Nat} {P : Program} {call : CallF} {ops : Array Oper} {mt cl0 : List Nat} (hcl0 : ops.toList.map (clsS P) = cl0) (hm : MtOk P ops cl0 mt) :
    ∀ (os : List Oper) (cl : List Nat), os.map (clsS P) = cl → ∀ (i : Nat), cl = cl0.drop i → i + os.length = ops.size → ∀ (l : Env) (h : H) (recs : List (RecL × Nat)), (∀ x ∈ recs, cl0[x.2]? = some x.1.c ∧ x.1.c = clsS P x.1.o) →
      ∀ (k : Act → H → Option R) (k' : Env → H → Option R), (∀ l h, k (actL n l) h = k' l h) →
    kTr P call ops (Region.before ops) os i (actL n l) h (recs.map fun x => (x.1.r n, x.2)) k = kTrL n P call ops mt (os.zip cl) i l h recs k' := by
  have hlen : cl0.length = ops.size := by rw [← hcl0]; simp
  have at_ : ∀ (recs : List (RecL × Nat)) (i : Nat) (h : H), (∀ x ∈ recs, cl0[x.2]? = some x.1.c ∧ x.1.c = clsS P x.1.o) → (cl0[i]? = some 2 ∨ i = ops.size) →
      atChks P ops (Region.before ops) (recs.map fun x => (x.1.r n, x.2)) i h = atChksL n P mt recs i h := by
    intro recs i h hr hi
    unfold atChks atChksL
    rw [List.filterMap_map]
    refine filterMap_congr' fun x hx => ?_
    obtain ⟨h1, h2⟩ := hr x hx
    simp only [Function.comp, RecL.r, h2, clsS1, clsS2]
    rw [eval_actL]
    by_cases hc : clsS P x.1.o = 1
    · rw [hm x.2 i (by rw [h1, h2, hc]) hi]
    · have : (clsS P x.1.o == 1) = false := by simpa using hc
      simp [this]
  have rd_ : ∀ (recs : List (RecL × Nat)) (j : Nat) (o : Oper) (l : Env) (v : Value), (∀ x ∈ recs, cl0[x.2]? = some x.1.c ∧ x.1.c = clsS P x.1.o) → cl0[j]? = some 1 →
      readChks P ops (Region.before ops) (recs.map fun x => (x.1.r n, x.2)) j o (actL n l) v = readChksL n P mt recs j o l v := by
    intro recs j o l v hr hj
    unfold readChks readChksL
    rw [List.filterMap_map]
    refine filterMap_congr' fun x hx => ?_
    obtain ⟨h1, h2⟩ := hr x hx
    simp only [Function.comp, RecL.r, h2, clsS1, clsS2]
    rw [eval_actL]
    by_cases hc : clsS P x.1.o = 2
    · rw [hm j x.2 hj (.inl (by rw [h1, h2, hc]))]
    · have : (clsS P x.1.o == 2) = false := by simpa using hc
      simp [this]
  intro os
  induction os with
  | nil =>
    intro cl hc i hci hil l h recs hr k k' hk
    simp only [List.map_nil] at hc; subst hc
    simp only [List.length_nil, Nat.add_zero] at hil
    subst hil
    simp only [kTr, List.zip_nil_left, kTrL]
    rw [at_ recs _ h hr (.inr rfl), hk]
  | cons o os ih =>
    intro cl hc i hci hil l h recs hr k k' hk
    simp only [List.map_cons] at hc; subst hc
    simp only [List.length_cons] at hil
    have hi : cl0[i]? = some (clsS P o) := by
      have := congrArg List.head? hci
      simp only [List.head?_cons, List.head?_drop] at this
      exact this.symm
    have hnext : os.map (clsS P) = cl0.drop (i + 1) := by
      have := congrArg List.tail hci
      simpa using this
    have hpre : ∀ X X' : Option R, X = X' → sames (match cls P o with | 2 => atChks P ops (Region.before ops) (recs.map fun x => (x.1.r n, x.2)) i h | _ => []) X = sames (match clsS P o with | 2 => atChksL n P mt recs i h | _ => []) X' := by
      rintro X _ rfl
      rcases clsS_cases P o with ⟨h0, h1⟩ | h1
      · rw [h0, h1]; rfl
      · rcases cls_cases P o with h0 | h0 | h0 <;> rw [h1, h0] <;> first | rfl | skip
        simp only
        rw [at_ recs i h hr (.inl (by rw [hi, h1, h0]))]
        first | done | rfl
    have hpost : ∀ (v : Value) (X X' : Option R), X = X' → sames (match cls P o with | 1 => readChks P ops (Region.before ops) (recs.map fun x => (x.1.r n, x.2)) i o (actL n l) v | _ => []) X = sames (match clsS P o with | 1 => readChksL n P mt recs i o l v | _ => []) X' := by
      rintro v X _ rfl
      rcases clsS_cases P o with ⟨h0, h1⟩ | h1
      · rw [h0, h1]; rfl
      · rcases cls_cases P o with h0 | h0 | h0 <;> rw [h1, h0] <;> first | rfl | skip
        simp only
        rw [rd_ recs i o l v hr (by rw [hi, h1, h0])]
        first | done | rfl
    have hrec : ∀ (ran : Bool) (v : Value), ∀ x ∈ recs ++ [((⟨o, l, h, ran, v, clsS P o⟩ : RecL), i)], cl0[x.2]? = some x.1.c ∧ x.1.c = clsS P x.1.o := by
      intro ran v x hx
      rcases List.mem_append.1 hx with hx | hx
      · exact hr x hx
      · simp only [List.mem_singleton] at hx
        subst hx
        exact ⟨hi, rfl⟩
    simp only [kTr, List.zip_cons_cons, kTrL, want_actL]
    refine hpre _ _ ?_
    cases wantL ops o n l with
    | none => rfl
    | some b =>
      cases b with
      | true =>
        refine kOp_actL fun v h' => hpost v _ _ (putK_congr fun v' => ?_)
        rw [put_actL]
        have := ih _ rfl (i + 1) hnext (by omega) (pT l o.dst v') h' (recs ++ [(⟨o, l, h, true, v', clsS P o⟩, i)]) (hrec true v') k k' hk
        simpa [RecL.r] using this
      | false =>
        simp only
        rw [put_actL]
        have := ih _ rfl (i + 1) hnext (by omega) (pT l o.dst undef) h (recs ++ [(⟨o, l, h, false, undef, clsS P o⟩, i)]) (hrec false undef) k k' hk
        simpa [RecL.r] using this

/-! ### tables -/
def aftB (bef : List Nat) (o : Oper) : Nat := o.after.toList.foldl (fun s e => if Region.binds .any e then s ||| 2 ^ e.on ||| bef.getD e.on 0 else s) 0
def befOk : List Oper → List Nat → List Nat → Bool
  | [], _, [] => true
  | o :: os, done, b :: bs => aftB done o == b && befOk os (done ++ [b]) bs
  | _, _, _ => false
theorem getD_toArrayN {l : List Nat} {t : Nat} {d : Nat} : l.toArray.getD t d = l.getD t d := by
  rw [Array.getD_eq_getD_getElem?, List.getElem?_toArray, List.getD_eq_getElem?_getD]
theorem befOk_eq : ∀ (os : List Oper) (done bs : List Nat), befOk os done bs = true →
    os.foldl (init := done.toArray) (fun acc o => acc.push (o.after.foldl (fun s e => if Region.binds .any e then s ||| 2 ^ e.on ||| acc.getD e.on 0 else s) 0)) = (done ++ bs).toArray
  | [], done, [], _ => by simp
  | [], done, _ :: _, h => by simp [befOk] at h
  | o :: os, done, [], h => by simp [befOk] at h
  | o :: os, done, b :: bs, h => by
    simp only [befOk, Bool.and_eq_true, beq_iff_eq] at h
    obtain ⟨h1, h2⟩ := h
    rw [List.foldl_cons]
    have : (done.toArray.push (o.after.foldl (fun s e => if Region.binds .any e then s ||| 2 ^ e.on ||| done.toArray.getD e.on 0 else s) 0)) = (done ++ [b]).toArray := by
      rw [← h1]
      unfold aftB
      simp only [getD_toArrayN, List.push_toArray]
      rw [Array.foldl_toList]
    rw [this, befOk_eq os _ _ h2]
    simp
theorem before_eq {ops : Array Oper} {bef : List Nat} (h : befOk ops.toList [] bef = true) : Region.before ops = bef.toArray := by
  have := befOk_eq ops.toList [] bef h
  unfold Region.before
  rw [← Array.foldl_toList]
  simpa using this
def mayF (bef cl : List Nat) (j i : Nat) : Bool :=
  (List.range cl.length).all fun e => !(cl.getD e 0 == 2) || ((!(bef.getD j 0).testBit e || e < i) && (!(decide (e < i)) || !(bef.getD e 0).testBit j))
def mtOkB (bef cl mt : List Nat) : Bool :=
  (List.range cl.length).all fun j => !(cl.getD j 0 == 1) || (List.range (cl.length + 1)).all fun i => !(cl.getD i 2 == 2) || (mayT mt j i == mayF bef cl j i)
theorem isAE_cl {P : Program} {ops : Array Oper} {cl : List Nat} (hc : ops.toList.map (clsS P) = cl) (e : Nat) : isAE P ops e = (cl.getD e 0 == 2) := by
  subst hc
  unfold isAE
  rw [List.getD_eq_getElem?_getD, List.getElem?_map, Array.getElem?_toList]
  cases ops[e]? with
  | none => simp
  | some o => simp [clsS2]
theorem mayF_eq {P : Program} {ops : Array Oper} {bef cl : List Nat} (hc : ops.toList.map (clsS P) = cl) (hb : Region.before ops = bef.toArray) (j i : Nat) : mayAt P ops (Region.before ops) j i = mayF bef cl j i := by
  unfold mayAt mayF
  rw [hb, show ops.size = cl.length by rw [← hc]; simp]
  refine congrArg (List.all (List.range cl.length)) ?_
  funext e
  have hg : ∀ t, bef.toArray.getD t 0 = bef.getD t 0 := fun t => by rw [Array.getD_eq_getD_getElem?, List.getElem?_toArray, List.getD_eq_getElem?_getD]
  rw [isAE_cl hc, hg, hg]
theorem mtOk_of {P : Program} {ops : Array Oper} {bef cl mt : List Nat} (hc : ops.toList.map (clsS P) = cl) (hb : befOk ops.toList [] bef = true) (hm : mtOkB bef cl mt = true) : MtOk P ops cl mt := by
  intro j i hj hi
  rw [mayF_eq hc (before_eq hb)]
  have hsz : ops.size = cl.length := by rw [← hc]; simp
  unfold mtOkB at hm
  rw [List.all_eq_true] at hm
  have hjl := (List.getElem?_eq_some_iff.1 hj).1
  have h1 := hm j (by simpa using hjl)
  rw [show (cl.getD j 0 == 1) = true by simp [List.getD_eq_getElem?_getD, hj]] at h1
  simp only [Bool.not_true, Bool.false_or, List.all_eq_true] at h1
  have hil : i < cl.length + 1 := by
    rcases hi with h | h
    · have := (List.getElem?_eq_some_iff.1 h).1; omega
    · omega
  have h2 := h1 i (by simpa using hil)
  rw [show (cl.getD i 2 == 2) = true by
    rcases hi with h | h
    · simp [List.getD_eq_getElem?_getD, h]
    · rw [List.getD_eq_getElem?_getD, List.getElem?_eq_none (by omega)]; rfl] at h2
  simpa using h2

/-- Of each region: what its operations are, before which each lies, and at which places a read may lie. -/
structure Tab where
  id : Nat
  cl : List Nat
  bef : List Nat
  mt : List Nat
def tabOf : List Tab → Nat → Option Tab
  | [], _ => none
  | t :: ts, id => match Nat.beq t.id id with
    | true => some t
    | false => tabOf ts id
def tabsOk (P : Program) (T : List Tab) : Code → Bool
  | .region id ops d => match tabOf T id with
    | some t => (ops.toList.map (clsS P) == t.cl) && (!d || (befOk ops.toList [] t.bef && mtOkB t.bef t.cl t.mt))
    | none => false
  | .seq x y => tabsOk P T x && tabsOk P T y
  | .cond _ x y => tabsOk P T x && tabsOk P T y
  | .block _ c => tabsOk P T c
  | .loop c => tabsOk P T c
  | .scope c => tabsOk P T c
  | _ => true

def setTL (c : Operand) (b : Bool) (l : Env) : Env := match c with
  | .tmp t => pT l (some t) (.bool b)
  | _ => l
theorem setT_actL (n : Nat) (c : Operand) (b : Bool) (l : Env) : setT c b (actL n l) = actL n (setTL c b l) := by
  cases c with
  | tmp t => show (⟨((List.range n).map l).toArray.setIfInBounds t (.bool b), []⟩ : Act) = _; rw [set_actL]; rfl
  | _ => rfl
noncomputable def kCodeL (n : Nat) (P : Program) (call : CallF) (T : List Tab) : Code → Env → H → (Exit → Act → H → Option R) → (Exit → Env → H → Option R) → Option R
  | .skip, l, h, _, k => k .normal l h
  | .region id ops false, l, h, _, k => match tabOf T id with
    | some t => kOpsL n P call ops (ops.toList.zip t.cl) 0 l h (k .normal)
    | none => none
  | .region id ops true, l, h, _, k => match tabOf T id with
    | some t => kTrL n P call ops t.mt (ops.toList.zip t.cl) 0 l h [] (k .normal)
    | none => none
  | .seq x y, l, h, k0, k => kCodeL n P call T x l h (fun e a1 h1 => match e with
    | .normal => kCode P call y a1 h1 k0
    | e => k0 e a1 h1) (fun e l1 h1 => match e with
    | .normal => kCodeL n P call T y l1 h1 k0 k
    | e => k e l1 h1)
  | .cond c x y, l, h, k0, k => ifV (evT n l c) (kCodeL n P call T x (setTL c true l) h k0 k) (kCodeL n P call T y (setTL c false l) h k0 k)
  | .block id c, l, h, k0, k => kCodeL n P call T c l h (fun e a1 h1 => match e with
    | .exit i => match Nat.beq i id with
      | true => k0 .normal a1 h1
      | false => k0 (.exit i) a1 h1
    | e => k0 e a1 h1) (fun e l1 h1 => match e with
    | .exit i => match Nat.beq i id with
      | true => k .normal l1 h1
      | false => k (.exit i) l1 h1
    | e => k e l1 h1)
  | .loop c, l, h, k0, _ => kCode P call (.loop c) (actL n l) h k0
  | .exit id, l, h, _, k => k (.exit id) l h
  | .scope c, l, h, k0, k => kCodeL n P call T c l h k0 k
  | .label _, l, h, _, k => k .normal l h
  | .ret, l, h, _, k => k .ret l h
  | _, _, _, _, _ => none
theorem kCodeL_eq {n : Nat} {P : Program} {call : CallF} {T : List Tab} : ∀ (c : Code), tabsOk P T c = true → ∀ (l : Env) (h : H) (k0 : Exit → Act → H → Option R) (k : Exit → Env → H → Option R), (∀ e l h, k0 e (actL n l) h = k e l h) →
    kCode P call c (actL n l) h k0 = kCodeL n P call T c l h k0 k := by
  intro c
  induction c with
  | skip => intro _ l h k0 k hk; exact hk _ _ _
  | region id ops d =>
    intro hT l h k0 k hk
    simp only [tabsOk] at hT
    cases ht : tabOf T id with
    | none => rw [ht] at hT; cases hT
    | some t =>
      rw [ht] at hT
      simp only [Bool.and_eq_true, beq_iff_eq, Bool.or_eq_true, Bool.not_eq_true'] at hT
      obtain ⟨h1, h2⟩ := hT
      cases d with
      | false =>
        simp only [kCode, kCodeL, ht]
        exact kOps_actL _ _ h1 _ _ _ _ _ fun l h => hk _ _ _
      | true =>
        simp only [kCode, kCodeL, ht]
        rcases h2 with h2 | ⟨h2, h3⟩
        · cases h2
        · have := kTr_actL h1 (mtOk_of h1 h2 h3) ops.toList t.cl h1 0 (by simp) (by simp) l h [] (by simp) (k0 .normal) (k .normal) (fun l h => hk _ _ _) (call := call)
          simpa using this
  | seq x y ihx ihy =>
    intro hT l h k0 k hk
    simp only [tabsOk, Bool.and_eq_true] at hT
    simp only [kCode, kCodeL]
    refine ihx hT.1 _ _ _ _ fun e l1 h1 => ?_
    cases e with
    | normal => exact ihy hT.2 _ _ _ _ hk
    | _ => exact hk _ _ _
  | cond c x y ihx ihy =>
    intro hT l h k0 k hk
    simp only [tabsOk, Bool.and_eq_true] at hT
    simp only [kCode, kCodeL]
    rw [setT_actL, setT_actL, ihx hT.1 _ _ _ _ hk, ihy hT.2 _ _ _ _ hk, eval_actL]
  | block id c ih =>
    intro hT l h k0 k hk
    simp only [tabsOk] at hT
    simp only [kCode, kCodeL]
    refine ih hT _ _ _ _ fun e l1 h1 => ?_
    cases e with
    | exit i =>
      simp only
      cases Nat.beq i id <;> exact hk _ _ _
    | _ => exact hk _ _ _
  | loop c ih => intro hT l h k0 k hk; rfl
  | rangeFunc => intro hT l h k0 k hk; rfl
  | exit => intro hT l h k0 k hk; exact hk _ _ _
  | scope c ih => intro hT l h k0 k hk; simp only [tabsOk] at hT; simp only [kCode, kCodeL]; exact ih hT _ _ _ _ hk
  | label => intro hT l h k0 k hk; exact hk _ _ _
  | goto => intro hT l h k0 k hk; rfl
  | ret => intro hT l h k0 k hk; exact hk _ _ _
  | refuse => intro hT l h k0 k hk; rfl

def cResL (n : Nat) (P : Program) (l : Env) (h : H) : ResultVar → Option Value
  | .tmp t => some (match Nat.ble (t + 1) n with | true => l t | false => undef)
  | .cell a t => cLoad P t (match Nat.ble (a + 1) n with | true => l a | false => undef) h
def kResL (n : Nat) (P : Program) (l : Env) (h : H) : List ResultVar → List Value → Option (Value × H)
  | [], acc => some (match acc with | [v] => v | vs => .tuple vs.toArray, h)
  | r :: rs, acc => bd1 (cResL n P l h r) fun v => kResL n P l h rs (acc ++ [v])
theorem kRes_actL {n : Nat} {P : Program} {l : Env} {h : H} : ∀ (rs : List ResultVar) (acc : List Value), kRes P ((List.range n).map l).toArray h rs acc = kResL n P l h rs acc
  | [], _ => rfl
  | r :: rs, acc => by
    simp only [kRes, kResL]
    have : cRes P ((List.range n).map l).toArray h r = cResL n P l h r := by
      cases r with
      | tmp t => simp only [cRes, cResL, getD_actL]
      | cell a t => simp only [cRes, cResL, getD_actL]
    rw [this]
    refine congrArg (bd1 _) ?_
    funext v
    exact kRes_actL rs _
def kEndL (n : Nat) (P : Program) (f : FuncId) : Exit → Env → H → Option (Value × H) := fun e l h => match e with
  | .normal => kResL n P l h (resOf P f) []
  | .ret => kResL n P l h (resOf P f) []
  | _ => none
theorem kEnd_actL {n : Nat} {P : Program} {f : FuncId} (e : Exit) (l : Env) (h : H) : kEnd P f e (actL n l) h = kEndL n P f e l h := by
  cases e <;> first | rfl | exact kRes_actL _ _
noncomputable def kPathL (n : Nat) (P : Program) (call : CallF) (T : List Tab) : Code → List Nat → (Exit → Act → H → Option R) → (Exit → Env → H → Option R) → (Exit → Env → H → Option R)
  | .seq x y, 0 :: p, k0, k => kPathL n P call T x p (fun e a1 h1 => match e with
    | .normal => kCode P call y a1 h1 k0
    | e => k0 e a1 h1) (fun e l1 h1 => match e with
    | .normal => kCodeL n P call T y l1 h1 k0 k
    | e => k e l1 h1)
  | .seq _ y, _ :: p, k0, k => kPathL n P call T y p k0 k
  | .cond _ x _, 0 :: p, k0, k => kPathL n P call T x p k0 k
  | .cond _ _ y, _ :: p, k0, k => kPathL n P call T y p k0 k
  | .block id c, _ :: p, k0, k => kPathL n P call T c p (fun e a1 h1 => match e with
    | .exit i => match Nat.beq i id with
      | true => k0 .normal a1 h1
      | false => k0 (.exit i) a1 h1
    | e => k0 e a1 h1) (fun e l1 h1 => match e with
    | .exit i => match Nat.beq i id with
      | true => k .normal l1 h1
      | false => k (.exit i) l1 h1
    | e => k e l1 h1)
  | .scope c, _ :: p, k0, k => kPathL n P call T c p k0 k
  | _, _, _, k => k
theorem kPathL_eq {n : Nat} {P : Program} {call : CallF} {T : List Tab} : ∀ (c : Code) (p : List Nat), tabsOk P T c = true → ∀ (k0 : Exit → Act → H → Option R) (k : Exit → Env → H → Option R), (∀ e l h, k0 e (actL n l) h = k e l h) →
    ∀ e l h, kPath P call c p k0 e (actL n l) h = kPathL n P call T c p k0 k e l h := by
  intro c
  induction c with
  | seq x y ihx ihy =>
    intro p hT k0 k hk
    simp only [tabsOk, Bool.and_eq_true] at hT
    rcases p with _ | ⟨_ | n, p⟩
    · exact hk
    · refine ihx p hT.1 _ _ fun e l1 h1 => ?_
      cases e with
      | normal => exact kCodeL_eq y hT.2 _ _ _ _ hk
      | _ => exact hk _ _ _
    · exact ihy p hT.2 _ _ hk
  | cond c x y ihx ihy =>
    intro p hT k0 k hk
    simp only [tabsOk, Bool.and_eq_true] at hT
    rcases p with _ | ⟨_ | n, p⟩
    · exact hk
    · exact ihx p hT.1 _ _ hk
    · exact ihy p hT.2 _ _ hk
  | block id c ih =>
    intro p hT k0 k hk
    simp only [tabsOk] at hT
    match p with
    | [] => exact hk
    | n :: p =>
      refine ih p hT _ _ fun e l1 h1 => ?_
      cases e with
      | exit i =>
        simp only
        cases Nat.beq i id <;> exact hk _ _ _
      | _ => exact hk _ _ _
  | scope c ih =>
    intro p hT k0 k hk
    simp only [tabsOk] at hT
    match p with
    | [] => exact hk
    | n :: p => exact ih p hT _ _ hk
  | _ => intro p hT k0 k hk; cases p <;> exact hk
end
theorem tabs_at {P : Program} {T : List Tab} : ∀ (c : Code) (p : List Nat), tabsOk P T c = true → tabsOk P T (codeAt c p) = true := by
  intro c
  induction c with
  | seq x y ihx ihy =>
    intro p h
    rcases p with _ | ⟨_ | n, p⟩
    · exact h
    · simp only [tabsOk, Bool.and_eq_true] at h; exact ihx p h.1
    · simp only [tabsOk, Bool.and_eq_true] at h; exact ihy p h.2
  | cond c x y ihx ihy =>
    intro p h
    rcases p with _ | ⟨_ | n, p⟩
    · exact h
    · simp only [tabsOk, Bool.and_eq_true] at h; exact ihx p h.1
    · simp only [tabsOk, Bool.and_eq_true] at h; exact ihy p h.2
  | block id c ih =>
    intro p h
    rcases p with _ | ⟨n, p⟩
    · exact h
    · exact ih p h
  | scope c ih =>
    intro p h
    rcases p with _ | ⟨n, p⟩
    · exact h
    · exact ih p h
  | loop c ih =>
    intro p h
    rcases p with _ | ⟨n, p⟩
    · exact h
    · exact ih p h
  | _ => intro p h; cases p <;> exact h
theorem base_actL {n : Nat} {L : List Value} (hn : L.length = n) : actL n (fun s => L.getD s undef) = ⟨L.toArray, []⟩ := by
  subst hn
  show (⟨_, []⟩ : Act) = _
  congr 2
  apply List.ext_getElem?
  intro i
  rw [List.getElem?_map]
  by_cases hi : i < L.length
  · rw [List.getElem?_range hi]
    simp [List.getD_eq_getElem?_getD, hi]
  · rw [List.getElem?_eq_none (by rw [List.length_range]; omega), List.getElem?_eq_none (by omega)]
    rfl
/-- A text of a function. -/
theorem textL {P : Program} {call : CallF} {f : FuncId} (T : List Tab) (n : Nat) {L : List Value} {h : H} {r : Option (Value × H)} (hT : tabsOk P T (bodyOf P f) = true) (hn : L.length = n) (he : kCodeL n P call T (bodyOf P f) (fun s => L.getD s undef) h (kEnd P f) (kEndL n P f) = r) : kCode P call (bodyOf P f) ⟨L.toArray, []⟩ h (kEnd P f) = r := by
  rw [← base_actL hn]
  exact (kCodeL_eq _ hT _ _ _ _ kEnd_actL).trans he
/-- A text of a loop's round. -/
theorem roundL {R : Type} {P : Program} {call : CallF} (T : List Tab) (n : Nat) {c : Code} {L : List Value} {h : H} {k : Exit → Act → H → Option R} {r : Option R} (hT : tabsOk P T c = true) (hn : L.length = n) (he : kCodeL n P call T c (fun s => L.getD s undef) h (again P call c k) (fun e l h => again P call c k e (actL n l) h) = r) : kCode P call c ⟨L.toArray, []⟩ h (again P call c k) = r := by
  rw [← base_actL hn]
  exact (kCodeL_eq _ hT _ _ _ _ fun _ _ _ => rfl).trans he
/-- A text of what stands behind a loop. -/
theorem behindL {P : Program} {call : CallF} {f : FuncId} (T : List Tab) (n : Nat) {p : List Nat} {e : Exit} {L : List Value} {h : H} {r : Option (Value × H)} (hT : tabsOk P T (bodyOf P f) = true) (hn : L.length = n) (he : kPathL n P call T (bodyOf P f) p (kEnd P f) (kEndL n P f) e (fun s => L.getD s undef) h = r) : kPath P call (bodyOf P f) p (kEnd P f) e ⟨L.toArray, []⟩ h = r := by
  rw [← base_actL hn]
  exact (kPathL_eq _ _ hT _ _ kEnd_actL _ _ _).trans he
theorem behindIn {R : Type} {P : Program} {call : CallF} (T : List Tab) (n : Nat) {c : Code} {p : List Nat} {e : Exit} {L : List Value} {h : H} {k : Exit → Act → H → Option R} {r : Option R} (hT : tabsOk P T c = true) (hn : L.length = n) (he : kPathL n P call T c p (again P call c k) (fun e l h => again P call c k e (actL n l) h) e (fun s => L.getD s undef) h = r) : kPath P call c p (again P call c k) e ⟨L.toArray, []⟩ h = r := by
  rw [← base_actL hn]
  exact (kPathL_eq _ _ hT _ _ (fun _ _ _ => rfl) _ _ _).trans he
/-- A text of a piece of code. -/
theorem pieceL {P : Program} {call : CallF} (T : List Tab) (n : Nat) {c : Code} {L : List Value} {h : H} {r : Option (Exit × Act × H)} (hT : tabsOk P T c = true) (hn : L.length = n) (he : kCodeL n P call T c (fun s => L.getD s undef) h (fun e a h => some (e, a, h)) (fun e l h => some (e, actL n l, h)) = r) : kCode P call c ⟨L.toArray, []⟩ h (fun e a h => some (e, a, h)) = r := by
  rw [← base_actL hn]
  exact (kCodeL_eq _ hT _ _ _ _ fun _ _ _ => rfl).trans he
end Go.Am
