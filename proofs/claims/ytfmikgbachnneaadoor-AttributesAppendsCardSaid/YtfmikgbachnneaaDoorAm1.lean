/- The relation between a canonical heap and a world: definitions and first lemmas. -/
import Derived.Orders
import Derived.LoopN
import Derived.Tactics
import Derived.Laws.Sem
import Derived.Laws.Cells
import Derived.Laws.World
import Derived.Below
set_option linter.unusedSimpArgs false
set_option linter.unusedVariables false
namespace Go.Am

inductive Kind where
  | ro | own | text | grown
  deriving DecidableEq

inductive HObj where
  | cells (cs : Array Value) (T : TypeId) (k : Kind)
  | map (es : Array MapEntry) (clock : Nat) (k : Kind)
  | iter (m : Option Nat) (since : Nat) (seen : Array Nat) (stepped : Nat)
  | siter (s : ByteArray) (pos : Nat)
  | dead

abbrev H := Array HObj

/-- Where a canonical block lies in the world: its block, the first cell, how many cells there are from it on; of a grown block, the size of an element and the canonical size. -/
structure Emb where
  blk : Nat
  shift : Nat
  room : Nat
  g : Option (Nat × Nat)

def SliceOk (e : Emb) (o len cap : Nat) (a' : Addr) (cap' : Nat) : Prop :=
  len ≤ cap ∧ cap ≤ cap' ∧ (cap' ≠ 0 → a' = ⟨e.blk, e.shift + o, none⟩) ∧
  match e.g with
  | none => cap' = cap
  | some (s, n) => 0 < s ∧ o + cap * s ≤ n ∧ o + cap' * s ≤ e.room ∧ (o + cap * s < n → cap' = cap)

/-- The canonical value that says nothing. -/
def blankv : Value := .chan none

mutual
inductive VR (β : Nat → Option Emb) (K : Nat → Prop) : Value → Value → Prop where
  | any (v' : Value) : VR β K (.chan none) v'
  | bool (b : Bool) : VR β K (.bool b) (.bool b)
  | int (k : IntKind) (n : Int) : VR β K (.int k n) (.int k n)
  | float (k : FloatKind) (b : Nat) : VR β K (.float k b) (.float k b)
  | complex (k : FloatKind) (a b : Nat) : VR β K (.complex k a b) (.complex k a b)
  | string (s : ByteArray) : VR β K (.string s) (.string s)
  | ptrNil : VR β K (.pointer none) (.pointer none)
  | ptr (b o : Nat) (a' : Addr) (hk : K b) (h : ∀ e, β b = some e → a' = ⟨e.blk, e.shift + o, none⟩) : VR β K (.pointer (some ⟨b, o, none⟩)) (.pointer (some a'))
  | sliceNil (l c : Nat) : VR β K (.slice none l c) (.slice none l c)
  | slice (b o len cap : Nat) (a' : Addr) (cap' : Nat) (hk : K b) (h : ∀ e, β b = some e → SliceOk e o len cap a' cap') : VR β K (.slice (some ⟨b, o, none⟩) len cap) (.slice (some a') len cap')
  | mapNil : VR β K (.map none) (.map none)
  | map (r r' : Nat) (hk : K r) (h : ∀ e, β r = some e → r' = e.blk) : VR β K (.map (some r)) (.map (some r'))
  | func (fn : Fn) (f c f' c' : Array Value) (hf : VRL β K f.toList f'.toList) (hc : VRL β K c.toList c'.toList) : VR β K (.func fn f c) (.func fn f' c')
  | nilFunc : VR β K .nilFunc .nilFunc
  | nilIface : VR β K .nilIface .nilIface
  | iface (t : TypeId) (v v' : Value) (h : VR β K v v') : VR β K (.iface t v) (.iface t v')
  | agg (c c' : Array Value) (h : VRL β K c.toList c'.toList) : VR β K (.agg c) (.agg c')
  | tuple (c c' : Array Value) (h : VRL β K c.toList c'.toList) : VR β K (.tuple c) (.tuple c')
inductive VRL (β : Nat → Option Emb) (K : Nat → Prop) : List Value → List Value → Prop where
  | nil : VRL β K [] []
  | cons (v v' : Value) (l l' : List Value) (h : VR β K v v') (t : VRL β K l l') : VRL β K (v :: l) (v' :: l')
end

section
variable {β β' : Nat → Option Emb} {K K' : Nat → Prop}

mutual
theorem VR.mono (hK : ∀ b, K b → K' b) (hb : ∀ b, K b → β' b = β b ∨ β' b = none) : ∀ {v v' : Value}, VR β K v v' → VR β' K' v v'
  | _, _, .any v' => .any v'
  | _, _, .bool b => .bool b
  | _, _, .int k n => .int k n
  | _, _, .float k b => .float k b
  | _, _, .complex k a b => .complex k a b
  | _, _, .string s => .string s
  | _, _, .ptrNil => .ptrNil
  | _, _, .ptr b o a' hk h => .ptr b o a' (hK _ hk) (fun e he => by rcases hb b hk with h1 | h1 <;> rw [h1] at he; exact h e he; cases he)
  | _, _, .sliceNil l c => .sliceNil l c
  | _, _, .slice b o len cap a' cap' hk h => .slice b o len cap a' cap' (hK _ hk) (fun e he => by rcases hb b hk with h1 | h1 <;> rw [h1] at he; exact h e he; cases he)
  | _, _, .mapNil => .mapNil
  | _, _, .map r r' hk h => .map r r' (hK _ hk) (fun e he => by rcases hb r hk with h1 | h1 <;> rw [h1] at he; exact h e he; cases he)
  | _, _, .func fn f c f' c' hf hc => .func fn f c f' c' (VRL.mono hK hb hf) (VRL.mono hK hb hc)
  | _, _, .nilFunc => .nilFunc
  | _, _, .nilIface => .nilIface
  | _, _, .iface t v v' h => .iface t v v' (VR.mono hK hb h)
  | _, _, .agg c c' h => .agg c c' (VRL.mono hK hb h)
  | _, _, .tuple c c' h => .tuple c c' (VRL.mono hK hb h)
theorem VRL.mono (hK : ∀ b, K b → K' b) (hb : ∀ b, K b → β' b = β b ∨ β' b = none) : ∀ {l l' : List Value}, VRL β K l l' → VRL β' K' l l'
  | _, _, .nil => .nil
  | _, _, .cons v v' l l' h t => .cons v v' l l' (VR.mono hK hb h) (VRL.mono hK hb t)
end

theorem VRL.length {l l' : List Value} : VRL β K l l' → l'.length = l.length
  | .nil => rfl
  | .cons _ _ _ _ _ t => by simp [VRL.length t]
theorem VRL.get {l l' : List Value} (h : VRL β K l l') (i : Nat) (v : Value) (hv : l[i]? = some v) : ∃ v', l'[i]? = some v' ∧ VR β K v v' := by
  induction i generalizing l l' with
  | zero => cases h with
    | nil => simp at hv
    | cons a a' l l' h t => simp at hv; subst hv; exact ⟨a', by simp, h⟩
  | succ i ih => cases h with
    | nil => simp at hv
    | cons a a' l l' h t => simp at hv; simpa using ih t hv
theorem VRL.of_get : ∀ {l l' : List Value}, l'.length = l.length → (∀ (i : Nat) (v v' : Value), l[i]? = some v → l'[i]? = some v' → VR β K v v') → VRL β K l l'
  | [], [], _, _ => .nil
  | [], _ :: _, h, _ => by simp at h
  | _ :: _, [], h, _ => by simp at h
  | a :: l, a' :: l', h, hg => .cons _ _ _ _ (hg 0 a a' rfl rfl) (VRL.of_get (by simpa using h) (fun i v v' h1 h2 => hg (i + 1) v v' (by simpa using h1) (by simpa using h2)))
theorem VRL.append {l l' m m' : List Value} (h : VRL β K l l') (k : VRL β K m m') : VRL β K (l ++ m) (l' ++ m') := by
  induction l generalizing l' with
  | nil => cases h; simpa using k
  | cons a l ih => cases h with | cons _ a' _ l' h t => exact .cons _ _ _ _ h (ih t)

/-- Arrays. -/
def VRA (β : Nat → Option Emb) (K : Nat → Prop) (c c' : Array Value) : Prop := VRL β K c.toList c'.toList
theorem VRA.size {c c' : Array Value} (h : VRA β K c c') : c'.size = c.size := by simpa using VRL.length h
theorem VRA.get {c c' : Array Value} (h : VRA β K c c') {i : Nat} {v : Value} (hv : c[i]? = some v) : ∃ v', c'[i]? = some v' ∧ VR β K v v' := by
  obtain ⟨v', h1, h2⟩ := VRL.get h i v (by simpa using hv)
  exact ⟨v', by simpa using h1, h2⟩
theorem VRA.of_get {c c' : Array Value} (h : c'.size = c.size) (hg : ∀ (i : Nat) (v v' : Value), c[i]? = some v → c'[i]? = some v' → VR β K v v') : VRA β K c c' :=
  VRL.of_get (by simpa using h) (fun i v v' h1 h2 => hg i v v' (by simpa using h1) (by simpa using h2))
theorem VRA.mono (hK : ∀ b, K b → K' b) (hb : ∀ b, K b → β' b = β b ∨ β' b = none) {c c' : Array Value} (h : VRA β K c c') : VRA β' K' c c' := VRL.mono hK hb h
theorem VRA.set {c c' : Array Value} (h : VRA β K c c') {v v' : Value} (hv : VR β K v v') (i : Nat) : VRA β K (c.setIfInBounds i v) (c'.setIfInBounds i v') := by
  refine .of_get (by simp [h.size]) fun j x x' h1 h2 => ?_
  rw [Array.getElem?_setIfInBounds] at h1 h2
  rw [h.size] at h2
  split at h1
  · split at h1
    · rw [if_pos (by assumption), if_pos (by assumption)] at h2
      cases h1; cases h2; exact hv
    · cases h1
  · rw [if_neg (by assumption)] at h2
    obtain ⟨y, h3, h4⟩ := h.get h1
    rw [h3] at h2; cases h2; exact h4
theorem VRA.push {c c' : Array Value} (h : VRA β K c c') {v v' : Value} (hv : VR β K v v') : VRA β K (c.push v) (c'.push v') := by
  unfold VRA; simp only [Array.toList_push]; exact VRL.append h (.cons _ _ _ _ hv .nil)
theorem VRA.append {c c' d d' : Array Value} (h : VRA β K c c') (k : VRA β K d d') : VRA β K (c ++ d) (c' ++ d') := by
  unfold VRA; simp only [Array.toList_append]; exact VRL.append h k
theorem VRA.nil : VRA β K #[] #[] := VRL.nil
theorem VRA.one {v v' : Value} (hv : VR β K v v') : VRA β K #[v] #[v'] := VRL.cons _ _ _ _ hv VRL.nil

theorem VR.cells {v v' : Value} (h : VR β K v v') (ho : v ≠ .chan none) : VRA β K v.cells v'.cells := by
  cases h <;> first | exact absurd rfl ho | (simp only [Value.cells]; exact VRA.one (by constructor <;> assumption)) | (simp only [Value.cells]; assumption)
end

/-! Values without addresses -/
def afc : Value → Bool
  | .bool _ | .int .. | .float .. | .complex .. | .string _ | .pointer none | .slice none _ _ | .map none | .nilFunc | .nilIface => true
  | _ => false
def af : Value → Bool
  | .agg cs => cs.all afc
  | .tuple cs => cs.all afc
  | .iface _ v => afc v
  | v => afc v
section
variable {β β' : Nat → Option Emb} {K K' : Nat → Prop}
theorem VR.of_afc {v : Value} (h : afc v = true) : VR β K v v := by
  cases v with
  | pointer a => cases a <;> first | exact .ptrNil | simp [afc] at h
  | slice a l c => cases a <;> first | exact .sliceNil l c | simp [afc] at h
  | map a => cases a <;> first | exact .mapNil | simp [afc] at h
  | _ => first | (constructor; done) | simp [afc] at h
theorem VR.afc_eq {v v' : Value} (h : afc v = true) (hv : VR β K v v') : v' = v := by
  cases hv <;> first | rfl | simp [afc] at h
theorem VRA.of_afc {c : Array Value} (h : c.all afc = true) : VRA β K c c :=
  .of_get rfl fun i v v' h1 h2 => by
    rw [h1] at h2; cases h2
    exact VR.of_afc (Array.all_eq_true'.1 h v (Array.mem_of_getElem? h1))
theorem VRA.afc_eq {c c' : Array Value} (h : c.all afc = true) (hv : VRA β K c c') : c' = c := by
  apply Array.ext_getElem?
  intro i
  cases hc : c[i]? with
  | none =>
    have : c.size ≤ i := by simpa using hc
    simp only [Array.getElem?_eq_none_iff]
    rw [hv.size]; exact this
  | some v =>
    obtain ⟨v', h1, h2⟩ := hv.get hc
    rw [h1, VR.afc_eq (Array.all_eq_true'.1 h v (Array.mem_of_getElem? hc)) h2]
theorem VR.of_af {v : Value} (h : af v = true) : VR β K v v := by
  cases v with
  | agg c => exact .agg _ _ (VRA.of_afc h)
  | tuple c => exact .tuple _ _ (VRA.of_afc h)
  | iface t v => exact .iface _ _ _ (VR.of_afc h)
  | _ => exact VR.of_afc h
theorem VR.af_eq {v v' : Value} (h : af v = true) (hv : VR β K v v') : v' = v := by
  cases hv with
  | agg c c' hh => rw [VRA.afc_eq h hh]
  | tuple c c' hh => rw [VRA.afc_eq h hh]
  | iface t v v' hh => rw [VR.afc_eq h hh]
  | any => simp [af, afc] at h
  | _ => first | rfl | simp [af, afc] at h
end

/-! Objects, heaps and worlds -/
def HObj.isRo : HObj → Bool
  | .cells _ _ .ro | .map _ _ .ro => true
  | _ => false
def roAt (h : H) (b : Nat) : Prop := ∃ o, h[b]? = some o ∧ o.isRo = true

/-- The size in cells of a type's elements, as the program's table tells it. -/
def szT (P : Program) (T : TypeId) : Nat := ((P.info? T).map (·.size)).getD 0

def ORel (P : Program) (β : Nat → Option Emb) (K : Nat → Prop) (e : Emb) : HObj → Obj → Prop
  | .cells cs T k, .cells cs' T' fr => T' = T ∧ cs'.size = e.shift + e.room ∧ (∀ (i : Nat) (v : Value), cs[i]? = some v → ∃ v', cs'[e.shift + i]? = some v' ∧ VR β K v v') ∧
      (match k with
       | .ro => e.g = none ∧ cs.size ≤ e.room
       | .own => e.g = none ∧ e.shift = 0 ∧ e.room = cs.size ∧ fr = (0, 0)
       | .text => e.g = none ∧ e.shift = 0 ∧ e.room = cs.size ∧ (fr.1 = fr.2 ∨ cs'.size ≤ fr.1)
       | .grown => e.g = some (szT P T, cs.size) ∧ cs.size ≤ e.room ∧ (fr.1 = fr.2 ∨ cs'.size ≤ fr.1))
  | .map es clock _, .map es' clock' => clock' = clock ∧ es'.size = es.size ∧ ∀ (i : Nat) (x x' : MapEntry), es[i]? = some x → es'[i]? = some x' → VR β K x.key x'.key ∧ VR β K x.val x'.val ∧ x'.born = x.born
  | .iter m since seen stepped, .mapIter m' since' seen' stepped' => VR β K (.map m) (.map m') ∧ e.shift = 0 ∧ since' = since ∧ seen' = seen ∧ stepped' = stepped
  | .siter s pos, .stringIter s' pos' => e.shift = 0 ∧ s' = s ∧ pos' = pos
  | _, _ => False

theorem ORel.mono {P : Program} {β β' : Nat → Option Emb} {K K' : Nat → Prop} (hK : ∀ b, K b → K' b) (hb : ∀ b, K b → β' b = β b ∨ β' b = none) {e : Emb} {o : HObj} {o' : Obj} (h : ORel P β K e o o') : ORel P β' K' e o o' := by
  cases o with
  | cells cs T k =>
    cases o' <;> simp only [ORel] at h ⊢
    obtain ⟨h1, h2, h3, h4⟩ := h
    exact ⟨h1, h2, fun i v hv => let ⟨v', a, b⟩ := h3 i v hv; ⟨v', a, b.mono hK hb⟩, h4⟩
  | map es clock k =>
    cases o' <;> simp only [ORel] at h ⊢
    obtain ⟨h1, h2, h3⟩ := h
    exact ⟨h1, h2, fun i x x' a b => let ⟨u, v, w⟩ := h3 i x x' a b; ⟨u.mono hK hb, v.mono hK hb, w⟩⟩
  | iter m since seen stepped =>
    cases o' <;> simp only [ORel] at h ⊢
    exact ⟨h.1.mono hK hb, h.2⟩
  | siter s pos => cases o' <;> simp only [ORel] at h ⊢; exact h
  | dead => cases o' <;> simp [ORel] at h

structure Rel (P : Program) (β : Nat → Option Emb) (h : H) (w : World) : Prop where
  live : ∀ b o, h[b]? = some o → o ≠ .dead → (β b).isSome = true
  obj : ∀ b e, β b = some e → ∃ o o', h[b]? = some o ∧ w.heap[e.blk]? = some o' ∧ ORel P β (· < h.size) e o o'
  inj : ∀ b c e f, β b = some e → β c = some f → e.blk = f.blk → b = c ∨ (roAt h b ∧ roAt h c)

abbrev VRh (β : Nat → Option Emb) (h : H) := VR β (· < h.size)

structure Evo (β : Nat → Option Emb) (h : H) (w : World) (β' : Nat → Option Emb) (h' : H) (w' : World) : Prop where
  hsize : h.size ≤ h'.size
  old : ∀ b, b < h.size → β' b = β b ∨ β' b = none
  ro : ∀ b e, β b = some e → roAt h b → β' b = some e ∧ h'[b]? = h[b]?
  fresh : ∀ b e, β' b = some e → ¬ b < h.size → w.heap.size ≤ e.blk ∨ ∃ c f, c < h.size ∧ β c = some f ∧ f.blk = e.blk ∧ ¬ roAt h c
  wsize : w.heap.size ≤ w'.heap.size
  keep : ∀ c, c < w.heap.size → (∀ b e, β b = some e → e.blk = c → roAt h b) → w'.heap[c]? = w.heap[c]?
  os : w'.os = w.os
  tape : w'.tape = w.tape
  output : w'.output = w.output

theorem Evo.refl {β : Nat → Option Emb} {h : H} (w : World) (hβ : ∀ b e, β b = some e → b < h.size) : Evo β h w β h w :=
  ⟨Nat.le_refl _, fun _ _ => .inl rfl, fun _ _ hb _ => ⟨hb, rfl⟩, fun b e hb hn => absurd (hβ b e hb) hn, Nat.le_refl _, fun _ _ _ => rfl, rfl, rfl, rfl⟩

theorem roAt_of_eq {h h' : H} {b : Nat} (e : h'[b]? = h[b]?) : roAt h' b ↔ roAt h b := by unfold roAt; rw [e]

theorem Evo.trans {β β1 β2 : Nat → Option Emb} {h h1 h2 : H} {w w1 w2 : World} (A : Evo β h w β1 h1 w1) (B : Evo β1 h1 w1 β2 h2 w2) : Evo β h w β2 h2 w2 where
  hsize := Nat.le_trans A.hsize B.hsize
  old b hb := by
    rcases B.old b (Nat.lt_of_lt_of_le hb A.hsize) with k | k
    · rw [k]; exact A.old b hb
    · exact .inr k
  ro b e hb hr := by
    obtain ⟨k1, k2⟩ := A.ro b e hb hr
    obtain ⟨k3, k4⟩ := B.ro b e k1 ((roAt_of_eq k2).2 hr)
    exact ⟨k3, k4.trans k2⟩
  fresh b e hb hn := by
    by_cases hb1 : b < h1.size
    · rcases B.old b hb1 with k | k
      · exact A.fresh b e (k ▸ hb) hn
      · rw [k] at hb; cases hb
    · rcases B.fresh b e hb hb1 with k | ⟨c, f, hc, hf, hfe, hnr⟩
      · exact .inl (Nat.le_trans A.wsize k)
      · by_cases hch : c < h.size
        · rcases A.old c hch with k | k
          · exact .inr ⟨c, f, hch, k ▸ hf, hfe, fun hr => hnr ((roAt_of_eq (A.ro c f (k ▸ hf) hr).2).2 hr)⟩
          · rw [k] at hf; cases hf
        · rcases A.fresh c f hf hch with k | ⟨d, g, hd, hg, hgf, hnd⟩
          · exact .inl (hfe ▸ k)
          · exact .inr ⟨d, g, hd, hg, hgf.trans hfe, hnd⟩
  wsize := Nat.le_trans A.wsize B.wsize
  keep c hc hall := by
    rw [← A.keep c hc hall]
    refine B.keep c (Nat.lt_of_lt_of_le hc A.wsize) fun b e hb he => ?_
    by_cases hbh : b < h.size
    · rcases A.old b hbh with k | k
      · have hr := hall b e (k ▸ hb) he
        exact (roAt_of_eq (A.ro b e (k ▸ hb) hr).2).2 hr
      · rw [k] at hb; cases hb
    · rcases A.fresh b e hb hbh with k | ⟨d, g, hd, hg, hge, hnd⟩
      · omega
      · exact absurd (hall d g hg (hge.trans he)) hnd
  os := B.os.trans A.os
  tape := B.tape.trans A.tape
  output := B.output.trans A.output

section
variable {P : Program} {β : Nat → Option Emb} {h : H} {w : World}

theorem Rel.lt (hr : Rel P β h w) {b : Nat} {e : Emb} (hb : β b = some e) : b < h.size := by
  obtain ⟨o, o', h1, _⟩ := hr.obj b e hb
  exact (Array.getElem?_eq_some_iff.1 h1).1
theorem Rel.blk_lt (hr : Rel P β h w) {b : Nat} {e : Emb} (hb : β b = some e) : e.blk < w.heap.size := by
  obtain ⟨o, o', _, h1, _⟩ := hr.obj b e hb
  exact (Array.getElem?_eq_some_iff.1 h1).1
theorem Rel.refl (hr : Rel P β h w) : Evo β h w β h w := Evo.refl w fun _ _ => hr.lt

/-- Changes of the world that touch no block (a draw). -/
theorem Rel.same (hr : Rel P β h w) {w' : World} (hh : w'.heap = w.heap) : Rel P β h w' :=
  ⟨hr.live, fun b e hb => by rw [hh]; exact hr.obj b e hb, hr.inj⟩
theorem Rel.evo_same (hr : Rel P β h w) {w' : World} (hh : w'.heap = w.heap) (h1 : w'.os = w.os) (h2 : w'.tape = w.tape) (h3 : w'.output = w.output) : Evo β h w β h w' :=
  { hr.refl with wsize := by rw [hh]; exact Nat.le_refl _, keep := fun c _ _ => by rw [hh], os := h1, tape := h2, output := h3 }

def upd (β : Nat → Option Emb) (b : Nat) (e : Option Emb) : Nat → Option Emb := fun c => if c = b then e else β c
theorem upd_at (b : Nat) (e : Option Emb) : upd β b e b = e := by simp [upd]
theorem upd_ne {b c : Nat} (e : Option Emb) (hn : c ≠ b) : upd β b e c = β c := by simp [upd, hn]

/-- A new block. -/
theorem Rel.alloc (hr : Rel P β h w) {obj : HObj} {o' : Obj} {e : Emb} (he : e.blk = w.heap.size) (ho : ORel P β (· < h.size) e obj o') {w' : World} (hw' : w'.heap = w.heap.push o') (h1 : w'.os = w.os) (h2 : w'.tape = w.tape) (h3 : w'.output = w.output) :
    Rel P (upd β h.size (some e)) (h.push obj) w' ∧ Evo β h w (upd β h.size (some e)) (h.push obj) w' := by
  have hβ : ∀ b, b < h.size → upd β h.size (some e) b = β b := fun b hb => upd_ne _ (by omega)
  have hmono : ∀ b, b < h.size → upd β h.size (some e) b = β b ∨ upd β h.size (some e) b = none := fun b hb => .inl (hβ b hb)
  have hro : ∀ b, b < h.size → (roAt (h.push obj) b ↔ roAt h b) := fun b hb => roAt_of_eq (by rw [Array.getElem?_push, if_neg (by omega)])
  refine ⟨⟨?_, ?_, ?_⟩, ?_⟩
  · intro b o hb hd
    by_cases hbe : b = h.size
    · subst hbe; simp [upd_at]
    · rw [upd_ne _ hbe]; rw [Array.getElem?_push, if_neg hbe] at hb; exact hr.live b o hb hd
  · intro b f hb
    by_cases hbe : b = h.size
    · subst hbe; rw [upd_at] at hb; cases hb
      exact ⟨obj, o', by simp, by rw [hw', he]; simp, ho.mono (fun b hb => by simp; omega) hmono⟩
    · rw [upd_ne _ hbe] at hb
      obtain ⟨o, o2, k1, k2, k3⟩ := hr.obj b f hb
      refine ⟨o, o2, by rw [Array.getElem?_push, if_neg hbe]; exact k1, ?_, k3.mono (fun b hb => by simp; omega) hmono⟩
      rw [hw', Array.getElem?_push, if_neg (Nat.ne_of_lt (hr.blk_lt hb))]; exact k2
  · intro b c f g hb hc hfg
    by_cases hbe : b = h.size
    · by_cases hce : c = h.size
      · exact .inl (hbe.trans hce.symm)
      · subst hbe; rw [upd_at] at hb; cases hb; rw [upd_ne _ hce] at hc
        have := hr.blk_lt hc; omega
    · rw [upd_ne _ hbe] at hb
      by_cases hce : c = h.size
      · subst hce; rw [upd_at] at hc; cases hc
        have := hr.blk_lt hb; omega
      · rw [upd_ne _ hce] at hc
        rcases hr.inj b c f g hb hc hfg with k | ⟨k1, k2⟩
        · exact .inl k
        · exact .inr ⟨(hro b (hr.lt hb)).2 k1, (hro c (hr.lt hc)).2 k2⟩
  · refine ⟨by simp, hmono, fun b f hb _ => ⟨by rw [hβ b (hr.lt hb)]; exact hb, by rw [Array.getElem?_push, if_neg (Nat.ne_of_lt (hr.lt hb))]⟩, ?_, by rw [hw']; simp, fun c hc _ => by rw [hw', Array.getElem?_push, if_neg (Nat.ne_of_lt hc)], h1, h2, h3⟩
    intro b f hb hn
    by_cases hbe : b = h.size
    · subst hbe; rw [upd_at] at hb; cases hb; exact .inl (by omega)
    · rw [upd_ne _ hbe] at hb; exact absurd (hr.lt hb) hn

theorem roAt_set_self {h : H} {b : Nat} {obj : HObj} (hnro : obj.isRo = false) : ¬ roAt (h.setIfInBounds b obj) b := by
  rintro ⟨o, h1, h2⟩
  rw [Array.getElem?_setIfInBounds] at h1
  split at h1
  · split at h1
    · cases h1; rw [hnro] at h2; cases h2
    · cases h1
  · simp at *

/-- The content of a block that may be written. -/
theorem Rel.set (hr : Rel P β h w) {b : Nat} {obj : HObj} {o' : Obj} {e : Emb} (hb : β b = some e) (hn : ¬ roAt h b) (ho : ORel P β (· < h.size) e obj o') {w' : World} (hw' : w'.heap = w.heap.setIfInBounds e.blk o') (h1 : w'.os = w.os) (h2 : w'.tape = w.tape) (h3 : w'.output = w.output) :
    Rel P β (h.setIfInBounds b obj) w' ∧ Evo β h w β (h.setIfInBounds b obj) w' := by
  have hro : ∀ c, c ≠ b → (roAt (h.setIfInBounds b obj) c ↔ roAt h c) := fun c hc => roAt_of_eq (by rw [Array.getElem?_setIfInBounds, if_neg (by omega)])
  have hsz : ∀ c, c < h.size → c < (h.setIfInBounds b obj).size := fun c hc => by simpa using hc
  have hne : ∀ c f, β c = some f → c ≠ b → f.blk ≠ e.blk := fun c f hc hcb hfe => by
    rcases hr.inj c b f e hc hb hfe with k | k
    · exact hcb k
    · exact hn k.2
  refine ⟨⟨?_, ?_, ?_⟩, ?_⟩
  · intro c o hc hd
    by_cases hcb : c = b
    · subst hcb; simp [hb]
    · rw [Array.getElem?_setIfInBounds, if_neg (by omega)] at hc; exact hr.live c o hc hd
  · intro c f hc
    by_cases hcb : c = b
    · subst hcb; rw [hb] at hc; cases hc
      refine ⟨obj, o', by rw [Array.getElem?_setIfInBounds, if_pos rfl, if_pos (hr.lt hb)], ?_, ho.mono (fun b hb => by simpa using hb) (fun b _ => .inl rfl)⟩
      rw [hw', Array.getElem?_setIfInBounds, if_pos rfl, if_pos (hr.blk_lt hb)]
    · obtain ⟨o, o2, k1, k2, k3⟩ := hr.obj c f hc
      refine ⟨o, o2, by rw [Array.getElem?_setIfInBounds, if_neg (by omega)]; exact k1, ?_, k3.mono (fun b hb => by simpa using hb) (fun b _ => .inl rfl)⟩
      rw [hw', Array.getElem?_setIfInBounds, if_neg (fun hh => hne c f hc hcb hh.symm)]; exact k2
  · intro c d f g hc hd hfg
    rcases hr.inj c d f g hc hd hfg with k | ⟨k1, k2⟩
    · exact .inl k
    · by_cases hcb : c = b
      · exact absurd (hcb ▸ k1) hn
      · by_cases hdb : d = b
        · exact absurd (hdb ▸ k2) hn
        · exact .inr ⟨(hro c hcb).2 k1, (hro d hdb).2 k2⟩
  · refine ⟨by simp, fun _ _ => .inl rfl, fun c f hc hcr => ⟨hc, ?_⟩, fun c f hc hcn => absurd (hr.lt hc) hcn, by rw [hw']; simp, ?_, h1, h2, h3⟩
    · rw [Array.getElem?_setIfInBounds, if_neg]; rintro rfl; exact hn hcr
    · intro c hc hall
      rw [hw', Array.getElem?_setIfInBounds, if_neg]; rintro rfl; exact hn (hall b e hb rfl)

/-- A block is dropped. -/
theorem Rel.kill (hr : Rel P β h w) (b : Nat) (hn : ¬ roAt h b) :
    Rel P (upd β b none) (h.setIfInBounds b .dead) w ∧ Evo β h w (upd β b none) (h.setIfInBounds b .dead) w := by
  have hmono : ∀ c, c < h.size → upd β b none c = β c ∨ upd β b none c = none := fun c _ => by
    by_cases hcb : c = b
    · subst hcb; exact .inr (upd_at _ _)
    · exact .inl (upd_ne _ hcb)
  have hro : ∀ c, c ≠ b → (roAt (h.setIfInBounds b .dead) c ↔ roAt h c) := fun c hc => roAt_of_eq (by rw [Array.getElem?_setIfInBounds, if_neg (by omega)])
  refine ⟨⟨?_, ?_, ?_⟩, ?_⟩
  · intro c o hc hd
    by_cases hcb : c = b
    · subst hcb; rw [Array.getElem?_setIfInBounds, if_pos rfl] at hc
      split at hc
      · cases hc; exact absurd rfl hd
      · cases hc
    · rw [upd_ne _ hcb]; rw [Array.getElem?_setIfInBounds, if_neg (by omega)] at hc; exact hr.live c o hc hd
  · intro c f hc
    by_cases hcb : c = b
    · subst hcb; rw [upd_at] at hc; cases hc
    · rw [upd_ne _ hcb] at hc
      obtain ⟨o, o2, k1, k2, k3⟩ := hr.obj c f hc
      exact ⟨o, o2, by rw [Array.getElem?_setIfInBounds, if_neg (by omega)]; exact k1, k2, k3.mono (fun b hb => by simpa using hb) hmono⟩
  · intro c d f g hc hd hfg
    have hcb : c ≠ b := by rintro rfl; rw [upd_at] at hc; cases hc
    have hdb : d ≠ b := by rintro rfl; rw [upd_at] at hd; cases hd
    rw [upd_ne _ hcb] at hc; rw [upd_ne _ hdb] at hd
    rcases hr.inj c d f g hc hd hfg with k | ⟨k1, k2⟩
    · exact .inl k
    · exact .inr ⟨(hro c hcb).2 k1, (hro d hdb).2 k2⟩
  · refine ⟨by simp, hmono, fun c f hc hcr => ?_, fun c f hc hcn => ?_, Nat.le_refl _, fun _ _ _ => rfl, rfl, rfl, rfl⟩
    · have hcb : c ≠ b := by rintro rfl; exact hn hcr
      exact ⟨by rw [upd_ne _ hcb]; exact hc, by rw [Array.getElem?_setIfInBounds, if_neg (by omega)]⟩
    · have hcb : c ≠ b := by rintro rfl; rw [upd_at] at hc; cases hc
      rw [upd_ne _ hcb] at hc; exact absurd (hr.lt hc) hcn

/-- A block is dropped, and a new one lies in its place in the world. -/
theorem Rel.moved (hr : Rel P β h w) {b : Nat} {obj : HObj} {o' : Obj} {e e' : Emb} (hb : β b = some e) (hn : ¬ roAt h b) (he : e'.blk = e.blk) (ho : ORel P β (· < h.size) e' obj o') {w' : World} (hw' : w'.heap = w.heap.setIfInBounds e.blk o') (h1 : w'.os = w.os) (h2 : w'.tape = w.tape) (h3 : w'.output = w.output) :
    Rel P (upd (upd β b none) h.size (some e')) ((h.setIfInBounds b .dead).push obj) w' ∧ Evo β h w (upd (upd β b none) h.size (some e')) ((h.setIfInBounds b .dead).push obj) w' := by
  have hbl := hr.lt hb
  have hmono : ∀ c, c < h.size → upd (upd β b none) h.size (some e') c = β c ∨ upd (upd β b none) h.size (some e') c = none := fun c hc => by
    rw [upd_ne _ (by omega)]
    by_cases hcb : c = b
    · subst hcb; exact .inr (upd_at _ _)
    · exact .inl (upd_ne _ hcb)
  have hget : ∀ c, c ≠ b → c < h.size → ((h.setIfInBounds b .dead).push obj)[c]? = h[c]? := fun c hc hl => by
    rw [Array.getElem?_push, if_neg (by simp; omega), Array.getElem?_setIfInBounds, if_neg (by omega)]
  have hne : ∀ c f, β c = some f → c ≠ b → f.blk ≠ e.blk := fun c f hc hcb hfe => by
    rcases hr.inj c b f e hc hb hfe with k | k
    · exact hcb k
    · exact hn k.2
  have hcase : ∀ c f, upd (upd β b none) h.size (some e') c = some f → (c = h.size ∧ f = e') ∨ (c < h.size ∧ c ≠ b ∧ β c = some f) := fun c f hc => by
    by_cases hce : c = h.size
    · subst hce; rw [upd_at] at hc; cases hc; exact .inl ⟨rfl, rfl⟩
    · rw [upd_ne _ hce] at hc
      have hcb : c ≠ b := by rintro rfl; rw [upd_at] at hc; cases hc
      rw [upd_ne _ hcb] at hc
      exact .inr ⟨hr.lt hc, hcb, hc⟩
  refine ⟨⟨?_, ?_, ?_⟩, ?_⟩
  · intro c o hc hd
    by_cases hce : c = h.size
    · subst hce; simp [upd_at]
    · rw [upd_ne _ hce]
      by_cases hcb : c = b
      · subst hcb
        rw [Array.getElem?_push, if_neg (by simp; omega), Array.getElem?_setIfInBounds, if_pos rfl, if_pos hbl] at hc
        cases hc; exact absurd rfl hd
      · rw [upd_ne _ hcb]
        by_cases hl : c < h.size
        · rw [hget c hcb hl] at hc; exact hr.live c o hc hd
        · rw [Array.getElem?_eq_none (by simp; omega)] at hc; cases hc
  · intro c f hc
    rcases hcase c f hc with ⟨rfl, rfl⟩ | ⟨hl, hcb, hc⟩
    · refine ⟨obj, o', ?_, ?_, ho.mono (fun b hb => by simp; omega) hmono⟩
      · rw [Array.getElem?_push, if_pos (by simp)]
      · rw [hw', he, Array.getElem?_setIfInBounds, if_pos rfl, if_pos (hr.blk_lt hb)]
    · obtain ⟨o, o2, k1, k2, k3⟩ := hr.obj c f hc
      refine ⟨o, o2, by rw [hget c hcb hl]; exact k1, ?_, k3.mono (fun b hb => by simp; omega) hmono⟩
      rw [hw', Array.getElem?_setIfInBounds, if_neg (fun hh => hne c f hc hcb hh.symm)]; exact k2
  · intro c d f g hc hd hfg
    rcases hcase c f hc with ⟨rfl, rfl⟩ | ⟨hl, hcb, hc2⟩
    · rcases hcase d g hd with ⟨rfl, rfl⟩ | ⟨hld, hdb, hd2⟩
      · exact .inl rfl
      · exact absurd (hfg.symm.trans he) (hne d g hd2 hdb)
    · rcases hcase d g hd with ⟨rfl, rfl⟩ | ⟨hld, hdb, hd2⟩
      · exact absurd (hfg.trans he) (hne c f hc2 hcb)
      · rcases hr.inj c d f g hc2 hd2 hfg with k | ⟨k1, k2⟩
        · exact .inl k
        · exact .inr ⟨(roAt_of_eq (hget c hcb hl)).2 k1, (roAt_of_eq (hget d hdb hld)).2 k2⟩
  · refine ⟨by simp, hmono, fun c f hc hcr => ?_, fun c f hc hcn => ?_, by rw [hw']; simp, ?_, h1, h2, h3⟩
    · have hcb : c ≠ b := by rintro rfl; exact hn hcr
      have hl := hr.lt hc
      exact ⟨by rw [upd_ne _ (by omega), upd_ne _ hcb]; exact hc, hget c hcb hl⟩
    · rcases hcase c f hc with ⟨rfl, rfl⟩ | ⟨hl, _, _⟩
      · exact .inr ⟨b, e, hbl, hb, he.symm, hn⟩
      · exact absurd hl hcn
    · intro c hc hall
      rw [hw', Array.getElem?_setIfInBounds, if_neg]; rintro rfl; exact hn (hall b e hb rfl)
end
end Go.Am
