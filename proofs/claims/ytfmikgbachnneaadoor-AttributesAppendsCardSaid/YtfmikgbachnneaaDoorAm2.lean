/- The canonical evaluator. -/
import Derived.Test.YtfmikgbachnneaaDoorAm1
set_option linter.unusedSimpArgs false
set_option linter.unusedVariables false
namespace Go.Am

def quiet {α : Type} (P : Program) : Sem α → Option α
  | .pure a => some a
  | .program k => quiet P (k P)
  | .mark _ k => quiet P k
  | _ => none

/-! one-cell values -/
def oc : Value → Bool
  | .agg _ | .tuple _ | .chan _ => false
  | _ => true
def isAny : Value → Bool
  | .chan _ => true
  | _ => false

/-- Equality of plain values, as far as it is decided. -/
def veqc : Value → Value → Bool
  | .bool a, .bool b => a == b
  | .int j a, .int k b => j == k && a == b
  | .string a, .string b => a.data == b.data
  | .pointer a, .pointer b => a == b
  | .slice a l c, .slice b m d => a == b && l == m && c == d
  | .map a, .map b => a == b
  | .func f a b, .func g c d => f == g && a.isEmpty && b.isEmpty && c.isEmpty && d.isEmpty
  | .nilFunc, .nilFunc => true
  | .nilIface, .nilIface => true
  | _, _ => false
def veqs : List Value → List Value → Bool
  | [], [] => true
  | a :: l, b :: m => veqc a b && veqs l m
  | _, _ => false
def veq : Value → Value → Bool
  | .agg a, .agg b => veqs a.toList b.toList
  | .tuple a, .tuple b => veqs a.toList b.toList
  | a, b => veqc a b

/-! ### operations that only look at their operands -/
def zeroAf (P : Program) (t : TypeId) : Bool := match (P.info? t).bind (·.zero) with | some z => z.cells.all afc | none => false

def fieldSized (P : Program) (s : TypeId) (f : Nat) : Bool := match P.underlying s with | some (.struct fs) => (match fs[f]? with | some fd => szT P fd.type != 0 | none => false) | _ => false

def isU8 (P : Program) (e : TypeId) : Bool := match P.underlying e with | some (.int .u8) => true | _ => false

def keepAf (r : Option Value) : Option Value := r.bind fun v => if af v then some v else none

def evPure (P : Program) (o : Oper) (ρ : Operand → Value) : Option Value :=
  match o.op with
  | .move x | .assign x => some (ρ x)
  | .pick c a b => match ρ c with | .bool t => some (if t then ρ a else ρ b) | _ => none
  | .build t parts => if zeroAf P t && (parts.map fun (_, x) => ρ x).all (fun v => !isAny v) then quiet P (Instr.build t (parts.map fun (i, x) => (i, ρ x))) else none
  | .nilCheck x => match ρ x with | .pointer (some a) => some (.pointer (some a)) | .func (.func f) fi ca => some (.func (.func f) fi ca) | _ => none
  | .binOp op t x y _ => if af (ρ x) && af (ρ y) then keepAf (quiet P (binOp op t (ρ x) (ρ y))) else none
  | .unOp op _ x => if af (ρ x) then keepAf (quiet P (Op.unary op (ρ x))) else none
  | .convert s d x => if af (ρ x) then keepAf (quiet P (convert s d (ρ x))) else none
  | .makeInterface t x => quiet P (Instr.makeInterface t (ρ x))
  | .makeFunc fn fi ca => some (.func fn (fi.map ρ) (ca.map ρ))
  | .fieldAddr s x f => if fieldSized P s f then quiet P (Instr.fieldAt s (ρ x) f) else none
  | .field t x f => quiet P (Instr.field t (ρ x) f)
  | .indexAddr t x i => quiet P (Instr.indexAt t (ρ x) (ρ i))
  | .index t x i => quiet P (Instr.index t (ρ x) (ρ i))
  | .extract t i => quiet P (Instr.extract (ρ t) i)
  | .call c => match c.callee with
    | .builtin .min => if (c.args.map ρ).all af then keepAf (quiet P (Builtin.min_ c.argTypes o.type (c.args.map ρ))) else none
    | .builtin .max => if (c.args.map ρ).all af then keepAf (quiet P (Builtin.max_ c.argTypes o.type (c.args.map ρ))) else none
    | _ => none
  | _ => none

/-! ### operations that read -/
def cLoad (P : Program) (t : TypeId) (v : Value) (h : H) : Option Value :=
  match v with
  | .pointer (some ⟨b, o, none⟩) => match h[b]? with
    | some (.cells cs _ _) => match P.underlying t, P.info? t with
      | some (.struct _), some i | some (.array _ _), some i => if o + i.size ≤ cs.size then some (.agg (cs.extract o (o + i.size))) else none
      | some _, some _ => cs[o]?
      | _, _ => none
    | _ => none
  | _ => none

def cNilEq (d : TypeDesc) (x y : Value) : Option Bool :=
  match d, x, y with
  | .pointer _, .pointer (some _), .pointer none | .pointer _, .pointer none, .pointer (some _) => some false
  | .slice _, .slice (some _) _ _, .slice none _ _ | .slice _, .slice none _ _, .slice (some _) _ _ => some false
  | .map _ _, .map (some _), .map none | .map _ _, .map none, .map (some _) => some false
  | .func _ _ _, .func _ _ _, .nilFunc | .func _ _ _, .nilFunc, .func _ _ _ => some false
  | _, _, _ => none
def cEq (P : Program) (t : TypeId) (x y : Value) (h : H) : Option Bool :=
  match P.underlying t with
  | some (.pointer e) => match x, y with
    | .pointer (some ⟨a, i, none⟩), .pointer (some ⟨b, j, none⟩) =>
      if szT P e = 0 then none else
      match h[a]?, h[b]? with
      | some (.cells _ _ .own), some (.cells _ _ .own) => some (decide (a = b ∧ i = j))
      | _, _ => none
    | _, _ => cNilEq (.pointer e) x y
  | some d => cNilEq d x y
  | none => none

def cSlice (P : Program) (t : TypeId) (x : Value) (lo hi mx : Option Value) (h : H) : Option Value :=
  match P.underlying t, x with
  | some (.slice e), .slice none len cap =>
    if (P.info? e).isNone ∨ ¬ len ≤ cap then none else
    (quiet P (Instr.sliceBounds true len cap lo hi mx)).map fun (l, h', m) => .slice none (h' - l) (m - l)
  | some (.slice e), .slice (some ⟨b, o, none⟩) len cap =>
    match h[b]? with
    | some (.cells _ T k) => if (P.info? e).isNone ∨ (k = .grown ∧ szT P T ≠ szT P e) then none else
      (quiet P (Instr.sliceBounds true len cap lo hi mx)).map fun (l, h', m) => .slice (some ⟨b, o + l * szT P e, none⟩) (h' - l) (m - l)
    | _ => none
  | some .string, .string s => if mx.isSome then none else (quiet P (Instr.sliceBounds false s.size s.size lo hi mx)).map fun (l, h', _) => .string (s.extract l h')
  | some (.array n e), .pointer (some ⟨b, o, none⟩) =>
    match h[b]? with
    | some (.cells _ _ k) => if (P.info? e).isNone ∨ k = .grown then none else
      (quiet P (Instr.sliceBounds false n n lo hi mx)).map fun (l, h', m) => .slice (some ⟨b, o + l * szT P e, none⟩) (h' - l) (m - l)
    | _ => none
  | _, _ => none

def cEntries (x : Value) (h : H) : Option (Array MapEntry) :=
  match x with
  | .map none => some #[]
  | .map (some r) => match h[r]? with | some (.map es _ _) => some es | _ => none
  | _ => none
def cFindPtr (P : Program) (kt : TypeId) (k : Value) (h : H) : List MapEntry → Nat → Option (Option (Nat × Value))
  | [], _ => some none
  | e :: es, i => match cEq P kt k e.key h with
    | some true => some (some (i, e.val))
    | some false => cFindPtr P kt k h es (i + 1)
    | none => none
def isPtrT (P : Program) (t : TypeId) : Bool := match P.underlying t with | some (.pointer _) => true | _ => false
def cFind (P : Program) (kt : TypeId) (k : Value) (es : Array MapEntry) (h : H) : Option (Option (Nat × Value)) :=
  if afc k && !isPtrT P kt then
    match quiet P (Instr.checkKey es.isEmpty 10000 kt k), P.underlying kt with
    | some (), some d => Instr.findNow d k es.toList 0
    | _, _ => none
  else if isPtrT P kt then cFindPtr P kt k h es.toList 0
  else none
def cLookup (P : Program) (t : TypeId) (x k : Value) (ok : Bool) (h : H) : Option Value :=
  match P.underlying t with
  | some (.map kt et) => (cEntries x h).bind fun es => (cFind P kt k es h).bind fun
    | some (_, v) => some (if ok then .tuple #[v, .bool true] else v)
    | none => if zeroAf P et then ((P.info? et).bind (·.zero)).map fun z => if ok then .tuple #[z, .bool false] else z else none
  | _ => none

def bytesOf (cs : List Value) : Option (List UInt8) := cs.mapM fun | .int .u8 n => some (UInt8.ofNat n.toNat) | _ => none
def cCells (v : Value) (n : Nat) (h : H) : Option (Array Value) :=
  match v with
  | .slice none _ _ => some #[]
  | .slice (some ⟨b, o, none⟩) _ _ => match h[b]? with
    | some (.cells cs _ _) => if o + n ≤ cs.size then some (cs.extract o (o + n)) else none
    | _ => none
  | .string s => some ((s.extract 0 n).data.map fun b => .int .u8 b.toNat)
  | _ => none
def cLen (v : Value) : Option Nat :=
  match v with
  | .slice _ n _ => some n
  | .string s => some s.size
  | _ => none

def evRead (P : Program) (o : Oper) (ρ : Operand → Value) (h : H) : Option Value :=
  match o.op with
  | .load t a => cLoad P t (ρ a) h
  | .binOp op t x y _ =>
    if af (ρ x) && af (ρ y) then keepAf (quiet P (do eqGuard op t x y (ρ x) (ρ y); binOp op t (ρ x) (ρ y))) else
    match op with
    | .eql => (cEq P t (ρ x) (ρ y) h).map fun b => .bool b
    | .neq => (cEq P t (ρ x) (ρ y) h).map fun b => .bool (!b)
    | _ => none
  | .slice t x lo hi mx => cSlice P t (ρ x) (lo.map ρ) (hi.map ρ) (mx.map ρ) h
  | .lookup t m k ok => cLookup P t (ρ m) (ρ k) ok h
  | .convert s d x => match P.underlying s, P.underlying d, ρ x with
    | some (.slice e), some .string, .slice a n c =>
      if isU8 P e then ((cCells (.slice a n c) n h).bind fun cs => bytesOf cs.toList).map fun l => .string ⟨l.toArray⟩ else none
    | _, _, _ => none
  | .call c => match c.callee with
    | .builtin .len => match (c.argTypes[0]?).bind P.underlying, (c.args.map ρ)[0]? with
      | some .string, some (Value.string s) => some (.int .i64 s.size)
      | some (.array n _), some _ => some (.int .i64 n)
      | some (.slice _), some (Value.slice _ n _) => some (.int .i64 n)
      | some (.map _ _), some x => (cEntries x h).map fun es => .int .i64 es.size
      | _, _ => none
    | _ => none
  | _ => none

/-! ### operations that write, make or call -/
def putL (cs : Array Value) (o : Nat) : List Value → Array Value
  | [] => cs
  | v :: r => putL (cs.setIfInBounds o v) (o + 1) r
def cPut (b o : Nat) (vs : List Value) (h : H) : Option H :=
  match h[b]? with
  | some (.cells cs T k) => if k = .ro ∨ vs.all oc = false ∨ ¬ o + vs.length ≤ cs.size then none else some (h.setIfInBounds b (.cells (putL cs o vs) T k))
  | _ => none
def cPut' (b o : Nat) (vs : List Value) (h : H) : Option H := if vs.isEmpty then some h else cPut b o vs h
/-- What an element type must be for rows of it to grow. -/
def growOk (P : Program) (e : TypeId) : Bool :=
  match P.info? e with
  | some i => i.size != 0 && i.bytes != 0 && (match i.zero with | some z => z.cells.all afc && z.cells.size == i.size | none => false)
  | none => false
def srcOk (P : Program) (e : TypeId) : Value → Bool
  | .string _ => szT P e == 1
  | _ => true
def cStore (P : Program) (t : TypeId) (a v : Value) (h : H) : Option H :=
  match a with
  | .pointer (some ⟨b, o, none⟩) => if isAny v ∨ v.cells.size ≠ szT P t ∨ (P.info? t).isNone then none else cPut b o v.cells.toList h
  | _ => none

def cNew (obj : HObj) (h : H) : Value × H := (.pointer (some ⟨h.size, 0, none⟩), h.push obj)

def isSeqT : TypeDesc → Bool
  | .slice _ | .string => true
  | _ => false
def cAppend (P : Program) (argTypes : Array TypeId) (args : Array Value) (h : H) : Option (Value × H) :=
  match argTypes[0]?, argTypes[1]?, args[0]?, args[1]? with
  | some st, some xt, some (Value.slice base sLen sCap), some x =>
    match P.underlying st, P.underlying xt with
    | some (.slice e), some xd =>
      if !isSeqT xd || !growOk P e || !srcOk P e x then none else
      (cLen x).bind fun n => (cCells x (n * szT P e) h).bind fun new =>
      let need := sLen + n
      if new.toList.all oc = false ∨ new.size ≠ n * szT P e then none else
      if need ≤ sCap then
        match base with
        | none => some (.slice none need sCap, h)
        | some ⟨b, o, none⟩ => match h[b]? with
          | some (.cells _ _ _) => (cPut' b (o + sLen * szT P e) new.toList h).map fun h' => (.slice (some ⟨b, o, none⟩) need sCap, h')
          | _ => none
        | _ => none
      else if ¬ need * (((P.info? e).map (·.bytes)).getD 0) ≤ 2 ^ 47 then none else
        match base with
        | none => if sLen = 0 then some (.slice (some ⟨h.size, 0, none⟩) need need, h.push (.cells new e .grown)) else none
        | some ⟨b, o, none⟩ => match h[b]? with
          | some (.cells cs T k) =>
            if ¬ o + sLen * szT P e ≤ cs.size then none else
            let old := cs.extract o (o + sLen * szT P e)
            if k = .grown ∧ ¬ o + sCap * szT P T < cs.size then
              if szT P T ≠ szT P e ∨ T ≠ e then none else some (.slice (some ⟨h.size, 0, none⟩) need need, (h.setIfInBounds b .dead).push (.cells (old ++ new) e .grown))
            else some (.slice (some ⟨h.size, 0, none⟩) need need, h.push (.cells (old ++ new) e .grown))
          | _ => none
        | _ => none
    | _, _ => none
  | _, _, _, _ => none

def cCopy (P : Program) (argTypes : Array TypeId) (args : Array Value) (h : H) : Option (Value × H) :=
  match argTypes[0]?, args[0]?, args[1]? with
  | some dt, some (Value.slice base dLen _), some src =>
    match P.underlying dt with
    | some (.slice e) => if (P.info? e).isNone || !srcOk P e src then none else (cLen src).bind fun sn =>
      let n := Nat.min sn dLen
      (cCells src (n * szT P e) h).bind fun cells =>
      match base with
      | none => some (.int .i64 n, h)
      | some ⟨b, o, none⟩ => (cPut' b o cells.toList h).map fun h' => (.int .i64 n, h')
      | _ => none
    | _ => none
  | _, _, _ => none

def cMapSet (P : Program) (t : TypeId) (m k v : Value) (h : H) : Option H :=
  match P.underlying t, m with
  | some (.map kt _), .map (some r) => match h[r]? with
    | some (.map es clock kd) => if kd = .ro then none else
      match quiet P (Instr.checkKey false 10000 kt k), cFind P kt k es h with
      | some (), some (some (i, _)) => if afc k && afc (((es[i]?).map (·.key)).getD k) && Instr.sameBits 10000 (((es[i]?).map (·.key)).getD k) k then some (h.setIfInBounds r (.map (es.modify i fun e => { e with key := k, val := v }) clock kd)) else none
      | some (), some none => some (h.setIfInBounds r (.map (es.push { key := k, val := v, born := clock }) (clock + 1) kd))
      | _, _ => none
    | _ => none
  | _, _ => none
def cDelete (P : Program) (t : TypeId) (m k : Value) (h : H) : Option H :=
  match P.underlying t, m with
  | some (.map kt _), .map (some r) => match h[r]? with
    | some (.map es clock kd) => if kd = .ro then none else
      match cFind P kt k es h with
      | some (some (i, _)) => some (h.setIfInBounds r (.map (es.eraseIdxIfInBounds i) clock kd))
      | some none => some (h.setIfInBounds r (.map es clock kd))
      | _ => none
    | _ => none
  | _, _ => none
def cClear (P : Program) (t : TypeId) (x : Value) (h : H) : Option H :=
  match P.underlying t, x with
  | some _, .map none | some _, .slice none _ _ | some _, .slice _ 0 _ => some h
  | some (.slice e), .slice (some ⟨b, o, none⟩) n _ => if zeroAf P e then ((P.info? e).bind (·.zero)).bind fun z => cPut b o (Builtin.zeroCells z.cells n).toList h else none
  | _, _ => none

def cNext (it : Value) (isString : Bool) (h : H) : Option (Value × H) :=
  match it, isString with
  | .pointer (some ⟨r, 0, none⟩), true => match h[r]? with
    | some (.siter s pos) =>
      if pos < s.size then some (.tuple #[.bool true, .int .i64 pos, .int .i32 (Utf8.decode s pos).1], h.setIfInBounds r (.siter s (pos + (Utf8.decode s pos).2)))
      else some (.tuple #[.bool false], h)
    | _ => none
  | .pointer (some ⟨r, 0, none⟩), false => match h[r]? with
    | some (.iter none _ _ _) => some (.tuple #[.bool false], h)
    | some (.iter (some m) since seen last) => match h[m]? with
      | some (.map es clock _) =>
        if !seen.isEmpty && !es.isEmpty && es.all (·.born ≥ last) then none else
        let left := es.filter fun e => !seen.contains e.born
        let old := left.filter (·.born < since)
        let new := left.filter (·.born ≥ since)
        let candidates := (if old.isEmpty then #[none] else #[]) ++ (old ++ new).map some
        if ¬ candidates.size ≤ 1 then none else
        match candidates[0]? with
        | some (some e) => some (.tuple #[.bool true, e.key, e.val], h.setIfInBounds r (.iter (some m) since (seen.push e.born) clock))
        | some none => some (.tuple #[.bool false], h)
        | none => none
      | _ => none
    | _ => none
  | _, _ => none

/-- The entry at which an iterator stands. -/
def cEntry (it : Value) (h : H) : Option Value :=
  match it with
  | .pointer (some ⟨r, 0, none⟩) => match h[r]? with
    | some (.iter (some m) _ seen stepped) => match seen.back?, h[m]? with
      | some stamp, some (.map es clock _) => if clock = stepped then (es.find? (·.born == stamp)).map fun e => .tuple #[e.key, e.val] else none
      | _, _ => none
    | _ => none
  | _ => none

/-- The zero cells of an element, of which a row of n cells is made. -/
def zsel (P : Program) (e : TypeId) (n : Nat) : Array Value := if n = 0 then #[] else (((P.info? e).bind (·.zero)).map (·.cells)).getD #[]
def rowOf (P : Program) (e : TypeId) (n : Nat) : Array Value := (Array.range n).map fun x => (zsel P e n)[x % (zsel P e n).size]!

def callable (P : Program) (f : FuncId) : Bool := match P.funcs[f]? with | some fn => fn.name != "runtime.NumGoroutine" && fn.body.isSome | none => false

abbrev CallF := FuncId → Array Value → H → Option (Value × H)

def evEff (P : Program) (call : CallF) (o : Oper) (ρ : Operand → Value) (h : H) : Option (Value × H) :=
  match o.op with
  | .alloc t => if zeroAf P t then ((P.info? t).bind (·.zero)).map fun z => cNew (.cells z.cells t .own) h else none
  | .box t x => if isAny (ρ x) then none else some (cNew (.cells (ρ x).cells t .own) h)
  | .buildSlice t n parts => match P.underlying t with
    | some (.slice e) =>
      if (P.info? e).isNone || (2 ^ 24 < n * szT P e : Bool) || !zeroAf P e || (parts.map fun (_, x) => ρ x).any isAny then none else
      (Instr.fill (fun i => some (i * szT P e, szT P e)) (rowOf P e (n * szT P e)) (parts.map fun (i, x) => (i, ρ x)).toList).map fun cells =>
        (.slice (some ⟨h.size, 0, none⟩) n n, h.push (.cells cells e .own))
    | _ => none
  | .makeMap _ none => some (.map (some h.size), h.push (.map #[] 0 .own))
  | .makeSlice t l c => match P.underlying t, ρ l, ρ c with
    | some (.slice e), .int _ l, .int _ c =>
      if (P.info? e).isNone || !zeroAf P e then none else
      if 0 ≤ l ∧ l ≤ c ∧ (((P.info? e).map (·.bytes)).getD 0 : Int) * c ≤ 2 ^ 47 ∧ c ≤ 9223372036854775807 then
        some (.slice (some ⟨h.size, 0, none⟩) l.toNat c.toNat, h.push (.cells (rowOf P e (c.toNat * szT P e)) e .own))
      else none
    | _, _, _ => none
  | .store t a x => (cStore P t (ρ a) (ρ x) h).map (undef, ·)
  | .mapUpdate t m k x | .insert t m k x => (cMapSet P t (ρ m) (ρ k) (ρ x) h).map (undef, ·)
  | .range t x => match P.underlying t, ρ x with
    | some .string, .string s => some (cNew (.siter s 0) h)
    | some (.map _ _), .map none => some (cNew (.iter none 0 #[] 0) h)
    | some (.map _ _), .map (some m) => match h[m]? with
      | some (.map _ clock _) => some (cNew (.iter (some m) clock #[] clock) h)
      | _ => none
    | _, _ => none
  | .next it s => cNext (ρ it) s h
  | .entry it => (cEntry (ρ it) h).map (·, h)
  | .convert s d x => match P.underlying s, P.underlying d, ρ x with
    | some _, some (.slice e), .string s => if isU8 P e then
        if szT P e = 1 then some (.slice (some ⟨h.size, 0, none⟩) s.size s.size, h.push (.cells (s.data.map fun b => .int .u8 b.toNat) e .grown)) else none
      else none
    | some (.slice _), some (.slice e), .slice (some ⟨b, o, none⟩) n c =>
      if s = d ∧ isU8 P e = true ∧ n ≠ 0 then
        match h[b]? with
        | some (.cells _ _ .grown) | some (.cells _ _ .text) => some (.slice (some ⟨b, o, none⟩) n c, h)
        | some (.cells cs T .own) => some (.slice (some ⟨b, o, none⟩) n c, h.setIfInBounds b (.cells cs T .text))
        | _ => none
      else none
    | _, _, _ => none
  | .call c => match c.callee with
    | .builtin .append => cAppend P c.argTypes (c.args.map ρ) h
    | .builtin .copy => cCopy P c.argTypes (c.args.map ρ) h
    | .builtin .delete => match c.argTypes[0]?, (c.args.map ρ)[0]?, (c.args.map ρ)[1]? with
      | some t, some m, some k => (cDelete P t m k h).map (.tuple #[], ·)
      | _, _, _ => none
    | .builtin .clear => match c.argTypes[0]?, (c.args.map ρ)[0]? with
      | some t, some x => (cClear P t x h).map (.tuple #[], ·)
      | _, _ => none
    | .value f => match ρ f with
      | .func (.func g) first captured => if callable P g then call g (first ++ c.args.map ρ ++ captured) h else none
      | _ => none
    | _ => none
  | _ => none

/-! ### classes -/
def cls (P : Program) (o : Oper) : Nat :=
  match o.op with
  | .binOp op _ _ _ _ => if op = .eql ∨ op = .neq then 1 else 0
  | .load _ _ | .slice .. | .lookup .. => 1
  | .convert s d _ => match P.underlying s, P.underlying d with
    | _, some (.slice _) => 2
    | some (.slice _), _ => 1
    | _, _ => 0
  | .call c => match c.callee with
    | .builtin .len => 1
    | .builtin .min | .builtin .max => 0
    | _ => 2
  | .move _ | .assign _ | .pick .. | .build .. | .nilCheck _ | .unOp .. | .makeInterface .. | .makeFunc .. | .fieldAddr .. | .field .. | .indexAddr .. | .index .. | .extract .. => 0
  | _ => 2

def evOp (P : Program) (call : CallF) (o : Oper) (ρ : Operand → Value) (h : H) : Option (Value × H) :=
  match cls P o with
  | 0 => (evPure P o ρ).map (·, h)
  | 1 => (evRead P o ρ h).map (·, h)
  | _ => evEff P call o ρ h

/-! ### regions -/
/-- Is the operation run? 'none': not known. -/
def want (ops : Array Oper) (o : Oper) (tmps : Array Value) : Option Bool :=
  match o.guard with
  | none => some true
  | some (j, b) => match ((ops[j]?).bind (·.dst)).bind (tmps[·]?) with
    | some (.bool c) => some (c == b)
    | some (.tuple c) => if c.isEmpty then some false else none
    | _ => none

def evOps (P : Program) (call : CallF) (ops : Array Oper) : List Oper → Act → H → Option (Act × H)
  | [], a, h => some (a, h)
  | o :: rest, a, h => match want ops o a.tmps with
    | some true => match evOp P call o a.eval h with
      | some (v, h') => evOps P call ops rest (a.put o.dst v) h'
      | none => none
    | some false => evOps P call ops rest (a.put o.dst undef) h
    | none => none

/-- With a trace: of each operation, what stood before it, whether it ran, and its value. -/
structure Rec where
  o : Oper
  a : Act
  h : H
  ran : Bool
  v : Value
def evTrace (P : Program) (call : CallF) (ops : Array Oper) : List Oper → Act → H → Option (List Rec × Act × H)
  | [], a, h => some ([], a, h)
  | o :: rest, a, h => match want ops o a.tmps with
    | some true => match evOp P call o a.eval h with
      | some (v, h') => (evTrace P call ops rest (a.put o.dst v) h').map fun (l, r) => (⟨o, a, h, true, v⟩ :: l, r)
      | none => none
    | some false => (evTrace P call ops rest (a.put o.dst undef) h).map fun (l, r) => (⟨o, a, h, false, undef⟩ :: l, r)
    | none => none

def isAE (P : Program) (ops : Array Oper) (i : Nat) : Bool := match ops[i]? with | some o => cls P o == 2 | none => false
def dstOf (ops : Array Oper) (i : Nat) : Option Tmp := (ops[i]?).bind (·.dst)
def looks (ops : Array Oper) (j : Nat) : List Tmp := match ops[j]? with | some o => o.looksAt ops | none => []

/-- What a region that draws its order must show by its text. -/
def drawOk (P : Program) (ops : Array Oper) : Bool :=
  let b := Region.before ops
  (ops.toList.zipIdx.all fun (o, i) => o.after.all fun e => !Region.binds .any e || e.on < i) &&
  (List.range ops.size).all fun j => (List.range ops.size).all fun i =>
    (if i < j then (!(isAE P ops i && isAE P ops j) || (b.getD j 0).testBit i) && (match dstOf ops i with | some t => dstOf ops j != some t | none => true) else true) &&
    (match dstOf ops i with
     | some t => if i != j && (looks ops j).contains t then (if i < j then (b.getD j 0).testBit i else (b.getD i 0).testBit j) else true
     | none => true)

/-- May the operation j run where the operations before i, of those that act, have acted, and no other? -/
def mayAt (P : Program) (ops : Array Oper) (b : Array Nat) (j i : Nat) : Bool :=
  (List.range ops.size).all fun e => !isAE P ops e || ((!(b.getD j 0).testBit e || e < i) && (!(decide (e < i)) || !(b.getD e 0).testBit j))
def readsSame (P : Program) (r : Rec) (h : H) : Bool := match evRead P r.o r.a.eval h with | some v => veq v r.v | none => false
def dynOk (P : Program) (ops : Array Oper) (rs : List Rec) (hf : H) : Bool :=
  let b := Region.before ops
  rs.zipIdx.all fun (r, j) => !(r.ran && cls P r.o == 1) ||
    ((!mayAt P ops b j ops.size || readsSame P r hf) && rs.zipIdx.all fun (s, i) => !(cls P s.o == 2 && mayAt P ops b j i) || readsSame P r s.h)
def evDraw (P : Program) (call : CallF) (ops : Array Oper) (a : Act) (h : H) : Option (Act × H) :=
  match evTrace P call ops ops.toList a h with
  | some (rs, a1, h1) => if dynOk P ops rs h1 then some (a1, h1) else none
  | none => none

/-! ### code -/
def evIter (f : Act → H → Option (Exit × Act × H)) : Nat → Act → H → Option (Exit × Act × H)
  | 0, _, _ => none
  | n + 1, a, h => match f a h with
    | some (.normal, a1, h1) => evIter f n a1 h1
    | r => r
def evCode (P : Program) (call : CallF) (n : Nat) : Code → Act → H → Option (Exit × Act × H)
  | .skip, a, h => some (.normal, a, h)
  | .region _ ops false, a, h => (evOps P call ops ops.toList a h).map fun (a1, h1) => (.normal, a1, h1)
  | .region _ ops true, a, h => (evDraw P call ops a h).map fun (a1, h1) => (.normal, a1, h1)
  | .seq x y, a, h => match evCode P call n x a h with
    | some (.normal, a1, h1) => evCode P call n y a1 h1
    | r => r
  | .cond c x y, a, h => match a.eval c with
    | .bool true => evCode P call n x a h
    | .bool false => evCode P call n y a h
    | _ => none
  | .block id c, a, h => match evCode P call n c a h with
    | some (.exit i, a1, h1) => if i = id then some (.normal, a1, h1) else some (.exit i, a1, h1)
    | r => r
  | .loop c, a, h => evIter (evCode P call n c) n a h
  | .exit id, a, h => some (.exit id, a, h)
  | .scope c, a, h => evCode P call n c a h
  | .label _, a, h => some (.normal, a, h)
  | .ret, a, h => some (.ret, a, h)
  | _, _, _ => none
def drawsOk (P : Program) : Code → Bool
  | .region _ ops true => drawOk P ops
  | .seq x y => drawsOk P x && drawsOk P y
  | .cond _ x y => drawsOk P x && drawsOk P y
  | .block _ c => drawsOk P c
  | .loop c => drawsOk P c
  | .scope c => drawsOk P c
  | _ => true

def cRes (P : Program) (tmps : Array Value) (h : H) : ResultVar → Option Value
  | .tmp t => some (tmps.getD t undef)
  | .cell a t => cLoad P t (tmps.getD a undef) h
def evResults (P : Program) (fn : Func) (tmps : Array Value) (h : H) : Option Value :=
  (fn.results.toList.mapM (cRes P tmps h)).map fun vs => match vs with | [v] => v | vs => .tuple vs.toArray

abbrev Hooks := FuncId → Option (Array Value → H → Option (Value × H))

def evCall (P : Program) (ok : FuncId → Bool) (X : Hooks) : Nat → CallF
  | 0, _, _, _ => none
  | n + 1, f, args, h => match X f with
    | some g => g args h
    | none => if ok f = false then none else match P.funcs[f]? with
      | some fn => match fn.body with
        | some c => match evCode P (evCall P ok X n) n c { tmps := args ++ Array.replicate (fn.ntmps - args.size) undef, defers := [] } h with
          | some (.normal, a, h1) | some (.ret, a, h1) => (evResults P fn a.tmps h1).map (·, h1)
          | _ => none
        | none => none
      | none => none
end Go.Am
