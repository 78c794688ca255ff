/- The evaluator: what a Go function's code comes to, over plain values, in the order of the text. -/
import Derived.Calls
import Derived.Orders
import Derived.Below
import Derived.KernelRfl
namespace Go.Proofs.Ytgcjhcefpkbheaa.Lg
noncomputable section
open Go

/-- The shape of a cell. -/
inductive Sh where
  | int (k : IntKind) | bool | str | sl (es : List Sh) | mp (k : Sh) (b : Bool) (es : List Sh)

mutual
@[reducible] def CE : Sh → Type
  | .int _ => Int
  | .bool => Bool
  | .str => List UInt8
  | .sl es => List (RowE es)
  | .mp k _ es => List (CE k × RowE es)
@[reducible] def RowE : List Sh → Type
  | [] => Unit
  | e :: es => CE e × RowE es
end

mutual
def CE.dflt : (e : Sh) → CE e
  | .int _ => (0 : Int)
  | .bool => false
  | .str => ([] : List UInt8)
  | .sl es => ([] : List (RowE es))
  | .mp k _ es => ([] : List (CE k × RowE es))
def RowE.dflt : (es : List Sh) → RowE es
  | [] => ()
  | e :: es => (CE.dflt e, RowE.dflt es)
end

mutual
def Sh.eq? : (a b : Sh) → Option (PLift (a = b))
  | .int k, .int k' => if h : k = k' then some ⟨h ▸ rfl⟩ else none
  | .bool, .bool => some ⟨rfl⟩
  | .str, .str => some ⟨rfl⟩
  | .sl es, .sl es' => match Sh.eqs? es es' with
    | some ⟨h⟩ => some ⟨h ▸ rfl⟩
    | none => none
  | .mp k b es, .mp k' b' es' => match Sh.eq? k k', Sh.eqs? es es' with
    | some ⟨h⟩, some ⟨h'⟩ => if q : b = b' then some ⟨by rw [h, h', q]⟩ else none
    | _, _ => none
  | _, _ => none
def Sh.eqs? : (a b : List Sh) → Option (PLift (a = b))
  | [], [] => some ⟨rfl⟩
  | x :: xs, y :: ys => match Sh.eq? x y, Sh.eqs? xs ys with
    | some ⟨h⟩, some ⟨k⟩ => some ⟨h ▸ k ▸ rfl⟩
    | _, _ => none
  | _, _ => none
end

/-- What a cell holds. -/
inductive D where
  | int (k : IntKind) (n : Int) | bool (b : Bool) | str (s : List UInt8) | sl (es : List Sh) (l : List (RowE es)) | nl (es : List Sh) | mp (k : Sh) (b : Bool) (es : List Sh) (m : List (CE k × RowE es))

def toD : (e : Sh) → CE e → D
  | .int k, n => .int k n
  | .bool, b => .bool b
  | .str, s => .str s
  | .sl es, l => .sl es l
  | .mp k b es, m => .mp k b es m
def rowD : (es : List Sh) → RowE es → List D
  | [], _ => []
  | e :: es, r => toD e r.1 :: rowD es r.2
def ofD : (e : Sh) → D → Option (CE e)
  | .int k, .int k' n => if k = k' then some n else none
  | .bool, .bool b => some b
  | .str, .str s => some s
  | .sl es, .sl es' l => match Sh.eqs? es' es with
    | some ⟨h⟩ => some (h ▸ l)
    | none => none
  | .mp k b es, .mp k' b' es' m => match Sh.eq? (.mp k' b' es') (.mp k b es) with
    | some ⟨h⟩ => some (h ▸ (m : CE (.mp k' b' es')))
    | none => none
  | _, _ => none
def ofDs : (es : List Sh) → List D → Option (RowE es)
  | [], [] => some ()
  | e :: es, d :: ds => match ofD e d, ofDs es ds with
    | some x, some r => some (x, r)
    | _, _ => none
  | _, _ => none
def zeroD : Sh → D := fun e => toD e (CE.dflt e)
/-- A zero cell; of a slice it is known that it is nil. -/
def zeroN : Sh → D
  | .sl es => .nl es
  | e => zeroD e
def unNl : D → D
  | .nl es => .sl es []
  | d => d
def D.isNl : D → Bool
  | .nl _ => true
  | _ => false

/-- A value. -/
inductive AV where
  | d (x : D) | agg (cs : List D) | tup (vs : List AV) | fn (g : Nat) (caps : List AV) | pt (cs : List D)

/-- An argument's value, of its cells. -/
def argAV : Bool → (es : List Sh) → RowE es → AV
  | true, es, r => .agg (rowD es r)
  | false, e :: _, r => .d (toD e r.1)
  | false, [], _ => .agg []
def argOf : (b : Bool) → (es : List Sh) → AV → Option (RowE es)
  | true, es, .agg ds => ofDs es ds
  | false, [e], .d x => match ofD e x with | some y => some (y, ()) | none => none
  | _, _, _ => none

/-- A part of a slice that is owned whole: from, to; or the address of a row. N: how many cells a row has. -/
inductive OA where
  | sub (n lo hi : Nat) | at (n i o : Nat)

/-- What is known of a slot. -/
inductive SV where
  | unk
  | und
  | val (v : AV)
  | app (es : List Sh) (l : List (RowE es))
  | box (nw : Bool) (cs : List SV)
  | al (d : Nat) (off : Option Nat)
  | ref (d off : Nat)
  | at (cs : List D)
  | sit (s : List UInt8) (pos : Nat)
  | msk
  | bld (cs : List D)
  | own (es : List Sh) (l : List (RowE es))
  | ow (d : Nat) (k : OA)
  | mp (k : Sh) (b : Bool) (es : List Sh) (m : List (CE k × RowE es))
  | mit (k : Sh) (b : Bool) (es : List Sh) (rem : List (CE k × RowE es)) (cur : Option (CE k × RowE es))
  | ln (v : AV)
  | mpa (nw : Bool) (k : Sh) (es : List Sh) (h : Option (CE k)) (m : List (CE k × RowE [.sl es]))

def SV.isUpd : SV → Bool
  | .box nw _ => !nw
  | .mpa nw _ _ _ _ => !nw
  | .msk => true
  | _ => false

abbrev Fr := List (Nat × SV)

def look1 (t : Nat) : Fr → SV
  | [] => .unk
  | (x, sv) :: fr => bif Nat.beq x t then sv else look1 t fr
def find (t : Nat) : Fr → List (Nat × Bool) → Option (List (Nat × Bool) × SV × Fr)
  | [], _ => none
  | (x, sv) :: fr, pre => bif Nat.beq x t then some ((x, sv.isUpd) :: pre, sv, fr) else find t fr ((x, sv.isUpd) :: pre)
def bound (d : Nat) : List (Nat × Bool) → Bool
  | [] => false
  | (x, _) :: l => bif Nat.beq x d then true else bound d l
def remade (d : Nat) : List (Nat × Bool) → Bool
  | [] => false
  | (x, u) :: l => bif Nat.beq x d then (bif u then remade d l else true) else remade d l

def cellAt (o : Nat) : List SV → SV
  | [] => .unk
  | c :: cs => match o with | 0 => c | o + 1 => cellAt o cs

/-- A slot, for reading: aliases resolved. -/
def rdSV (t : Nat) (fr : Fr) : SV :=
  match find t fr [] with
  | some (pre, .al d off, rest) =>
    bif bound d pre then .unk else
      match off, look1 d rest with
      | none, sv => sv
      | some o, .box _ cs => cellAt o cs
      | _, _ => .unk
  | some (_, sv, _) => sv
  | none => .unk
def SV.av : SV → Option AV
  | .val v => some v
  | .app es l => some (.d (.sl es l))
  | .at cs => some (.pt cs)
  | .bld cs => some (.agg (cs.map unNl))
  | _ => none
def cellN : D → SV
  | .nl es => .app es []
  | d => .val (.d d)
def mkBld (cs : List D) : SV := bif cs.any D.isNl then .bld cs else .val (.agg cs)
def bldOf (fr : Fr) : Operand → Option (List D)
  | .tmp s => (match look1 s fr with | .bld cs => some cs | _ => none)
  | _ => none
def rd (t : Nat) (fr : Fr) : Option AV := (rdSV t fr).av

def constAV : Value → Option AV
  | .bool b => some (.d (.bool b))
  | .int k n => some (.d (.int k n))
  | .string s => some (.d (.str s.data.toList))
  | _ => none
def rdO (fr : Fr) : Operand → Option AV
  | .tmp t => rd t fr
  | .const c => constAV c
  | .func g => some (.fn g [])
  | _ => none

/-- Where a pointer leads: the slot of the variable, the offset. -/
def root (t : Nat) (fr : Fr) : Option (Nat × Nat) :=
  match find t fr [] with
  | some (_, .box _ _, _) => some (t, 0)
  | some (pre, .al d none, rest) => bif bound d pre then none else match look1 d rest with | .box _ _ => some (d, 0) | _ => none
  | some (pre, .ref d off, _) => bif remade d pre then none else some (d, off)
  | _ => none
/-- A slot's slice that is owned whole, or a part of one: whose it is, from, to, and all of it. -/
def view (s : Nat) (fr : Fr) : Option (Nat × Nat × Nat × ((es : List Sh) × List (RowE es))) :=
  match find s fr [] with
  | some (_, .own es l, _) => some (s, 0, l.length, ⟨es, l⟩)
  | some (pre, .al d none, rest) => bif bound d pre then none else match look1 d rest with | .own es l => some (d, 0, l.length, ⟨es, l⟩) | _ => none
  | some (pre, .ow d (.sub n lo hi), rest) => bif bound d pre then none else match look1 d rest with | .own es l => bif Nat.beq n es.length then some (d, lo, hi, ⟨es, l⟩) else none | _ => none
  | _ => none
def viewO (fr : Fr) : Operand → Option (Nat × Nat × Nat × ((es : List Sh) × List (RowE es)))
  | .tmp s => view s fr
  | _ => none
/-- A slot's slice that is owned whole: whose it is. -/
def ownOf (s : Nat) (fr : Fr) : Option (Nat × ((es : List Sh) × List (RowE es))) :=
  match find s fr [] with
  | some (_, .own es l, _) => some (s, ⟨es, l⟩)
  | some (pre, .al d none, rest) => bif bound d pre then none else match look1 d rest with | .own es l => some (d, ⟨es, l⟩) | _ => none
  | _ => none
/-- A slot's map that is owned: whose it is. -/
def mpOf (s : Nat) (fr : Fr) : Option (Nat × ((k : Sh) × (_ : Bool) × (es : List Sh) × List (CE k × RowE es))) :=
  match find s fr [] with
  | some (_, .mp k b es m, _) => some (s, ⟨k, b, es, m⟩)
  | some (pre, .al d none, rest) => bif bound d pre then none else match look1 d rest with | .mp k b es m => some (d, ⟨k, b, es, m⟩) | _ => none
  | _ => none
/-- A slot's map of slices that it owns with the room behind them: whose it is; of which key the slice was taken out. -/
def mpaOf (s : Nat) (fr : Fr) : Option (Nat × ((k : Sh) × (es : List Sh) × Option (CE k) × List (CE k × RowE [.sl es]))) :=
  match find s fr [] with
  | some (_, .mpa _ k es h m, _) => some (s, ⟨k, es, h, m⟩)
  | some (pre, .al d none, _) => bif remade d pre then none else match look1 d fr with | .mpa _ k es h m => some (d, ⟨k, es, h, m⟩) | _ => none
  | _ => none
def mpaO (fr : Fr) : Operand → Option (Nat × ((k : Sh) × (es : List Sh) × Option (CE k) × List (CE k × RowE [.sl es])))
  | .tmp s => mpaOf s fr
  | _ => none
/-- A map, for reading. -/
def mapV (fr : Fr) : Operand → Option D
  | .tmp s => match mpOf s fr with
    | some (_, ⟨k, b, es, m⟩) => some (.mp k b es m)
    | none => match rd s fr with
      | some (.d (.mp k b es m)) => some (.mp k b es m)
      | _ => none
  | _ => none
def boxOf (d : Nat) (fr : Fr) : Option (List SV) := match look1 d fr with | .box _ cs => some cs | _ => none

structure TI where
  agg : Bool := false
  sh : List Sh := []
  flds : List (Nat × Nat) := []
  arr : Option (Nat × Nat) := none
  es : List Sh := []
  eb : Nat := 0
  ftys : List Nat := []
  eq : Bool := false
  mp : Option (Nat × Nat) := none

abbrev Tab := List (Nat × TI)
def ti? (t : Nat) : Tab → Option TI
  | [] => none
  | (x, i) :: l => bif Nat.beq x t then some i else ti? t l
def withT {R : Type} (t : Nat) (T : Tab) (k : TI → Option R) : Option R := match ti? t T with | some i => k i | none => none

def AV.cells : AV → Option (List D)
  | .d x => some [x]
  | .agg cs => some cs
  | _ => none

def cellsD : List SV → Option (List D)
  | [] => some []
  | c :: cs => match c.av, cellsD cs with
    | some (.d x), some l => some (x :: l)
    | _, _ => none
def setAt : Nat → List SV → List SV → List SV
  | _, [], cs => cs
  | _, _, [] => []
  | 0, x :: xs, _ :: cs => x :: setAt 0 xs cs
  | o + 1, xs, c :: cs => c :: setAt o xs cs
def setD : Nat → List D → List D → List D
  | _, [], cs => cs
  | _, _, [] => []
  | 0, x :: xs, _ :: cs => x :: setD 0 xs cs
  | o + 1, xs, c :: cs => c :: setD o xs cs

def dset (dst : Option Tmp) (sv : SV) (fr : Fr) : Fr := match dst with | some d => (d, sv) :: fr | none => fr

def eqD : D → D → Option Bool
  | .int k a, .int k' b => if k = k' then some (a == b) else none
  | .bool a, .bool b => some (a == b)
  | .str a, .str b => some (a == b)
  | _, _ => none
def eqDs : List D → List D → Option Bool
  | [], [] => some true
  | [x], [y] => eqD x y
  | x :: xs, y :: ys => match eqD x y, eqDs xs ys with
    | some a, some b => some (a && b)
    | _, _ => none
  | _, _ => none

def byteAt (s : List UInt8) (n : Int) : Int := (((s[n.toNat]?).getD 0).toNat : Nat)
def bytesLess : List UInt8 → List UInt8 → Bool
  | _, [] => false
  | [], _ :: _ => true
  | a :: x, b :: y => a < b || (a == b && bytesLess x y)
/-! Maps: their entries by rising keys. -/
def eqE : (k : Sh) → CE k → CE k → Bool
  | .int _, a, b => (a : Int) == b
  | .bool, a, b => (a : Bool) == b
  | .str, a, b => (a : List UInt8) == b
  | _, _, _ => false
def ltE : (k : Sh) → CE k → CE k → Bool
  | .int _, a, b => decide ((a : Int) < b)
  | .bool, a, b => !(a : Bool) && b
  | .str, a, b => bytesLess a b
  | _, _, _ => false
def mget (k : Sh) (es : List Sh) : List (CE k × RowE es) → CE k → RowE es
  | [], _ => RowE.dflt es
  | x :: m, key => bif eqE k key x.1 then x.2 else mget k es m key
def mhas (k : Sh) (es : List Sh) : List (CE k × RowE es) → CE k → Bool
  | [], _ => false
  | x :: m, key => bif eqE k key x.1 then true else mhas k es m key
def mset (k : Sh) (es : List Sh) (key : CE k) (v : RowE es) : List (CE k × RowE es) → List (CE k × RowE es)
  | [] => []
  | x :: m => bif eqE k key x.1 then (x.1, v) :: m else x :: mset k es key v m
def mins (k : Sh) (es : List Sh) (key : CE k) (v : RowE es) : List (CE k × RowE es) → List (CE k × RowE es)
  | [] => [(key, v)]
  | x :: m => bif ltE k key x.1 then (key, v) :: x :: m else x :: mins k es key v m
def mput (k : Sh) (es : List Sh) (m : List (CE k × RowE es)) (key : CE k) (v : RowE es) : List (CE k × RowE es) :=
  bif mhas k es m key then mset k es key v m else mins k es key v m
def getR (es : List Sh) (l : List (RowE es)) (n : Int) : RowE es := (l[n.toNat]?).getD (RowE.dflt es)
/-- The row that an address leads to. -/
def rowAt (s : Nat) (fr : Fr) : Option (List D) :=
  match find s fr [] with
  | some (pre, .ow d (.at n i o), rest) => bif bound d pre then none else match look1 d rest with | .own es l => bif Nat.beq n es.length then some ((rowD es (getR es l i)).drop o) else none | _ => none
  | _ => none
def maxI : Int := 9223372036854775807

/-- Ways that part: by a Bool, by a test that must hold, by a test. -/
def br {R : Type} (b : Bool) (x y : Option R) : Option R := cond b x y
open Classical in
def chk {R : Type} (p : Prop) (x : Option R) : Option R := if p then x else none
open Classical in
def brP {R : Type} (p : Prop) (x y : Option R) : Option R := if p then x else y

open Classical in
/-- Whatever is drawn, it comes to the same. -/
def anyN {R : Type} (n : Nat) (f : Nat → Option R) : Option R := if 0 < n ∧ ∀ i, i < n → f i = f 0 then f 0 else none

/-- What a call or a loop comes to, as a tree of ways. -/
inductive Tr (α : Type) where
  | none | leaf (a : α) | br (b : Bool) (x y : Tr α) | chk (p : Prop) (x : Tr α) | brP (p : Prop) (x y : Tr α)
def Tr.run {α R : Type} : Tr α → (α → Option R) → Option R
  | .none, _ => Option.none
  | .leaf a, K => K a
  | .br b x y, K => Lg.br b (x.run K) (y.run K)
  | .chk p x, K => Lg.chk p (x.run K)
  | .brP p x y, K => Lg.brP p (x.run K) (y.run K)

section
variable {R : Type}

def binI (op : BinOp) (k : IntKind) (a b : Int) (K : AV → Option R) : Option R :=
  match op with
  | .add => K (.d (.int k (k.wrap (a + b))))
  | .sub => K (.d (.int k (k.wrap (a - b))))
  | .mul => K (.d (.int k (k.wrap (a * b))))
  | .quo => chk (¬ b = 0) (K (.d (.int k (k.wrap (a.tdiv b)))))
  | .rem => chk (¬ b = 0) (K (.d (.int k (a.tmod b))))
  | .eql => K (.d (.bool (a == b)))
  | .neq => K (.d (.bool (a != b)))
  | .lss => K (.d (.bool (decide (a < b))))
  | .leq => K (.d (.bool (decide (a ≤ b))))
  | .gtr => K (.d (.bool (decide (a > b))))
  | .geq => K (.d (.bool (decide (a ≥ b))))
  | _ => none
def binS (op : BinOp) (a b : List UInt8) (K : AV → Option R) : Option R :=
  match op with
  | .add => chk ((a.length : Int) + b.length ≤ maxI) (K (.d (.str (a ++ b))))
  | .eql => K (.d (.bool (a == b)))
  | .neq => K (.d (.bool (!(a == b))))
  | .lss => K (.d (.bool (bytesLess a b)))
  | .leq => K (.d (.bool (bytesLess a b || a == b)))
  | .gtr => K (.d (.bool (!(bytesLess a b || a == b))))
  | .geq => K (.d (.bool (!(bytesLess a b))))
  | _ => none
def dsFit : List Sh → List D → Bool
  | [], [] => true
  | .int k :: es, .int k' _ :: ds => (if k = k' then true else false) && dsFit es ds
  | .bool :: es, .bool _ :: ds => dsFit es ds
  | .str :: es, .str _ :: ds => dsFit es ds
  | _, _ => false
def binV (T : Tab) (xt : Nat) (op : BinOp) (x y : AV) (K : AV → Option R) : Option R :=
  match x, y with
  | .d (.int k a), .d (.int k' b) => if k = k' then binI op k a b K else none
  | .d (.str a), .d (.str b) => binS op a b K
  | .d (.bool a), .d (.bool b) => withT xt T fun i => match i.agg, i.sh, op with
    | false, [.bool], .eql => K (.d (.bool (a == b)))
    | false, [.bool], .neq => K (.d (.bool (!(a == b))))
    | _, _, _ => none
  | .agg a, .agg b => withT xt T fun i => bif i.agg && i.eq && dsFit i.sh a && dsFit i.sh b then (match op, eqDs a b with
    | .eql, some r => K (.d (.bool r))
    | .neq, some r => K (.d (.bool (!r)))
    | _, _ => none) else none
  | _, _ => none

def part (agg : Bool) (off n : Nat) (cs : List D) : Option AV :=
  bif agg then (bif Nat.ble (off + n) cs.length then some (.agg ((cs.drop off).take n)) else none)
  else match cs.drop off with | x :: _ => some (.d x) | [] => none

def max2I (a b : Int) : Int := if b > a then b else a
def min2I (a b : Int) : Int := if b < a then b else a
/-- A cell of an array of integers, or of texts, by an index that is not told. -/
def intsOf : List D → Option (IntKind × List Int)
  | [] => none
  | .int k n :: cs => match cs with
    | [] => some (k, [n])
    | _ => match intsOf cs with
      | some (k', l) => if k = k' then some (k, n :: l) else none
      | none => none
  | _ => none
def strsOf : List D → Option (List (List UInt8))
  | [] => some []
  | .str s :: cs => match strsOf cs with
    | some l => some (s :: l)
    | none => none
  | _ => none
def idxD (agg : Bool) (len n m : Nat) (cs : List D) : Option AV :=
  match agg, m with
  | false, 1 => match intsOf cs with
    | some (k, l) => bif Nat.beq l.length len then some (.d (.int k (l.getD n 0))) else part false (n * 1) 1 cs
    | none => match strsOf cs with
      | some l => bif Nat.beq l.length len then some (.d (.str (l.getD n []))) else part false (n * 1) 1 cs
      | none => part false (n * 1) 1 cs
  | agg, m => part agg (n * m) m cs

def fillD (flds : List (Nat × Nat)) (fr : Fr) : List (Nat × Operand) → List D → Option (List D)
  | [], cs => some cs
  | (i, x) :: rest, cs => match flds[i]?, (rdO fr x).bind AV.cells with
    | some (off, n), some ds => bif Nat.beq ds.length n then (bif Nat.ble (off + n) cs.length then fillD flds fr rest (setD off ds cs) else none) else none
    | _, _ => none
def fillZ (len : Nat) (flds : List (Nat × Nat)) (fr : Fr) : List (Nat × Operand) → List D → Option (List D)
  | [], cs => some cs
  | (i, x) :: rest, cs => match flds[i]?, (rdO fr x).bind AV.cells with
    | some (off, n), some ds => bif Nat.beq ds.length n then (bif Nat.ble (off + n) len then fillZ len flds fr rest (setD off ds cs) else none) else none
    | _, _ => none
theorem setD_length : ∀ (o : Nat) (xs cs : List D), (setD o xs cs).length = cs.length
  | 0, [], _ => by simp [setD]
  | _ + 1, [], _ => by simp [setD]
  | 0, _ :: _, [] => by simp [setD]
  | _ + 1, _ :: _, [] => by simp [setD]
  | 0, x :: xs, _ :: cs => by simp [setD, setD_length 0 xs cs]
  | o + 1, x :: xs, c :: cs => by simp [setD, setD_length o (x :: xs) cs]
theorem fillZ_eq (len : Nat) (flds : List (Nat × Nat)) (fr : Fr) : ∀ (ps : List (Nat × Operand)) (cs : List D), cs.length = len → fillZ len flds fr ps cs = fillD flds fr ps cs
  | [], cs, _ => rfl
  | (i, x) :: rest, cs, h => by
    simp only [fillZ, fillD]
    split
    · rename_i off n ds _ _
      rw [h, fillZ_eq len flds fr rest (setD off ds cs) (by rw [setD_length, h])]
    · rfl
theorem fillZ_zeroN (sh : List Sh) (flds : List (Nat × Nat)) (fr : Fr) (ps : List (Nat × Operand)) : fillZ sh.length flds fr ps (sh.map zeroN) = fillD flds fr ps (sh.map zeroN) := fillZ_eq _ _ _ _ _ (by simp)
theorem fillZ_zero (sh : List Sh) (flds : List (Nat × Nat)) (fr : Fr) (ps : List (Nat × Operand)) : fillZ sh.length flds fr ps (sh.map zeroD) = fillD flds fr ps (sh.map zeroD) := fillZ_eq _ _ _ _ _ (by simp)
/-- An array's cells, told in one pass: the parts in the order of their places. -/
def fillW (fr : Fr) : Nat → List (Nat × Operand) → List D → Option (List D)
  | _, [], cs => some cs
  | _, _ :: _, [] => none
  | j, (i, x) :: rest, c :: cs => bif Nat.beq i j then
      (match (rdO fr x).bind AV.cells, fillW fr (j + 1) rest cs with
      | some [d], some l => some (d :: l)
      | _, _ => none)
    else match fillW fr (j + 1) ((i, x) :: rest) cs with
      | some l => some (c :: l)
      | none => none
theorem setD_at (d c : D) : ∀ (pre cs : List D), setD pre.length [d] (pre ++ c :: cs) = pre ++ d :: cs
  | [], cs => by cases cs <;> simp [setD]
  | p :: pre, cs => by simp [setD, setD_at d c pre cs]
theorem fillW_eq (flds : List (Nat × Nat)) (fr : Fr) : ∀ (cs : List D) (parts : List (Nat × Operand)) (pre cs' : List D), (∀ i, i < pre.length + cs.length → flds[i]? = some (i * 1, 1)) → fillW fr pre.length parts cs = some cs' → fillD flds fr parts (pre ++ cs) = some (pre ++ cs')
  | cs, [], pre, cs', _, h => by simp [fillW] at h; subst h; rfl
  | [], _ :: _, pre, cs', _, h => by simp [fillW] at h
  | c :: cs, (i, x) :: rest, pre, cs', hf, h => by
    simp only [fillW] at h
    cases hb : Nat.beq i pre.length
    · rw [hb, cond_false] at h
      split at h
      · rename_i l hl
        simp at h; subst h
        have := fillW_eq flds fr cs ((i, x) :: rest) (pre ++ [c]) l (fun i hi => hf i (by simp at hi ⊢; omega)) (by simpa using hl)
        simpa using this
      · cases h
    · rw [hb, cond_true] at h
      have hi := Nat.eq_of_beq_eq_true hb
      split at h
      · rename_i d l hd hl
        simp at h; subst h
        have := fillW_eq flds fr cs rest (pre ++ [d]) l (fun i hi => hf i (by simp at hi ⊢; omega)) (by simpa using hl)
        rw [List.append_assoc, List.singleton_append] at this
        rw [List.append_assoc, List.singleton_append] at this
        simp only [fillD]
        rw [hf i (by rw [hi]; simp), hd]
        simp only [List.length_singleton]
        rw [hi, Nat.mul_one, setD_at, this]
        have hle : (pre.length + 1).ble (pre ++ c :: cs).length = true := Nat.ble_eq_true_of_le (by simp)
        rw [hle]
        rfl
      · cases h
def rowsOf (es : List Sh) (fr : Fr) (i : Nat) : List (Nat × Operand) → Option (List (RowE es))
  | [] => some []
  | (j, x) :: rest => bif Nat.beq i j then
      match ((rdO fr x).bind AV.cells).bind (ofDs es), rowsOf es fr (i + 1) rest with
      | some r, some l => some (r :: l)
      | _, _ => none
    else none

/-- The slice that an append grows: its elements, and the frame without its claim to the room behind. -/
def grow (fr : Fr) (t : Nat) : Option ((es : List Sh) × List (RowE es) × Fr) :=
  match find t fr [] with
  | some (_, .app es l, _) => some ⟨es, l, (t, .val (.d (.sl es l))) :: fr⟩
  | some (pre, .al d off, rest) =>
    bif bound d pre then none else
      match off, look1 d rest with
      | none, .app es l => some ⟨es, l, (d, .val (.d (.sl es l))) :: fr⟩
      | some o, .box _ cs => match cellAt o cs with
        | .app es l => some ⟨es, l, (d, .box false (setAt o [.val (.d (.sl es l))] cs)) :: fr⟩
        | _ => none
      | _, _ => none
  | _ => none

def lim : Int := 140737488355328

def evAppend (T : Tab) (argTypes : Array TypeId) (args : Array Operand) (dst : Option Tmp) (fr : Fr) (K : Fr → Option R) : Option R :=
  match argTypes.toList, args.toList with
  | [t, u], [.tmp s, x] => withT t T fun i => withT u T fun i' => match view s fr with
    | some (d, 0, hi, ⟨es, l⟩) => match rdO fr x with
      | some (.d (.sl es' l')) => match Sh.eqs? es' es, Sh.eqs? es i.es, Sh.eqs? es i'.es with
        | some ⟨h⟩, some _, some _ => bif i.agg || i'.agg || es.isEmpty then none else chk (((hi : Int) + l'.length) * i.eb < lim) (K (dset dst (.own es (l.take hi ++ (h ▸ l'))) ((d, .unk) :: fr)))
        | _, _, _ => none
      | _ => none
    | some _ => none
    | none => match grow fr s, rdO fr x with
    | some ⟨es, l, fr'⟩, some (.d (.sl es' l')) =>
      match Sh.eqs? es' es, Sh.eqs? es i.es, Sh.eqs? es i'.es with
      | some ⟨h⟩, some _, some _ => bif i.agg || i'.agg || es.isEmpty then none else chk (((l.length : Int) + l'.length) * i.eb < lim) (K (dset dst (.app es (l ++ (h ▸ l'))) fr'))
      | _, _, _ => none
    | _, _ => none
  | _, _ => none

def evSlice (x : AV) (lo hi : Option AV) (K : AV → Option R) : Option R :=
  match x, lo, hi with
  | .d (.str s), none, none => K (.d (.str s))
  | .d (.str s), some (.d (.int _ a)), none => chk (0 ≤ a ∧ a ≤ s.length) (K (.d (.str (s.drop a.toNat))))
  | .d (.str s), none, some (.d (.int _ b)) => chk (0 ≤ b ∧ b ≤ s.length) (K (.d (.str (s.take b.toNat))))
  | .d (.str s), some (.d (.int _ a)), some (.d (.int _ b)) => chk (0 ≤ a ∧ a ≤ b ∧ b ≤ s.length) (K (.d (.str ((s.take b.toNat).drop a.toNat))))
  | .d (.sl es l), none, none => K (.d (.sl es l))
  | .d (.sl es l), some (.d (.int _ a)), none => chk (0 ≤ a ∧ a ≤ l.length) (K (.d (.sl es (l.drop a.toNat))))
  | .d (.sl es l), none, some (.d (.int _ b)) => chk (0 ≤ b ∧ b ≤ l.length) (K (.d (.sl es (l.take b.toNat))))
  | .d (.sl es l), some (.d (.int _ a)), some (.d (.int _ b)) => chk (0 ≤ a ∧ a ≤ b ∧ b ≤ l.length) (K (.d (.sl es ((l.take b.toNat).drop a.toNat))))
  | _, _, _ => none

def bytesStr (l : List (RowE [.int .u8])) : List UInt8 := l.map fun r => UInt8.ofNat (r.1 : Int).toNat

def rdOpt (fr : Fr) : Option Operand → Option (Option AV)
  | none => some none
  | some x => (rdO fr x).map some

def argVs (fr : Fr) : List Operand → Option (List AV)
  | [] => some []
  | x :: xs => match rdO fr x, argVs fr xs with
    | some v, some l => some (v :: l)
    | _, _ => none

/-- The arguments; slices that are owned whole are lent. -/
def argVsW (fr : Fr) : List Operand → Option (List AV)
  | [] => some []
  | x :: xs => match rdO fr x, argVsW fr xs with
    | some v, some l => some (v :: l)
    | none, some l => match viewO fr x with
      | some (_, lo, hi, ⟨es, r⟩) => some (.d (.sl es ((r.take hi).drop lo)) :: l)
      | none => none
    | _, none => none
def D.flat : D → Bool
  | .sl _ _ => false
  | .mp _ _ _ _ => false
  | _ => true
def AV.flat1 : AV → Bool
  | .d x => x.flat
  | .agg cs => cs.all D.flat
  | _ => false
def SV.flat : SV → Bool
  | .val (.tup l) => l.all AV.flat1
  | .val v => v.flat1
  | _ => false
/-- Is a value one of this type's: a text or a slice? -/
def fitsV (i : TI) : AV → Bool
  | .d (.str _) => match i.sh with | [.str] => true | _ => false
  | .d (.sl es _) => match i.sh with | [.sl es'] => (Sh.eqs? es es').isSome && (Sh.eqs? es i.es).isSome | _ => false
  | _ => false

abbrev CallE := Nat → List AV → Tr SV
/-- Is a slice nil? One that is not empty is not; of an empty one it is not known. -/
def isNilC : Operand → Bool
  | .const (.slice none 0 0) => true
  | _ => false
def evNil (i : TI) (fr : Fr) (op : BinOp) (x : Operand) (put : AV → Option R) : Option R :=
  match rdO fr x with
  | some (.d (.sl es l)) => bif !i.agg && fitsV i (.d (.sl es l)) then (match op with
    | .eql => brP (l = []) (anyN 2 fun j => put (.d (.bool (Nat.beq j 0)))) (put (.d (.bool false)))
    | .neq => brP (l = []) (anyN 2 fun j => put (.d (.bool (Nat.beq j 0)))) (put (.d (.bool true)))
    | _ => none) else none
  | _ => none
/-- An address within a slice that is owned whole: whose it is, which row, which cell of it. -/
def rowAdr (s : Nat) (fr : Fr) : Option (Nat × Nat × Nat × ((es : List Sh) × List (RowE es))) :=
  match find s fr [] with
  | some (pre, .ow d (.at n i o), rest) => bif bound d pre then none else match look1 d rest with | .own es l => bif Nat.beq n es.length then some (d, i, o, ⟨es, l⟩) else none | _ => none
  | _ => none
/-- A store into a slice that is owned whole. -/
def evStoreOwn (i : TI) (s : Nat) (x : Operand) (fr : Fr) (K : Fr → Option R) : Option R :=
  match rowAdr s fr, (rdO fr x).bind AV.cells with
  | some (d, n, o, ⟨es, l⟩), some ds => bif Nat.beq ds.length i.sh.length then (bif Nat.ble (o + ds.length) es.length then
      (match ofDs es (setD o ds (rowD es (getR es l n))) with
      | some r' => K ((d, .own es (l.set n r')) :: fr)
      | none => none) else none) else none
  | _, _ => none
/-- A function that is handed variables, or slices of its own: which of its arguments, what it comes to, and what is behind in the variables. -/
structure OSpec where
  own : List Bool
  f : List SV → Tr (SV × List SV)
structure CallS where
  p : CallE
  o : Nat → Option OSpec
  pr : Bool := false
  ow : List Nat := []
  fz : List Nat := []
def owB (E : CallS) (o : Option Tmp) : Bool := match o with | some d' => E.ow.any fun d => Nat.beq d d' | none => false
def fzB (E : CallS) (o : Option Tmp) : Bool := match o with | some d' => E.fz.any fun d => Nat.beq d d' | none => false
/-- A slice of one's own, or, told once for all, its elements. -/
def apV (b : Bool) (es : List Sh) (l : List (RowE es)) : SV := bif b then .val (.d (.sl es l)) else .app es l
/-- Without those that are handed variables. -/
def CallS.noO (E : CallS) : CallS := { E with o := fun _ => none }
def hasNoO (E : CallS) (ops : List Oper) : Bool := ops.all fun o => match o.op with
  | .call c => (match c.callee with | .value (.func g) => (E.o g).isNone | _ => true)
  | _ => true
def pSV : AV → SV
  | .pt cs => .at cs
  | v => .val v
/-- The arguments; those that are owned are taken out of the frame. -/
def argsO : List Bool → List Operand → Fr → Option (List SV × List Nat × Fr)
  | [], [], fr => some ([], [], fr)
  | ow :: ows, x :: xs, fr => bif ow then
      (match x with
      | .tmp s => match root s fr with
        | some (d, 0) => (match boxOf d fr with
          | some cs => (match argsO ows xs ((d, .msk) :: fr) with
            | some r => some (.box true cs :: r.1, d :: r.2.1, r.2.2)
            | none => none)
          | none => none)
        | some (_, _ + 1) => none
        | none => match grow fr s with
          | some ⟨es, l, fr'⟩ => (match argsO ows xs fr' with
            | some r => some (.app es l :: r.1, r.2.1, r.2.2)
            | none => none)
          | none => match ownOf s fr with
            | some (d, ⟨es, l⟩) => (match argsO ows xs ((d, .msk) :: fr) with
              | some r => some (.own es l :: r.1, d :: r.2.1, r.2.2)
              | none => none)
            | none => none
      | _ => none)
    else match rdO fr x with
      | some v => (match argsO ows xs fr with
        | some r => some (pSV v :: r.1, r.2.1, r.2.2)
        | none => none)
      | none => none
  | _, _, _ => none
def outsO : List Nat → List SV → Fr → Option Fr
  | [], [], fr => some fr
  | d :: ds, .box _ cs :: os, fr => outsO ds os ((d, .box false cs) :: fr)
  | d :: ds, .own es l :: os, fr => outsO ds os ((d, .own es l) :: fr)
  | _, _, _ => none
def evCallO (sp : OSpec) (args : List Operand) (dst : Option Tmp) (fr : Fr) (K : Fr → Option R) : Option R :=
  match argsO sp.own args fr with
  | some (vs, ds, fr') => (sp.f vs).run fun r => match outsO ds r.2 fr' with | some fr2 => K (dset dst r.1 fr2) | none => none
  | none => none

def evOp0 (T : Tab) (E : CallS) (o : Oper) (fr : Fr) (K : Fr → Option R) : Option R :=
  let put (sv : SV) : Option R := K (dset o.dst sv fr)
  let putV (v : AV) : Option R := put (.val v)
  match o.op with
  | .move x => match x with
    | .tmp s => match find s fr [] with
      | some (_, .val v, _) => putV v
      | some (_, .app _ _, _) => put (.al s none)
      | some (_, .box _ _, _) => put (.ref s 0)
      | some (pre, .ref d off, _) => bif remade d pre then put .unk else put (.ref d off)
      | some (pre, .al d off, _) => bif bound d pre then put .unk else put (.al d off)
      | some (_, .at cs, _) => put (.at cs)
      | some (_, .bld cs, _) => putV (.agg (cs.map unNl))
      | some (_, .own _ _, _) => put (.al s none)
      | some (_, .mp _ _ _ _, _) => put (.al s none)
      | some (_, .mpa _ _ _ _ _, _) => put (.al s none)
      | some (pre, .ow d k, _) => bif bound d pre then put .unk else put (.ow d k)
      | _ => put .unk
    | .const (.slice none 0 0) => withT o.type T fun i => put (.app i.es [])
    | x => match rdO fr x with | some v => putV v | none => put .unk
  | .assign x => match x with
    | .tmp s => match find s fr [] with
      | some (_, .val v, _) => putV v
      | some (_, .app es l, _) => K (dset o.dst (apV (fzB E o.dst) es l) ((s, .val (.d (.sl es l))) :: fr))
      | some (_, .box _ cs, _) => K (dset o.dst (.box true cs) ((s, .unk) :: fr))
      | some (_, .al _ _, _) => match grow fr s with
        | some ⟨es, l, fr'⟩ => K (dset o.dst (apV (fzB E o.dst) es l) fr')
        | none => match mpOf s fr with
          | some (d, ⟨k, b, es, m⟩) => K (dset o.dst (.mp k b es m) ((d, .unk) :: fr))
          | none => match ownOf s fr with
            | some (d, ⟨es, l⟩) => K (dset o.dst (.own es l) ((d, .unk) :: fr))
            | none => match rd s fr with | some v => putV v | none => put .unk
      | some (_, .mp k b es m, _) => K (dset o.dst (.mp k b es m) ((s, .unk) :: fr))
      | some (_, .mpa _ k es h m, _) => K (dset o.dst (.mpa true k es h m) ((s, .unk) :: fr))
      | some (_, .bld cs, _) => putV (.agg (cs.map unNl))
      | some (_, .own es l, _) => K (dset o.dst (.own es l) ((s, .unk) :: fr))
      | some (pre, .ow d k, _) => bif bound d pre then put .unk else put (.ow d k)
      | _ => put .unk
    | .const (.slice none 0 0) => withT o.type T fun i => bif owB E o.dst then put (.own i.es []) else put (apV (fzB E o.dst) i.es [])
    | .const (.map none) => withT o.type T fun i => match i.sh with
      | [.mp k b es] => putV (.d (.mp k b es []))
      | _ => none
    | x => match rdO fr x with | some v => putV v | none => put .unk
  | .pick c a b => match c, rdO fr c with
    | _, some (.d (.bool t)) => br t (match rdO fr a with | some v => putV v | none => none) (match rdO fr b with | some v => putV v | none => none)
    | _, _ => none
  | .alloc t => withT t T fun i => put (.box true (i.sh.map fun e => match e with | .sl es => .app es [] | e => .val (.d (zeroD e))))
  | .box _ x => match bldOf fr x with
    | some cs => put (.box true (cs.map cellN))
    | none => match (rdO fr x).bind AV.cells with
      | some cs => put (.box true (cs.map fun c => .val (.d c)))
      | none => none
  | .build t parts => withT t T fun i => match i.agg, i.arr with
    | true, none => match fillZ i.sh.length i.flds fr parts.toList (i.sh.map zeroN) with
      | some cs => put (mkBld cs)
      | none => none
    | true, some (n, 1) => match fillW fr 0 parts.toList (i.sh.map zeroD) with
      | some cs => bif Nat.beq n i.sh.length then putV (.agg cs) else none
      | none => none
    | true, some (n, m) => match fillZ i.sh.length ((List.range n).map fun j => (j * m, m)) fr parts.toList (i.sh.map zeroD) with
      | some cs => putV (.agg cs)
      | none => none
    | _, _ => none
  | .buildSlice t n parts => withT t T fun i => match rowsOf i.es fr 0 parts.toList with
    | some l => bif Nat.beq l.length n then (bif Nat.ble (n * i.es.length) 1000 then (bif Nat.blt 0 i.es.length then (bif i.agg then none else put (.app i.es l)) else none) else none) else none
    | none => none
  | .load t a => withT t T fun i => match a with
    | .tmp s => match find s fr [], root s fr with
      | some (_, .at cs, _), _ => match part i.agg 0 i.sh.length cs with | some v => putV v | none => none
      | some (_, .ow _ _, _), _ => match rowAt s fr with
        | some cs => match part i.agg 0 i.sh.length cs with | some v => putV v | none => none
        | none => none
      | _, some (d, off) => match boxOf d fr with
        | some cs => bif i.agg then
            (match cellsD ((cs.drop off).take i.sh.length) with | some ds => bif Nat.beq ds.length i.sh.length then putV (.agg ds) else none | none => none)
          else
            let one : Option R := match cellAt off cs with
              | .val v => putV v
              | .app _ _ => put (.al d (some off))
              | _ => none
            bif Nat.blt 16 cs.length then (match cellsD cs with
              | some ds => chk (off < ds.length) (match idxD false ds.length off 1 ds with | some v => putV v | none => none)
              | none => one) else one
        | none => none
      | _, _ => none
    | _ => none
  | .store t a x => bif o.dst.isSome then none else withT t T fun i => match a with
    | .tmp s => match root s fr with
      | some (d, off) => match i.agg, x with
        | false, .const (.slice none 0 0) => match boxOf d fr with
          | some cs => bif Nat.blt off cs.length then K ((d, .box false (setAt off [.app i.es []] cs)) :: fr) else none
          | none => none
        | false, .tmp y => match grow fr y with
          | some ⟨es, l, fr'⟩ => match boxOf d fr' with
            | some cs => bif Nat.blt off cs.length then K ((d, .box false (setAt off [.app es l] cs)) :: fr') else none
            | none => none
          | none => match boxOf d fr, rd y fr with
            | some cs, some (.d v) => bif Nat.blt off cs.length then K ((d, .box false (setAt off [.val (.d v)] cs)) :: fr) else none
            | _, _ => none
        | _, x => match boxOf d fr, (rdO fr x).bind AV.cells with
          | some cs, some ds => bif Nat.beq ds.length i.sh.length then (bif Nat.ble (off + ds.length) cs.length then
              K ((d, .box false (setAt off (ds.map fun c => .val (.d c)) cs)) :: fr) else none) else none
          | _, _ => none
      | none => evStoreOwn i s x fr K
    | _ => none
  | .nilCheck x => match x with
    | .tmp s => match find s fr [] with
      | some (_, .box _ _, _) => put (.ref s 0)
      | some (pre, .ref d off, _) => bif remade d pre then none else put (.ref d off)
      | some (pre, .al d none, _) => bif bound d pre then none else match look1 d fr with | .box _ _ => put (.ref d 0) | _ => none
      | _ => none
    | _ => none
  | .binOp op xt x y _ => bif isNilC y then withT xt T fun i => evNil i fr op x putV else match rdO fr x, rdO fr y with
    | some a, some b => binV T xt op a b putV
    | _, _ => none
  | .unOp op _ x => match op, rdO fr x with
    | .not, some (.d (.bool b)) => putV (.d (.bool (!b)))
    | .neg, some (.d (.int k n)) => putV (.d (.int k (k.wrap (-n))))
    | _, _ => none
  | .convert u t x => withT t T fun i => withT u T fun j => match i.agg, i.sh, j.agg, j.sh, rdO fr x with
    | false, [.int k], false, [.int _], some (.d (.int _ n)) => putV (.d (.int k (k.wrap n)))
    | false, [.str], false, [.str], some (.d (.str s)) => putV (.d (.str s))
    | false, [.str], false, [.sl [.int .u8]], some (.d (.sl [.int .u8] l)) => putV (.d (.str (bytesStr l)))
    | _, _, _, _, _ => none
  | .slice t x lo hi none => withT t T fun i => match viewO fr x with
    | some (d, 0, b, ⟨es, _⟩) => match rdOpt fr lo, rdOpt fr hi with
      | some none, some (some (.d (.int _ m))) => bif i.agg || (Sh.eqs? es i.es).isNone || es.isEmpty then none else chk (0 ≤ m ∧ m ≤ b) (put (.ow d (.sub es.length 0 m.toNat)))
      | some (some (.d (.int _ n))), some none => bif i.agg || (Sh.eqs? es i.es).isNone || es.isEmpty then none else chk (0 ≤ n ∧ n ≤ b) (put (.ow d (.sub es.length n.toNat b)))
      | _, _ => none
    | some _ => none
    | none => match i.agg, rdO fr x, rdOpt fr lo, rdOpt fr hi with
    | false, some v, some a, some b => bif fitsV i v then evSlice v a b putV else none
    | _, _, _, _ => none
  | .fieldAddr t x f => withT t T fun i => match x with
    | .tmp s => match find s fr [], i.flds[f]?, root s fr with
      | some (_, .at cs, _), some (off, n), _ => put (.at ((cs.drop off).take n))
      | some (pre, .ow d (.at n i' o'), _), some (off, _), _ => bif bound d pre then none else put (.ow d (.at n i' (o' + off)))
      | _, some (off, _), some (d, o) => put (.ref d (o + off))
      | _, _, _ => none
    | _ => none
  | .field t x f => withT t T fun i => withT o.type T fun j => match rdO fr x, i.flds[f]?, i.ftys[f]? with
    | some (.agg cs), some (off, n), some ft => bif Nat.beq ft o.type then (bif Nat.beq n j.sh.length then (match part j.agg off n cs with | some v => putV v | none => none) else none) else none
    | _, _, _ => none
  | .indexAddr t x y => withT t T fun i => match viewO fr x with
    | some (d, lo, hi, ⟨es, _⟩) => match rdO fr y with
      | some (.d (.int _ n)) => bif i.agg || (Sh.eqs? es i.es).isNone || es.isEmpty || i.arr.isSome then none else chk (0 ≤ n ∧ n < ((hi : Int) - lo)) (put (.ow d (.at es.length (lo + n.toNat) 0)))
      | _ => none
    | none => match x, rdO fr y with
    | .tmp s, some (.d (.int _ n)) => match i.arr, root s fr with
      | some (len, m), some (d, o) => chk (0 ≤ n ∧ n < len) (put (.ref d (o + n.toNat * m)))
      | none, _ => match rd s fr with
        | some (.d (.sl es l)) => match Sh.eqs? es i.es with
          | some _ => bif i.agg then none else bif Nat.blt 0 i.es.length then chk (0 ≤ n ∧ n < l.length) (put (.at (rowD es (getR es l n)))) else none
          | none => none
        | _ => none
      | _, _ => none
    | _, _ => none
  | .index t x y => withT t T fun i => match i.agg, i.sh, rdO fr x, rdO fr y with
    | false, [.str], some (.d (.str s)), some (.d (.int _ n)) => chk (0 ≤ n ∧ n < s.length) (putV (.d (.int .u8 (byteAt s n))))
    | true, _, some (.agg cs), some (.d (.int _ n)) => withT o.type T fun j => match i.arr, i.ftys with
      | some (len, m), [ft] => bif Nat.beq ft o.type then (bif Nat.beq m j.sh.length then chk (0 ≤ n ∧ n < len) (match idxD j.agg len n.toNat m cs with | some v => putV v | none => none) else none) else none
      | _, _ => none
    | _, _, _, _ => none
  | .extract x i => match rdO fr x with
    | some (.tup vs) => match vs[i]? with | some v => putV v | none => none
    | _ => none
  | .range t x => withT t T fun i => match i.agg, i.sh, rdO fr x with
    | false, [.str], some (.d (.str s)) => put (.sit s 0)
    | false, [.mp k b es], some (.d (.mp k' b' es' m)) => match Sh.eq? (.mp k' b' es') (.mp k b es) with
      | some _ => put (.mit k' b' es' m none)
      | none => none
    | _, _, _ => none
  | .next it true => match it with
    | .tmp s => match find s fr [] with
      | some (_, .sit l pos, _) =>
        brP (pos < l.length)
          (K (dset o.dst (.val (.tup [.d (.bool true), .d (.int .i64 pos), .d (.int .i32 (Utf8.decode ⟨l.toArray⟩ pos).1)])) ((s, .sit l (pos + (Utf8.decode ⟨l.toArray⟩ pos).2)) :: fr)))
          (putV (.tup [.d (.bool false)]))
      | _ => none
    | _ => none
  | .next it false => match it with
    | .tmp s => match find s fr [] with
      | some (_, .mit k b es rem _, _) =>
        brP (rem = []) (putV (.tup [.d (.bool false)])) (anyN rem.length fun i =>
          K (dset o.dst (.val (.tup [.d (.bool true), .d (toD k (rem.getD i (CE.dflt k, RowE.dflt es)).1), argAV b es (rem.getD i (CE.dflt k, RowE.dflt es)).2]))
            ((s, .mit k b es (rem.eraseIdx i) (some (rem.getD i (CE.dflt k, RowE.dflt es)))) :: fr)))
      | _ => none
    | _ => none
  | .entry it => match it with
    | .tmp s => match find s fr [] with
      | some (_, .mit k b es _ (some x), _) => putV (.tup [.d (toD k x.1), argAV b es x.2])
      | _ => none
    | _ => none
  | .makeFunc (.func g) first caps => bif first.isEmpty then (match argVs fr caps.toList with | some vs => putV (.fn g vs) | none => none) else none
  | .makeSlice t x y => withT t T fun i => match rdO fr x, rdO fr y with
    | some (.d (.int .i64 n)), some (.d (.int .i64 m)) => bif i.agg || i.es.isEmpty then none else chk (n = m ∧ 0 ≤ n ∧ n * i.eb < lim) (put (.own i.es (List.replicate n.toNat (RowE.dflt i.es))))
    | _, _ => none
  | .slice t x lo hi (some mx) => withT t T fun i => match i.agg, rdO fr x, rdOpt fr lo, rdOpt fr hi, rdO fr mx with
    | false, some (.d (.sl es l)), some (some (.d (.int _ a))), some (some (.d (.int _ b))), some (.d (.int _ c)) => bif fitsV i (.d (.sl es l)) then chk (0 ≤ a ∧ a ≤ b ∧ b ≤ c ∧ c ≤ l.length) (putV (.d (.sl es ((l.take b.toNat).drop a.toNat)))) else none
    | _, _, _, _, _ => none
  | .makeMap t none => withT t T fun i => bif owB E o.dst then (match i.sh with
    | [.mp k false [.sl es]] => put (.mpa true k es none [])
    | _ => none) else match i.sh with
    | [.mp k b es] => put (.mp k b es [])
    | _ => none
  | .lookup t x y ok => withT t T fun i => match mpaO fr x with
    | some (d', ⟨k, es, none, m⟩) => bif ok then none else (match i.agg, rdO fr y with
      | false, some (.d d) => (match Sh.eqs? [.mp k false [.sl es]] i.sh, ofD k d with
        | some _, some key => K (dset o.dst (.app es (mget k [.sl es] m key).1) ((d', .mpa false k es (some key) m) :: fr))
        | _, _ => none)
      | _, _ => none)
    | some _ => none
    | none => match i.agg, mapV fr x, rdO fr y with
    | false, some (.mp k b es m), some (.d d) => match Sh.eqs? [.mp k b es] i.sh, ofD k d with
      | some _, some key => putV (bif ok then .tup [argAV b es (mget k es m key), .d (.bool (mhas k es m key))] else argAV b es (mget k es m key))
      | _, _ => none
    | _, _, _ => none
  | .mapUpdate t x y z => bif o.dst.isSome then none else withT t T fun i => bif i.agg then none else match x with
    | .tmp s => match mpaOf s fr with
      | some (d', ⟨k, es, some key0, m⟩) => (match rdO fr y, z with
        | some (.d d), .tmp zs => (match grow fr zs with
          | some ⟨es', l, fr'⟩ => (match Sh.eqs? [.mp k false [.sl es]] i.sh, ofD k d, Sh.eqs? es' es, look1 d' fr' with
            | some _, some key, some ⟨hh⟩, .mpa _ _ _ _ _ => chk (key = key0) (K ((d', .mpa false k es none (mput k [.sl es] m key ((hh ▸ l : List (RowE es)), ()))) :: fr'))
            | _, _, _, _ => none)
          | none => none)
        | _, _ => none)
      | some _ => none
      | none => match mpOf s fr, rdO fr y, rdO fr z with
      | some (d', ⟨k, b, es, m⟩), some (.d d), some v => match Sh.eqs? [.mp k b es] i.sh, ofD k d, argOf b es v with
        | some _, some key, some row => K ((d', .mp k b es (mput k es m key row)) :: fr)
        | _, _, _ => none
      | _, _, _ => none
    | _ => none
  | .call c => match c.callee with
    | .builtin .len => match c.args.toList, c.argTypes.toList with
      | [x], [t] => withT t T fun i => match viewO fr x with
        | some (_, lo, hi, ⟨es, _⟩) => bif i.agg || (Sh.eqs? es i.es).isNone || es.isEmpty then none else putV (.d (.int .i64 ((hi : Int) - lo)))
        | none => match i.agg, rdO fr x with
        | false, some v => bif fitsV i v then (match v with
          | .d (.str s) => putV (.d (.int .i64 s.length))
          | .d (.sl _ l) => putV (.d (.int .i64 l.length))
          | _ => none) else none
        | _, _ => none
      | _, _ => none
    | .builtin .max => match argVs fr c.args.toList with
      | some [.d (.int k a), .d (.int k' b)] => if k = k' then putV (.d (.int k (max2I a b))) else none
      | _ => none
    | .builtin .min => match argVs fr c.args.toList with
      | some [.d (.int k a), .d (.int k' b)] => if k = k' then putV (.d (.int k (min2I a b))) else none
      | _ => none
    | .builtin .append => evAppend T c.argTypes c.args o.dst fr K
    | .value (.func g) => match E.o g with
      | some sp => evCallO sp c.args.toList o.dst fr K
      | none => match argVs fr c.args.toList with
        | some vs => (E.p g vs).run put
        | none => match argVsW fr c.args.toList with
          | some vs => (E.p g vs).run fun sv => bif sv.flat then put sv else none
          | none => none
    | .value (.tmp t) => match rd t fr, argVs fr c.args.toList with
      | some (.fn g caps), some vs => match E.o g with
        | some sp => (sp.f ((vs ++ caps).map pSV)).run fun r => match r.2 with | [] => put r.1 | _ => none
        | none => (E.p g (vs ++ caps)).run put
      | _, _ => none
    | _ => none
  | _ => none

/-! What is told otherwise ahead of an operation: variables that a closure is handed, maps that are gone through, are left as they are from then on. -/
def frzBox (s : Nat) (fr : Fr) : Fr := match find s fr [] with
  | some (_, .box _ cs, _) => (match cellsD cs with | some ds => (s, .at ds) :: fr | none => fr)
  | _ => fr
def frzMp (s : Nat) (fr : Fr) : Fr := match mpOf s fr with
  | some (d, ⟨k, b, es, m⟩) => (s, .val (.d (.mp k b es m))) :: (d, .val (.d (.mp k b es m))) :: fr
  | none => match mpaOf s fr with
    | some (d, ⟨k, es, none, m⟩) => (s, .val (.d (.mp k false [.sl es] m))) :: (d, .val (.d (.mp k false [.sl es] m))) :: fr
    | _ => fr
def frzBoxes : List Operand → Fr → Fr
  | [], fr => fr
  | .tmp s :: l, fr => frzBoxes l (frzBox s fr)
  | _ :: l, fr => frzBoxes l fr
/-- Variables that are told once for all as soon as they are there. -/
def frzList : List Nat → Fr → Fr
  | [], fr => fr
  | s :: l, fr => frzList l (frzBox s fr)
def preF0 (o : Oper) (fr : Fr) : Fr := match o.op with
  | .makeFunc _ _ caps => frzBoxes caps.toList fr
  | .range _ (.tmp s) => frzMp s fr
  | _ => fr
def preF (fz : List Nat) (o : Oper) (fr : Fr) : Fr := preF0 o (frzList fz fr)
def evOp (T : Tab) (E : CallS) (o : Oper) (fr : Fr) (K : Fr → Option R) : Option R := evOp0 T E o (preF E.fz o fr) K

/-- Operations one behind the other. -/
def evOps (T : Tab) (E : CallS) (ops : List Oper) : List Oper → Fr → (Fr → Option R) → Option R
  | [], fr, K => K fr
  | o :: rest, fr, K => match o.guard with
    | none => evOp T E o fr fun fr' => evOps T E ops rest fr' K
    | some (j, want) => match (ops[j]?).bind (·.dst) with
      | some d => match rdSV d fr with
        | .und => evOps T E ops rest (dset o.dst .und fr) K
        | .val (.d (.bool b)) =>
          br b
            (bif want then evOp T E o ((d, .val (.d (.bool true))) :: fr) (fun fr' => evOps T E ops rest fr' K) else evOps T E ops rest (dset o.dst .und ((d, .val (.d (.bool true))) :: fr)) K)
            (bif want then evOps T E ops rest (dset o.dst .und ((d, .val (.d (.bool false))) :: fr)) K else evOp T E o ((d, .val (.d (.bool false))) :: fr) (fun fr' => evOps T E ops rest fr' K))
        | _ => none
      | none => none

inductive Ex where
  | normal | exit (id : Nat) | ret

/-- What the rounds over a map come to: one thing, or one of so many. -/
inductive MR where
  | one (x : Ex × List SV) | any (n : Nat) (f : Nat → Ex × List SV)
def MR.run {R : Type} : MR → (Ex × List SV → Option R) → Option R
  | .one x, K => K x
  | .any n f, K => anyN n fun i => K (f i)
/-- What a loop does: the slots that it is told, the slots that it tells. -/
structure LoopS where
  live : List Nat
  outs : List Nat
  f : List SV → Tr (Ex × List SV)
  unr : Nat := 0
  rets : List Nat := outs
  fm : Option (List SV → Tr MR) := none
def LoopS.oe (ls : LoopS) : Ex → List Nat
  | .ret => ls.rets
  | _ => ls.outs

def key : Code → Nat
  | .region id _ _ => id
  | .seq a _ => key a
  | .block _ c => key c
  | .loop c => key c
  | .cond _ a _ => key a
  | .scope c => key c
  | .label l => 1000000 + l
  | _ => 0
def wr : Code → List Nat
  | .region _ ops _ => ops.toList.filterMap (·.dst)
  | .seq a b => wr a ++ wr b
  | .cond _ a b => wr a ++ wr b
  | .block _ c => wr c
  | .loop c => wr c
  | .scope c => wr c
  | _ => []
/-- A part of a slice that is owned, or an address in it: whose it is. -/
def lookO (t : Nat) (fr : Fr) : Option (Nat × OA) :=
  match find t fr [] with
  | some (pre, .ow d k, _) => bif bound d pre then none else some (d, k)
  | some (pre, .al d none, rest) => bif bound d pre then none else match look1 d rest with | .own es l => some (d, .sub es.length 0 l.length) | _ => none
  | _ => none
/-- A slot, as a loop is told it: no alias, no address within a variable. -/
def lookL (s : Nat) (fr : Fr) : SV :=
  match look1 s fr with
  | .al _ _ => match lookO s fr with | some (d, k) => .ow d k | none => match rd s fr with | some v => .val v | none => .unk
  | .ref _ _ => .unk
  | .ow _ _ => match lookO s fr with | some (d, k) => .ow d k | none => .unk
  | .box _ cs => .box true cs
  | .mit k b es rem _ => .mit k b es rem none
  | .mpa _ k es h m => .mpa true k es h m
  | sv => sv
def looks (fr : Fr) : List Nat → List SV
  | [] => []
  | s :: l => lookL s fr :: looks fr l
def binds : List Nat → List SV → Fr
  | s :: l, v :: vs => (s, v) :: binds l vs
  | _, _ => []
def unks : List Nat → Fr → Fr
  | [], fr => fr
  | s :: l, fr => (s, .unk) :: unks l fr

/-! A region whose order is open: each operation is told from what it looks at alone. -/
def pureOp : Op → Bool
  | .binOp _ _ _ y _ => !isNilC y
  | .move _ | .pick .. | .alloc _ | .box .. | .build .. | .buildSlice .. | .load .. | .nilCheck _ | .unOp .. | .convert .. | .slice _ _ _ _ none | .fieldAddr .. | .field .. | .indexAddr .. | .index .. | .extract .. | .lookup .. => true
  | .call c => match c.callee with | .builtin .len => true | .value _ => true | _ => false
  | .assign _ => true
  | .store _ (.tmp _) _ => true
  | _ => false
/-- The slot that an operation tells anew: its own, or that of the variable that it writes. -/
def dstIs (s : Nat) (o : Oper) : Bool := match o.dst with | some d => Nat.beq d s | none => false
/-- The variable into which an address points that the region makes. -/
def rt1 (ops : List Oper) (s : Nat) : Nat := match ops.find? (dstIs s) with
  | some o => (match o.op with | .indexAddr _ (.tmp x) _ => x | .fieldAddr _ (.tmp x) _ => x | _ => s)
  | none => s
def rt (ops : List Oper) (s : Nat) : Nat := rt1 ops (rt1 ops s)
def dstO (ops : List Oper) (o : Oper) : Option Nat := match o.dst with
  | some d => some d
  | none => match o.op with
    | .store _ (.tmp s) _ => some (rt ops s)
    | _ => none
def storedIn (ops : List Oper) : List Nat := ops.filterMap fun o => match o.op with | .store _ (.tmp s) _ => some (rt ops s) | _ => none
def opTmps (o : Oper) : List Nat := o.op.operands.toList.filterMap fun | .tmp t => some t | _ => none
def lookedRt (ops : List Oper) (l : List Nat) : List Nat → List Nat
  | [] => []
  | R => (l.map (rt ops)).filter fun d => R.any fun x => Nat.beq x d
def looked (ops : List Oper) (o : Oper) : List Nat := opTmps o ++ lookedRt ops (opTmps o) (storedIn ops) ++ (match o.guard with | some (g, _) => ((ops[g]?).bind (·.dst)).toList | none => [])
def depB (ops : List Oper) (i j : Nat) : Bool := match ops[i]? with | some o => o.after.toList.any fun e => Region.binds .any e && Nat.beq e.on j | none => false
def dstAt (ops : List Oper) (j : Nat) : Option Nat := (ops[j]?).bind (·.dst)
def dstOAt (ops : List Oper) (j : Nat) : Option Nat := (ops[j]?).bind (dstO ops)
def drawOK (ops : List Oper) : Bool :=
  (ops.all fun o => pureOp o.op && (o.guard.isNone || (match o.op with | .store .. => false | _ => true))) &&
  (List.range ops.length).all fun i => match ops[i]? with
    | none => true
    | some o => (o.after.toList.all fun e => !(Region.binds .any e) || Nat.blt e.on i) &&
      ((dstO ops o).toList ++ looked ops o).all fun t => (List.range ops.length).all fun j => match dstOAt ops j with
        | none => true
        | some d => !(Nat.beq d t) || Nat.beq i j || (bif Nat.blt j i then depB ops i j else depB ops j i)
def lookE (t : Nat) : Fr → Option SV
  | [] => none
  | (x, sv) :: l => bif Nat.beq x t then some sv else lookE t l
def curOf (fr0 env : Fr) (t : Nat) : SV := match lookE t env with | some sv => sv | none => lookL t fr0
def SV.isAl : SV → Bool
  | .al _ _ | .ref _ _ | .ow _ _ => true
  | _ => false
def rootOf : SV → List Nat
  | .al d _ | .ref d _ | .ow d _ => [d]
  | _ => []
def selF (W : List Nat) (fr0 env : Fr) (l : List Nat) : Fr :=
  let ps := l.map fun t => (t, curOf fr0 env t)
  (ps.filter fun x => x.2.isAl) ++ (ps.filter fun x => !x.2.isAl) ++ (ps.flatMap fun x => rootOf x.2).filterMap fun d => bif W.any (fun y => Nat.beq y d) then none else some (d, lookL d fr0)
def san (W V : List Nat) (d : Nat) (fr : Fr) : SV :=
  match look1 d fr with
  | .al x none => bif W.any (fun y => Nat.beq y x) then .unk else .al x none
  | .al _ (some _) => match rd d fr with | some v => .val v | none => .unk
  | .ref x o => bif V.any (fun y => Nat.beq y x) || Nat.beq d x then .unk else .ref x o
  | .ow x k => bif W.any (fun y => Nat.beq y x) then .unk else .ow x k
  | .box _ cs => .box true cs
  | sv => sv
def regW (ops : List Oper) : List Nat := ops.filterMap (dstO ops)
def SV.isOwn : SV → Bool
  | .own _ _ => true
  | _ => false
/-- No slot is a part of a slice that the region writes. -/
def owOK (W : List Nat) (fr : Fr) : Bool := fr.all fun x => match x.2 with
  | .ow d _ => !(W.any fun y => Nat.beq y d)
  | .al d none => !(W.any fun y => Nat.beq y d) || !(look1 d fr).isOwn
  | _ => true
/-- A store of a plain value into a variable. -/
def plainStore (fr : Fr) (s d : Nat) (x : Operand) : Bool :=
  (match root s fr with | some (d', _) => Nat.beq d' d | none => false) && (match x with | .tmp y => (grow fr y).isNone | .const (.slice none 0 0) => false | _ => true)
def evD (T : Tab) (E : CallS) (ops : List Oper) (o : Oper) (fr : Fr) (K : Fr → Option R) : Option R :=
  match o.op with
  | .assign (.tmp s) => match rd s fr with | some v => K (dset o.dst (.val v) fr) | none => K (dset o.dst .unk fr)
  | .store _ (.tmp s) x => bif plainStore fr s (rt ops s) x then evOp0 T E.noO o fr K else none
  | .lookup _ x _ _ => bif (mpaO fr x).isNone then evOp0 T E.noO o fr K else none
  | _ => evOp0 T E.noO o fr K
def evDraw (T : Tab) (E : CallS) (ops : List Oper) (W V : List Nat) (fr0 : Fr) : List Oper → Fr → (Fr → Option R) → Option R
  | [], env, K => K env
  | o :: rest, env, K =>
    match o.guard with
    | none => evD T E ops o (selF W fr0 env (looked ops o)) fun fr' => evDraw T E ops W V fr0 rest (match dstO ops o with | some d => (d, san W V d fr') :: env | none => env) K
    | some (j, want) => match dstAt ops j with
      | some d => match curOf fr0 env d with
        | .und => evDraw T E ops W V fr0 rest (dset (dstO ops o) .und env) K
        | .val (.d (.bool b)) =>
          br b
            (bif want then evD T E ops o (selF W fr0 ((d, .val (.d (.bool true))) :: env) (looked ops o)) (fun fr' => evDraw T E ops W V fr0 rest (match dstO ops o with | some d' => (d', san W V d' fr') :: (d, .val (.d (.bool true))) :: env | none => (d, .val (.d (.bool true))) :: env) K)
             else evDraw T E ops W V fr0 rest (dset (dstO ops o) .und ((d, .val (.d (.bool true))) :: env)) K)
            (bif want then evDraw T E ops W V fr0 rest (dset (dstO ops o) .und ((d, .val (.d (.bool false))) :: env)) K
             else evD T E ops o (selF W fr0 ((d, .val (.d (.bool false))) :: env) (looked ops o)) (fun fr' => evDraw T E ops W V fr0 rest (match dstO ops o with | some d' => (d', san W V d' fr') :: (d, .val (.d (.bool false))) :: env | none => (d, .val (.d (.bool false))) :: env) K))
        | _ => none
      | none => none
def clean (fr : Fr) : Fr := fr.map fun x => (x.1, lookL x.1 fr)

/-! A region whose order is open and that writes: what only looks is taken first; of what is left one at a time may come. -/
def isT : Op → Bool
  | .binOp _ _ _ y _ => !isNilC y
  | .move _ | .pick .. | .load .. | .lookup .. | .nilCheck _ | .unOp .. | .convert .. | .slice _ _ _ _ none | .fieldAddr .. | .field .. | .indexAddr .. | .index .. | .extract .. => true
  | .call c => match c.callee with | .builtin .len => true | _ => false
  | _ => false
def isLd : Op → Bool
  | .load .. => true
  | .lookup .. => true
  | _ => false
def aftF (md : Region.Mode) (ops : Array Oper) : List Nat → List Nat → List Nat
  | [], S => S
  | j :: l, S => aftF md ops l (match ops[j]? with
    | some o => bif o.after.any fun e => Region.binds md e && S.any fun k => Nat.beq e.on k then j :: S else S
    | none => S)
def rtn (ops : List Oper) : Nat → Nat → Nat
  | 0, s => s
  | f + 1, s => match ops.find? (dstIs s) with
    | some o => (match o.op with | .move (.tmp x) | .nilCheck (.tmp x) | .fieldAddr _ (.tmp x) _ | .indexAddr _ (.tmp x) _ => rtn ops f x | _ => s)
    | none => s
def wrRoots (ops : List Oper) (o : Oper) : List Nat := match o.op with
  | .store _ (.tmp s) _ => [rtn ops 12 s]
  | .mapUpdate _ (.tmp s) _ _ => [rtn ops 12 s]
  | .call c => c.args.toList.filterMap fun | .tmp s => some (rtn ops 12 s) | _ => none
  | _ => []
def memN (l : List Nat) (x : Nat) : Bool := l.any fun y => Nat.beq x y
structure Sch where
  a : List (Bool × Nat)
  b : List (Bool × Nat)
  c : List (Bool × Nat)
  bs : List Nat
  st : List Nat
def okLdS (ops : Array Oper) (L : List Oper) (i : Nat) (s : Nat) : Bool :=
    let d := rtn L 12 s
    !(L.any (dstIs d)) && (let A := aftF .any ops (List.range ops.size) [i]; (List.range ops.size).all fun j => match ops[j]? with
      | some o => isT o.op || !(memN (wrRoots L o) d) || memN A j
      | none => true)
def okLd (ops : Array Oper) (L : List Oper) (i : Nat) : Op → Bool
  | .load _ (.tmp s) => okLdS ops L i s
  | .load .. => false
  | .lookup _ (.tmp s) _ _ => okLdS ops L i s
  | .lookup .. => false
  | _ => true
def mkA (ops : Array Oper) (L : List Oper) : List Nat → Array Bool → List (Bool × Nat)
  | [], _ => []
  | i :: l, lt => match ops[i]? with
    | some o => bif isT o.op && (o.after.all fun e => !(Region.binds .any e) || lt.getD e.on false) && okLd ops L i o.op then (true, i) :: mkA ops L l (lt.setIfInBounds i true) else mkA ops L l lt
    | none => []
def isOne (l : List Nat) (i : Nat) : Bool := match l with | [j] => Nat.beq j i | _ => false
def mkB (ops : Array Oper) : List Nat → Array Bool → List (Bool × Nat)
  | [], _ => []
  | i :: l, lt => (!(isOne (Region.ready .any ops lt) i), i) :: mkB ops l (lt.setIfInBounds i true)
def splitAt (p : Nat → Bool) : List (Bool × Nat) → List (Bool × Nat) × List (Bool × Nat)
  | [] => ([], [])
  | x :: l => bif p x.2 then ([], x :: l) else (let r := splitAt p l; (x :: r.1, r.2))
def mkSch (ops : Array Oper) : Sch :=
  let L := ops.toList
  let a := mkA ops L (List.range ops.size) (Array.replicate ops.size false)
  let lt := a.foldl (fun lt x => lt.setIfInBounds x.2 true) (Array.replicate ops.size false)
  let bs := (a.filterMap fun x => (ops[x.2]?).bind fun o => match o.op with | .load _ (.tmp s) => some (rtn L 12 s) | .lookup _ (.tmp s) _ _ => some (rtn L 12 s) | _ => none).eraseDups
  let rest := mkB ops ((List.range ops.size).filter fun i => !(lt.getD i true)) lt
  let bc := splitAt (fun i => match ops[i]? with | some o => (wrRoots L o).any (memN bs) | none => false) rest
  { a := a, b := bc.1, c := bc.2, bs := bs,
    st := L.filterMap fun o => match o.op with
      | .call c => (match c.callee, c.args.toList with | .builtin .append, .tmp s :: _ => some s | _, _ => none)
      | _ => none }
def okSeq (ops : Array Oper) : List (Bool × Nat) → Array Bool → Option (Array Bool)
  | [], lt => some lt
  | (tk, i) :: l, lt => bif (bif tk then (Region.ready .any ops lt).contains i && Region.free .any ops lt i else isOne (Region.ready .any ops lt) i) then okSeq ops l (lt.setIfInBounds i true) else none
def okSch (ops : Array Oper) (s : Sch) : Bool :=
  Region.noSelect ops && s.a.all (fun x => x.1) &&
  (s.a.all fun x => match ops[x.2]? with
    | some o => !(isLd o.op) || (let A := aftF .any ops (List.range ops.size) [x.2]; s.c.all fun y => y.1 || memN A y.2)
    | none => true) &&
  Nat.ble (s.a.length + (s.b.length + s.c.length)) ops.size &&
  (match okSeq ops s.a (Array.replicate ops.size false) with
  | some lt => (match okSeq ops s.b lt with
    | some lt => (match okSeq ops s.c lt with
      | some lt => (Region.ready .any ops lt).isEmpty
      | none => false)
    | none => false)
  | none => false)
def sched (ops : Array Oper) : Option Sch := let s := mkSch ops; bif okSch ops s then some s else none
def convOK (fr : Fr) : Op → Bool
  | .convert _ _ x => match rdO fr x with | some (.d (.sl _ _)) => false | _ => true
  | _ => true
def loadOK (ld : Bool) (BS : List Nat) (fr : Fr) : Op → Bool
  | .load _ (.tmp s) => ld && ((rowAt s fr).isNone && (match root s fr with | some (d, _) => memN BS d | none => true))
  | .load .. => false
  | .lookup _ (.tmp s) _ _ => ld && (match mpaOf s fr with | some (d, _) => memN BS d | none => match mpOf s fr with | some (d, _) => memN BS d | none => true)
  | .lookup .. => false
  | _ => true
def evStep (T : Tab) (E : CallS) (ld : Bool) (BS : List Nat) (tk : Bool) (o : Oper) (fr : Fr) (K : Fr → Option R) : Option R :=
  bif tk then (bif isT o.op && loadOK ld BS fr o.op && convOK fr o.op then evOp0 T E o fr K else none) else evOp T E o fr K
def evSeq (T : Tab) (E : CallS) (ld : Bool) (BS : List Nat) (ops : List Oper) : List (Bool × Nat) → Fr → (Fr → Option R) → Option R
  | [], fr, K => K fr
  | (tk, i) :: rest, fr, K => match ops[i]? with
    | none => none
    | some o => match o.guard with
      | none => evStep T E ld BS tk o fr fun fr' => evSeq T E ld BS ops rest fr' K
      | some (j, want) => match (ops[j]?).bind (·.dst) with
        | some d => match rdSV d fr with
          | .und => evSeq T E ld BS ops rest (dset o.dst .und fr) K
          | .val (.d (.bool b)) =>
            br b
              (bif want then evStep T E ld BS tk o ((d, .val (.d (.bool true))) :: fr) (fun fr' => evSeq T E ld BS ops rest fr' K) else evSeq T E ld BS ops rest (dset o.dst .und ((d, .val (.d (.bool true))) :: fr)) K)
              (bif want then evSeq T E ld BS ops rest (dset o.dst .und ((d, .val (.d (.bool false))) :: fr)) K else evStep T E ld BS tk o ((d, .val (.d (.bool false))) :: fr) (fun fr' => evSeq T E ld BS ops rest fr' K))
          | _ => none
        | none => none
def steals : List Nat → Fr → Fr
  | [], fr => fr
  | s :: l, fr => match find s fr [] with
    | some (_, .al _ _, _) => (match grow fr s with
      | some ⟨es, x, fr'⟩ => steals l ((s, .app es x) :: fr')
      | none => steals l fr)
    | _ => steals l fr
def msks : List Nat → Fr → Fr
  | [], fr => fr
  | d :: l, fr => (d, .msk) :: msks l fr
def unmsk (fr0 : Fr) : List Nat → Fr → Fr
  | [], fr => fr
  | d :: l, fr => match look1 d fr0 with
    | .box _ cs => (d, .box false cs) :: unmsk fr0 l fr
    | .mpa _ k es h m => (d, .mpa false k es h m) :: unmsk fr0 l fr
    | .mp k b es m => (d, .mp k b es m) :: unmsk fr0 l fr
    | _ => unmsk fr0 l fr
def addN (x : Nat) (l : List Nat) : List Nat := bif memN l x then l else x :: l
/-- The variables that a region loads from first. -/
def dynBs (fr : Fr) : List Nat → List Nat
  | [] => []
  | d :: l => match root d fr with
    | some (d', _) => bif (boxOf d' fr).isSome then addN d' (dynBs fr l) else dynBs fr l
    | none => match mpaOf d fr with
      | some (d', _) => addN d' (dynBs fr l)
      | none => match mpOf d fr with
        | some (d', _) => addN d' (dynBs fr l)
        | none => dynBs fr l
def isBM (d : Nat) (fr : Fr) : Bool := match look1 d fr with | .box _ _ => true | .mpa _ _ _ _ _ => true | .mp _ _ _ _ => true | _ => false
def evReg (T : Tab) (E : CallS) (ops : Array Oper) (fr : Fr) (K : Fr → Option R) : Option R :=
  match sched ops with
  | some s =>
    let bs := dynBs fr s.bs
    bif bs.all (fun d => isBM d fr && !(ops.toList.any (dstIs d))) then
      evSeq T E true bs ops.toList s.a fr fun fr1 =>
        let fr2 := steals s.st fr1
        bif bs.all (fun d => isBM d fr2) then
          evSeq T E false [] ops.toList s.b (msks bs fr2) fun fr3 => evSeq T E false [] ops.toList s.c (unmsk fr2 bs fr3) K
        else none
    else none
  | none => none

/-- At most so many rounds, one behind the other. -/
def unroll (step : Fr → (Ex → Fr → Option R) → Option R) : Nat → Fr → (Ex → Fr → Option R) → Option R
  | 0, _, _ => none
  | n + 1, fr, K => step fr fun e fr' => match e with | .normal => unroll step n fr' K | e => K e fr'
/-- A slot that was asked is told by the answer. -/
def truth (fr : Fr) (c : Operand) (b : Bool) : Fr := match c with
  | .tmp t => (match look1 t fr with | .val _ => (t, .val (.d (.bool b))) :: fr | _ => fr)
  | _ => fr
def evC (T : Tab) (E : CallS) (LT : Nat → Option LoopS) : Code → Fr → (Ex → Fr → Option R) → Option R
  | .skip, fr, K => K .normal fr
  | .region _ ops draw, fr, K => bif draw then (bif drawOK ops.toList && hasNoO E ops.toList && owOK (regW ops.toList) fr then evDraw T E ops.toList (ops.toList.filterMap (dstO ops.toList)) (ops.toList.filterMap (·.dst)) fr ops.toList [] (fun env => K .normal (env ++ clean fr)) else evReg T E ops fr (K .normal))
    else evOps T E ops.toList ops.toList fr (K .normal)
  | .seq a b, fr, K => evC T E LT a fr fun e fr' => match e with | .normal => evC T E LT b fr' K | e => K e fr'
  | .cond c a b, fr, K => match rdO fr c with
    | some (.d (.bool t)) => br t (evC T E LT a (bif E.pr then truth fr c true else fr) K) (evC T E LT b (bif E.pr then truth fr c false else fr) K)
    | _ => none
  | .block id c, fr, K => evC T E LT c fr fun e fr' => match e with | .exit j => bif Nat.beq j id then K .normal fr' else K e fr' | e => K e fr'
  | .loop c, fr, K => match LT (key c) with
    | some ls => match ls.unr with
      | 0 => match ls.fm with
        | none => (ls.f (looks fr ls.live)).run fun r => K r.1 (binds (ls.oe r.1) r.2 ++ unks (wr c) (unks ls.live fr))
        | some fm => (fm (looks fr ls.live)).run fun p => p.run fun x => K x.1 (binds (ls.oe x.1) x.2 ++ unks (wr c) (unks ls.live fr))
      | n + 1 => unroll (fun fr K => evC T E LT c fr K) (n + 1) fr K
    | none => none
  | .exit id, fr, K => K (.exit id) fr
  | .ret, fr, K => K .ret fr
  | .scope c, fr, K => evC T E LT c fr K
  | .label _, fr, K => K .normal fr
  | _, _, _ => none

/-- One round of a loop. -/
inductive Rnd where
  | again (vs : List SV) | out (e : Ex) (vs : List SV)
def evRound (T : Tab) (E : CallS) (LT : Nat → Option LoopS) (c : Code) (ls : LoopS) (vs : List SV) : Option Rnd :=
  evC T E LT c (binds ls.live vs) fun e fr => match e with
    | .normal => some (.again (looks fr ls.live))
    | e => some (.out e (looks fr (ls.oe e)))

/-- One round of a loop over a map, with what it is for. -/
def evRoundK (T : Tab) (E : CallS) (LT : Nat → Option LoopS) (c : Code) (ls : LoopS) (vs : List SV) (K : Ex → List SV → Option R) (A : List SV → Option R) : Option R :=
  evC T E LT c (binds ls.live vs) fun e fr => match e with
    | .normal => A (looks fr ls.live)
    | e => K e (looks fr (ls.oe e))

def params : Nat → List AV → Fr
  | _, [] => []
  | i, v :: vs => (i, pSV v) :: params (i + 1) vs
def resV (T : Tab) (fr : Fr) : ResultVar → Option AV
  | .tmp t => rd t fr
  | .cell a t => withT t T fun i => match root a fr with
    | some (d, 0) => (boxOf d fr).bind fun cs => (cellsD cs).bind fun ds => bif i.agg then (bif Nat.beq ds.length i.sh.length then some (.agg ds) else none) else none
    | _ => none
def resVs (T : Tab) (fr : Fr) : List ResultVar → Option (List AV)
  | [] => some []
  | r :: rs => match resV T fr r, resVs T fr rs with
    | some v, some l => some (v :: l)
    | _, _ => none
/-- A result; what is owned is left as it is from now on. -/
def resVF (T : Tab) (fr : Fr) : ResultVar → Option AV
  | .tmp t => match rd t fr with
    | some v => some v
    | none => match view t fr with
      | some (_, lo, hi, ⟨es, l⟩) => some (.d (.sl es ((l.take hi).drop lo)))
      | none => match mpOf t fr with
        | some (_, ⟨k, b, es, m⟩) => some (.d (.mp k b es m))
        | none => none
  | r => resV T fr r
def resVsF (T : Tab) (fr : Fr) : List ResultVar → Option (List AV)
  | [] => some []
  | r :: rs => match resVF T fr r, resVsF T fr rs with
    | some v, some l => some (v :: l)
    | _, _ => none
def resOf (T : Tab) (fn : Func) (fr : Fr) : Option SV :=
  match fn.results.toList with
  | [.tmp t] => match rdSV t fr with
    | .val v => some (.val v)
    | .app es l => some (.app es l)
    | _ => (resVF T fr (.tmp t)).map .val
  | [r] => (resV T fr r).map .val
  | rs => (resVsF T fr rs).map fun l => .val (.tup l)
/-- What is behind in the variables that a function was handed. -/
def boxOuts : Nat → List SV → Fr → Option (List SV)
  | _, [], _ => some []
  | i, .box _ _ :: l, fr => match look1 i fr, boxOuts (i + 1) l fr with
    | .box _ cs, some os => some (.box true cs :: os)
    | _, _ => none
  | i, .own _ _ :: l, fr => match look1 i fr, boxOuts (i + 1) l fr with
    | .own es' l', some os => some (.own es' l' :: os)
    | _, _ => none
  | i, _ :: l, fr => boxOuts (i + 1) l fr
def boxIdx : Nat → List SV → List Nat
  | _, [] => []
  | i, .box _ _ :: l => i :: boxIdx (i + 1) l
  | i, .own _ _ :: l => i :: boxIdx (i + 1) l
  | i, _ :: l => boxIdx (i + 1) l
def paramsO : Nat → List SV → Fr
  | _, [] => []
  | i, v :: vs => (i, v) :: paramsO (i + 1) vs
def resO (T : Tab) (fn : Func) (fr : Fr) : Option SV :=
  match fn.results.toList with
  | [.tmp t] => match look1 t fr with
    | .app es l => some (.app es l)
    | _ => match rd t fr with | some v => some (.val v) | none => none
  | [r] => (resV T fr r).map .val
  | rs => (resVs T fr rs).map fun l => .val (.tup l)
/-- What a call of a function comes to that is handed variables, or slices of its own. -/
def evFO (T : Tab) (E : CallS) (LT : Nat → Option LoopS) (fn : Func) (args : List SV) : Option (SV × List SV) :=
  match fn.body with
  | some c => bif (boxIdx 0 args).all fun i => !(memN (wr c) i) then
      evC T E LT c (paramsO 0 args) fun e fr => match e with
        | .exit _ => none
        | _ => match resO T fn fr, boxOuts 0 args fr with
          | some sv, some os => some (sv, os)
          | _, _ => none
    else none
  | none => none
/-- A call's result. -/
def evF (T : Tab) (E : CallS) (LT : Nat → Option LoopS) (fn : Func) (args : List AV) : Option SV :=
  match fn.body with
  | some c => evC T E LT c (params 0 args) fun e fr => match e with
    | .normal => resOf T fn fr
    | .ret => resOf T fn fr
    | .exit _ => none
  | none => none
end
end
end Go.Proofs.Ytgcjhcefpkbheaa.Lg
