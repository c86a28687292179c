/- Parts of a proof, merged: Sa, Sb, Sc, Sd, Se, Sf, Sg, Sh. Nothing is assumed. -/
import Derived.WalkKit
import Derived.WalkLawsBesides
import Derived.Orders
import Derived.Laws.Tables
/- A symbolic executor for the model's code: its values, its memory, its run. Nothing is assumed. -/
section
namespace Go.Proofs.Ytaoeigofmfpamaa
open Go
noncomputable section

def qnan : FloatKind → Nat
  | .f32 => 2143289344
  | .f64 => 9221120237041090560
/-- One word for all NaN. -/
def can (k : FloatKind) (b : Nat) : Nat := if (k.decode b).isNaN then qnan k else b

structure FOps where
  bin : BinOp → FloatKind → Nat → Nat → Nat
  cmp : BinOp → FloatKind → Nat → Nat → Bool
  neg : FloatKind → Nat → Nat
  conv : FloatKind → FloatKind → Nat → Nat
  convOk : FloatKind → FloatKind → Nat → Bool
  ofInt : FloatKind → Int → Nat
  toInt : FloatKind → IntKind → Nat → Int
  toIntOk : FloatKind → IntKind → Nat → Bool

inductive SB where
  | t | f
  | s (b : Bool)
def SB.val : SB → Bool
  | .t => true
  | .f => false
  | .s b => b
def SB.not : SB → SB
  | .t => .f
  | .f => .t
  | .s b => .s (!b)
def SB.and : SB → SB → SB
  | .t, x => x
  | .f, _ => .f
  | .s b, .t => .s b
  | .s _, .f => .f
  | .s b, .s c => .s (b && c)

inductive SI where
  | c (n : Int)
  | s (n : Int)
def SI.val : SI → Int
  | .c n => n
  | .s n => n

/-- One cell. -/
inductive SC where
  | any
  | bool (b : SB)
  | int (k : IntKind) (n : SI)
  | flt (k : FloatKind) (x : Nat)
  | str (s : ByteArray)
  | nilp
  | ptr (id off : Nat)
  | ptrx (id off stride cnt : Nat) (idx : Int)
  | ptrr (id off stride : Nat) (idx : Int)
  | sl (id off es : Nat) (len : SI) (full : Bool)
  | slr (id es : Nat) (idx len : Int)
inductive SE where
  | c (x : SC)
  | a (l : List SC)
inductive SV where
  | any
  | undef
  | c (x : SC)
  | a (l : List SC)
  | tup (l : List SE)

inductive SBody where
  | cells (l : List SC)
  | rows (st : Nat) (n : Int) (row : Int → List SC)
structure Seg where
  rw : Bool
  own : Bool
  body : SBody

/-! ### maps -/
inductive Tr (α : Type) where
  | nil
  | node (v : Option α) (l r : Tr α)
variable {α : Type}
def Tr.get (t : Tr α) : Nat → Option α :=
  Tr.rec (motive := fun _ => Nat → Option α) (fun _ => none)
    (fun v _ _ gl gr i => Nat.rec (motive := fun _ => Option α) v (fun j _ => Bool.rec (gr (j / 2)) (gl (j / 2)) (Nat.beq (j % 2) 0)) i) t
/-- The tree that holds 'x' at 'i' alone. -/
def Tr.one (x : α) (f : Nat) : Nat → Tr α :=
  Nat.rec (motive := fun _ => Nat → Tr α) (fun _ => .nil)
    (fun _ ih i => Nat.rec (motive := fun _ => Tr α) (.node (some x) .nil .nil) (fun j _ => Bool.rec (.node none .nil (ih (j / 2))) (.node none (ih (j / 2)) .nil) (Nat.beq (j % 2) 0)) i) f
def Tr.set (x : α) (t : Tr α) : Nat → Tr α :=
  Tr.rec (motive := fun _ => Nat → Tr α) (fun i => Tr.one x (i + 1) i)
    (fun v l r il ir i => Nat.rec (motive := fun _ => Tr α) (.node (some x) l r) (fun j _ => Bool.rec (.node v l (ir (j / 2))) (.node v (il (j / 2)) r) (Nat.beq (j % 2) 0)) i) t
def Tr.oneK {β : Type} (x : α) (f : Nat) : Nat → (Tr α → β) → β :=
  Nat.rec (motive := fun _ => Nat → (Tr α → β) → β) (fun _ k => k .nil)
    (fun _ ih i k => Nat.rec (motive := fun _ => β) (k (.node (some x) .nil .nil)) (fun j _ => Bool.rec (ih (j / 2) (fun r => k (.node none .nil r))) (ih (j / 2) (fun l => k (.node none l .nil))) (Nat.beq (j % 2) 0)) i) f
/-- 'set', done before one goes on. -/
def Tr.setK {β : Type} (x : α) (t : Tr α) : Nat → (Tr α → β) → β :=
  Tr.rec (motive := fun _ => Nat → (Tr α → β) → β) (fun i k => Tr.oneK x (i + 1) i k)
    (fun v l r il ir i k => Nat.rec (motive := fun _ => β) (k (.node (some x) l r)) (fun j _ => Bool.rec (ir (j / 2) (fun r' => k (.node v l r'))) (il (j / 2) (fun l' => k (.node v l' r))) (Nat.beq (j % 2) 0)) i) t
def Tr.keys (t : Tr α) : Nat → Nat → List Nat → List Nat :=
  Tr.rec (motive := fun _ => Nat → Nat → List Nat → List Nat) (fun _ _ acc => acc)
    (fun v _ _ kl kr a b acc => Option.rec (motive := fun _ => List Nat) (kl (2 * a) (a + b) (kr (2 * a) (2 * a + b) acc)) (fun _ => b :: kl (2 * a) (a + b) (kr (2 * a) (2 * a + b) acc)) v) t

/-- What a layer says of a segment: it is gone, it is this, or these cells of it are new. -/
inductive SD where
  | gone
  | full (g : Seg)
  | diff (d : List (Nat × SC))
def setC (l : List SC) : Nat → SC → List SC :=
  List.rec (motive := fun _ => Nat → SC → List SC) (fun _ _ => []) (fun y l ih j x => Nat.rec (motive := fun _ => List SC) (x :: l) (fun j' _ => y :: ih j' x) j) l
/-- The first of 'd' counts. -/
def patch (d : List (Nat × SC)) (l : List SC) : List SC :=
  List.rec (motive := fun _ => List SC) l (fun p _ ih => setC ih p.1 p.2) d
def patchB (d : List (Nat × SC)) : SBody → SBody
  | .cells l => .cells (patch d l)
  | .rows st n row => .rows st n row
def patchS (d : List (Nat × SC)) : Option Seg → Option Seg
  | some g => some ⟨g.rw, g.own, patchB d g.body⟩
  | none => none
def resD (v : SD) (g : Option Seg) : Option Seg :=
  match v with
  | .gone => none
  | .full g' => some g'
  | .diff d => patchS d g
def sdOf : Option Seg → SD
  | none => .gone
  | some g => .full g
def cellsD : Nat → List SC → List (Nat × SC) → List (Nat × SC)
  | _, [], acc => acc
  | o, x :: l, acc => (o, x) :: cellsD (o + 1) l acc
def putD (o : Nat) (new : List SC) (d : Option SD) : SD :=
  match d with
  | none => .diff (cellsD o new [])
  | some .gone => .gone
  | some (.full g) => .full ⟨g.rw, g.own, patchB (cellsD o new []) g.body⟩
  | some (.diff d) => .diff (cellsD o new d)
structure Ly where
  t : Tr SV
  s : Tr SD
structure Top where
  ly : Ly
  next : Nat
def getT (l : List Ly) (k : Nat) : SV :=
  List.rec (motive := fun _ => SV) .undef (fun y _ ih => Option.rec (motive := fun _ => SV) ih (fun v => v) (y.t.get k)) l
def getS (l : List Ly) (k : Nat) : Option Seg :=
  List.rec (motive := fun _ => Option Seg) none (fun y _ ih => Option.rec (motive := fun _ => Option Seg) ih (fun v => resD v ih) (y.s.get k)) l
def Top.empty (n : Nat) : Top := ⟨⟨.nil, .nil⟩, n⟩
def Top.setT (T : Top) (k : Nat) (v : SV) : Top := ⟨⟨T.ly.t.set v k, T.ly.s⟩, T.next⟩
def Top.setD (T : Top) (k : Nat) (v : SD) : Top := ⟨⟨T.ly.t, T.ly.s.set v k⟩, T.next⟩
def Top.setS (T : Top) (k : Nat) (v : Option Seg) : Top := T.setD k (sdOf v)
def Top.setTK {β : Type} (T : Top) (k : Nat) (v : SV) (f : Top → β) : β := T.ly.t.setK v k fun t => f ⟨⟨t, T.ly.s⟩, T.next⟩
def Top.setDK {β : Type} (T : Top) (k : Nat) (v : SD) (f : Top → β) : β := T.ly.s.setK v k fun s => f ⟨⟨T.ly.t, s⟩, T.next⟩
def Top.setSK {β : Type} (T : Top) (k : Nat) (v : Option Seg) (f : Top → β) : β := T.setDK k (sdOf v) f
def Top.setSsK {β : Type} (T : Top) (l : List (Nat × Option Seg)) : (Top → β) → β :=
  List.rec (motive := fun _ => Top → (Top → β) → β) (fun T f => f T) (fun p _ ih T f => T.setSK p.1 p.2 fun T' => ih T' f) l T
def Top.setSs (T : Top) (l : List (Nat × Option Seg)) : Top :=
  List.rec (motive := fun _ => Top → Top) (fun T => T) (fun p _ ih T => ih (T.setS p.1 p.2)) l T

/-! ### the merge of two ways -/
def mergeSB (b : Bool) : SB → SB → SB
  | .t, .t => .t
  | .f, .f => .f
  | x, y => .s (bif b then x.val else y.val)
def mergeSI (b : Bool) : SI → SI → SI
  | .c m, .c n => match decide (m = n) with
    | true => .c m
    | false => .s (bif b then m else n)
  | x, y => .s (bif b then x.val else y.val)
def mergeC (b : Bool) : SC → SC → SC
  | .bool x, .bool y => .bool (mergeSB b x y)
  | .int k x, .int k' y => match decide (k = k') with
    | true => .int k (mergeSI b x y)
    | false => .any
  | .flt k x, .flt k' y => match decide (k = k') with
    | true => .flt k (bif b then x else y)
    | false => .any
  | .str x, .str y => .str (bif b then x else y)
  | .nilp, .nilp => .nilp
  | .ptr i o, .ptr i' o' => match Nat.beq i i' && Nat.beq o o' with
    | true => .ptr i o
    | false => .any
  | .sl i o e n f, .sl i' o' e' n' f' => match Nat.beq i i' && Nat.beq o o' && Nat.beq e e' with
    | true => .sl i o e (mergeSI b n n') (f && f')
    | false => match Nat.beq i 0 with
      | true => .sl i' o' e' (mergeSI b n n') f'
      | false => match Nat.beq i' 0 with
        | true => .sl i o e (mergeSI b n n') f
        | false => .any
  | _, _ => .any
def mergeL (b : Bool) (l : List SC) : List SC → Option (List SC) :=
  List.rec (motive := fun _ => List SC → Option (List SC)) (fun m => List.rec (some []) (fun _ _ _ => none) m)
    (fun x _ ih m => List.rec none (fun y m' _ => Option.rec none (fun r => some (mergeC b x y :: r)) (ih m')) m) l
def mergeE (b : Bool) : SE → SE → Option SE
  | .c x, .c y => some (.c (mergeC b x y))
  | .a l, .a m => match mergeL b l m with
    | some r => some (.a r)
    | none => none
  | _, _ => none
def mergeEs (b : Bool) : List SE → List SE → Option (List SE)
  | [], [] => some []
  | x :: l, y :: m => match mergeE b x y with
    | some z => match mergeEs b l m with
      | some r => some (z :: r)
      | none => none
    | none => none
  | _, _ => none
def mergeV (b : Bool) : SV → SV → SV
  | .undef, .undef => .undef
  | .c x, .c y => .c (mergeC b x y)
  | .a l, .a m => match mergeL b l m with
    | some r => .a r
    | none => .any
  | .tup l, .tup m => match mergeEs b l m with
    | some r => .tup r
    | none => .any
  | _, _ => .any
/-- Two rows, cell by cell. -/
def mergeR (b : Bool) (l m : List SC) : List SC :=
  match mergeL b l m with
  | some r => r
  | none => []
def mergeSeg (b : Bool) : Option Seg → Option Seg → Option Seg
  | some ⟨w, o, .cells l⟩, some ⟨w', o', .cells m⟩ => match mergeL b l m with
    | some r => some ⟨w && w', o && o', .cells r⟩
    | none => none
  | some ⟨w, o, .rows st n row⟩, some ⟨w', o', .rows st' n' row'⟩ => match Nat.beq st st' with
    | true => some ⟨w && w', o && o', .rows st (bif b then n else n') (fun j => mergeR b (row j) (row' j))⟩
    | false => none
  | _, _ => none
def mergeTs (b : Bool) (l1 l2 : List Ly) (ks : List Nat) (T : Top) : Top :=
  List.rec (motive := fun _ => Top → Top) (fun T => T) (fun k _ ih T => ih (T.setT k (mergeV b (getT l1 k) (getT l2 k)))) ks T
def fsts {α : Type} (l : List (Nat × α)) : List Nat :=
  List.rec (motive := fun _ => List Nat) [] (fun p _ ih => p.1 :: ih) l
def inN (n : Nat) (l : List Nat) : Bool :=
  List.rec (motive := fun _ => Bool) false (fun m _ ih => Bool.rec ih true (Nat.beq n m)) l
/-- Each once. -/
def onceN (l : List Nat) : List Nat :=
  List.rec (motive := fun _ => List Nat) [] (fun n _ ih => Bool.rec (n :: ih) ih (inN n ih)) l
def posD : Option SD → Option (List Nat)
  | none => some []
  | some (.diff d) => some (fsts d)
  | _ => none
def mergeAt (b : Bool) (l m : List SC) (ps : List Nat) : List (Nat × SC) :=
  List.rec (motive := fun _ => List (Nat × SC)) [] (fun j _ ih => (j, mergeC b (l.getD j .any) (m.getD j .any)) :: ih) ps
def mergeF (b : Bool) (g1 g2 : Option Seg) : SD := sdOf (mergeSeg b g1 g2)
def mergeD (b : Bool) (d1 d2 : Option SD) (g1 g2 : Option Seg) : SD :=
  match posD d1, posD d2 with
  | some p1, some p2 => match g1, g2 with
    | some ⟨_, _, .cells l⟩, some ⟨_, _, .cells m⟩ => .diff (mergeAt b l m (onceN (p1 ++ p2)))
    | _, _ => .gone
  | _, _ => mergeF b g1 g2
def mergeSs (b : Bool) (y1 y2 : Ly) (R : List Ly) (ks : List Nat) (T : Top) : Top :=
  List.rec (motive := fun _ => Top → Top) (fun T => T) (fun k _ ih T => ih (T.setD k (mergeD b (y1.s.get k) (y2.s.get k) (getS (y1 :: R) k) (getS (y2 :: R) k)))) ks T
/-- Two overlays over one ground become one: 'b' says which. -/
def mergeTop (b : Bool) (R : List Ly) (o1 o2 : Top) : Top :=
  mergeSs b o1.ly o2.ly R (o1.ly.s.keys 1 0 (o2.ly.s.keys 1 0 []))
    (mergeTs b (o1.ly :: R) (o2.ly :: R) (o1.ly.t.keys 1 0 (o2.ly.t.keys 1 0 [])) (Top.empty (max o1.next o2.next)))
def commitT (l : List Ly) (ks : List Nat) (T : Top) : Top :=
  List.rec (motive := fun _ => Top → Top) (fun T => T) (fun k _ ih T => ih (T.setT k (getT l k))) ks T
def commitD (t o : Option SD) : SD :=
  match o with
  | none => match t with
    | some v => v
    | none => .diff []
  | some .gone => .gone
  | some (.full g) => .full g
  | some (.diff d) => match t with
    | none => .diff d
    | some .gone => .gone
    | some (.full g) => .full ⟨g.rw, g.own, patchB d g.body⟩
    | some (.diff d0) => .diff (d ++ d0)
def commitS (y o : Ly) (ks : List Nat) (T : Top) : Top :=
  List.rec (motive := fun _ => Top → Top) (fun T => T) (fun k _ ih T => ih (T.setD k (commitD (y.s.get k) (o.s.get k)))) ks T
/-- An overlay is laid onto its ground's first layer. -/
def commit (T o : Top) : Top := commitS T.ly o.ly (o.ly.s.keys 1 0 []) (commitT [o.ly] (o.ly.t.keys 1 0 []) ⟨T.ly, o.next⟩)

/-! ### one operation -/
structure Eff where
  val : SV
  ws : List (Nat × Option Seg)
  next : Nat
  rd : List Nat
  obs : List Bool

def svOfC : Value → Option SC
  | .bool true => some (.bool .t)
  | .bool false => some (.bool .f)
  | .int k n => some (.int k (.c n))
  | .float k b => match (k.decode b).isNaN || !Nat.ble (b + 1) (2 ^ k.format.width) with
    | true => none
    | false => some (.flt k b)
  | .string s => some (.str s)
  | .pointer none => some .nilp
  | .slice none 0 0 => some (.sl 0 0 0 (.c 0) false)
  | _ => none
def svOfL : List Value → Option (List SC)
  | [] => some []
  | v :: r => match svOfC v with
    | some x => match svOfL r with
      | some l => some (x :: l)
      | none => none
    | none => none
def svOf : Value → Option SV
  | .agg cs => match svOfL cs.toList with
    | some l => some (.a l)
    | none => none
  | v => match svOfC v with
    | some x => some (.c x)
    | none => none
def ev (gt : Nat → SV) (x : Operand) : Option SV :=
  Operand.rec (motive := fun _ => (Nat → SV) → Option SV) (fun t gt => some (gt t)) (fun v _ => svOf v) (fun _ _ => none) (fun _ _ => none) x gt
def SV.cells : SV → Option (List SC)
  | .c x => some [x]
  | .a l => some l
  | _ => none
def evC (gt : Nat → SV) (x : Operand) : Option SC :=
  match ev gt x with
  | some (.c c) => some c
  | _ => none
def evL (gt : Nat → SV) (x : Operand) : Option (List SC) :=
  match ev gt x with
  | some v => v.cells
  | none => none

def tsize (P : Program) (t : TypeId) : Option Nat := (P.info? t).map (·.size)
def tbytes (P : Program) (t : TypeId) : Option Nat := (P.info? t).map (·.bytes)
def tagg (P : Program) (t : TypeId) : Option Bool :=
  match P.underlying t with
  | some (.struct _) => some true
  | some (.array _ _) => some true
  | some _ => some false
  | none => none
def tzero (P : Program) (t : TypeId) : Option (List SC) :=
  match P.info? t with
  | some i => match i.zero with
    | some v => svOfL v.cells.toList
    | none => none
  | none => none
def telem (P : Program) (t : TypeId) : Option TypeId :=
  match P.underlying t with
  | some (.slice e) => some e
  | _ => none

/-- 'l' with the cells from 'o' on turned into 'new'. -/
def splice (l : List SC) : Nat → List SC → Option (List SC) :=
  List.rec (motive := fun _ => Nat → List SC → Option (List SC)) (fun _ new => List.rec (some []) (fun _ _ _ => none) new)
    (fun x l ih o new => List.rec (motive := fun _ => Option (List SC)) (some (x :: l))
      (fun y new' _ => Nat.rec (motive := fun _ => Option (List SC)) (Option.rec none (fun r => some (y :: r)) (ih 0 new')) (fun o' _ => Option.rec none (fun r => some (x :: r)) (ih o' (y :: new'))) o) new) l
def takeL (l : List SC) : Nat → Option (List SC) :=
  List.rec (motive := fun _ => Nat → Option (List SC)) (fun n => Nat.rec (some []) (fun _ _ => none) n)
    (fun x _ ih n => Nat.rec (motive := fun _ => Option (List SC)) (some []) (fun n' _ => Option.rec none (fun r => some (x :: r)) (ih n')) n) l
def dropL (l : List SC) : Nat → List SC :=
  List.rec (motive := fun _ => Nat → List SC) (fun _ => []) (fun x l ih n => Nat.rec (motive := fun _ => List SC) (x :: l) (fun n' _ => ih n') n) l
def part (l : List SC) (o n : Nat) : Option (List SC) := takeL (dropL l o) n
/-- The row that 'idx' names, among 'cnt' rows from 'o' on. -/
def selRow (l : List SC) (o st sz : Nat) (idx : Int) : Nat → Nat → Option (List SC)
  | 0, _ => none
  | 1, j => part l (o + j * st) sz
  | c + 2, j => match part l (o + j * st) sz with
    | some r => match selRow l o st sz idx (c + 1) (j + 1) with
      | some q => mergeL (decide (idx = j)) r q
      | none => none
    | none => none
def putRow (l : List SC) (o st : Nat) (idx : Int) (new : List SC) : Nat → Nat → Option (List SC)
  | 0, _ => some l
  | c + 1, j => match part l (o + j * st) new.length with
    | some r => match mergeL (decide (idx = j)) new r with
      | some q => match splice l (o + j * st) q with
        | some l' => putRow l' o st idx new c (j + 1)
        | none => none
      | none => none
    | none => none

def ofCells (agg : Bool) : List SC → Option SV
  | [x] => match agg with
    | true => some (.a [x])
    | false => some (.c x)
  | l => match agg with
    | true => some (.a l)
    | false => none

def pureE (n : Nat) : Option SV → Option Eff
  | some v => some ⟨v, [], n, [], []⟩
  | none => none

def sLoad (b : SBody) (p : SC) (sz : Nat) : Option (List SC × List Bool) :=
  match b, p with
  | .cells l, .ptr _ o => match part l o sz with
    | some r => some (r, [])
    | none => none
  | .cells l, .ptrx _ o st cnt idx => match selRow l o st sz idx cnt 0 with
    | some r => some (r, [])
    | none => none
  | .rows st n row, .ptrr _ o st' idx => match Nat.beq st st' && Nat.ble (o + sz) st with
    | true => match part (row idx) o sz with
      | some r => some (r, [decide (0 ≤ idx ∧ idx < n)])
      | none => none
    | false => none
  | _, _ => none
/-- Rows, some cells of one of which are new. -/
def putR (row : Int → List SC) (idx : Int) (o : Nat) (new : List SC) (j : Int) : List SC :=
  match part (row j) o new.length with
  | some old => match mergeL (decide (j = idx)) new old with
    | some m => match splice (row j) o m with
      | some r => r
      | none => []
    | none => []
  | none => []
def sStore (b : SBody) (p : SC) (new : List SC) : Option (SBody × List Bool) :=
  match b, p with
  | .cells l, .ptr _ o => match splice l o new with
    | some r => some (.cells r, [])
    | none => none
  | .cells l, .ptrx _ o st cnt idx => match putRow l o st idx new cnt 0 with
    | some r => some (.cells r, [])
    | none => none
  | .rows st n row, .ptrr _ o st' idx => match Nat.beq st st' && Nat.ble (o + new.length) st with
    | true => match splice (row idx) o new with
      | some _ => some (.rows st n (putR row idx o new), [decide (0 ≤ idx ∧ idx < n)])
      | none => none
    | false => none
  | _, _ => none
def ptrId : SC → Option Nat
  | .ptr i _ => some i
  | .ptrx i _ _ _ _ => some i
  | .ptrr i _ _ _ => some i
  | _ => none

def cmpI (op : BinOp) (a b : Int) : Option Bool :=
  match op with
  | .eql => some (decide (a = b))
  | .neq => some (!decide (a = b))
  | .lss => some (decide (a < b))
  | .leq => some (decide (a ≤ b))
  | .gtr => some (decide (b < a))
  | .geq => some (decide (b ≤ a))
  | _ => none
def ariI (op : BinOp) (k : IntKind) (a b : Int) : Option Int :=
  match op with
  | .add => some (k.wrap (a + b))
  | .sub => some (k.wrap (a - b))
  | .mul => some (k.wrap (a * b))
  | _ => none
def isCmp : BinOp → Bool
  | .eql | .neq | .lss | .leq | .gtr | .geq => true
  | _ => false
def isAri : BinOp → Bool
  | .add | .sub | .mul => true
  | _ => false
def isArf : BinOp → Bool
  | .add | .sub | .mul | .quo => true
  | _ => false
def sbOf : Bool → SB
  | true => .t
  | false => .f
def cmpC (r : Option Bool) : Option (SC × List Bool) :=
  match r with
  | some true => some (.bool .t, [])
  | some false => some (.bool .f, [])
  | none => none
def cmpS (r : Option Bool) : Option (SC × List Bool) :=
  match r with
  | some b => some (.bool (.s b), [])
  | none => none
def ariC (k : IntKind) (r : Option Int) : Option (SC × List Bool) :=
  match r with
  | some n => some (.int k (.c n), [])
  | none => none
def ariS (k : IntKind) (r : Option Int) : Option (SC × List Bool) :=
  match r with
  | some n => some (.int k (.s n), [])
  | none => none
def andI (k : IntKind) (m n : Int) : Int := k.wrap ((BitVec.ofInt k.bits m &&& BitVec.ofInt k.bits n).toNat)
def orI (k : IntKind) (m n : Int) : Int := k.wrap ((BitVec.ofInt k.bits m ||| BitVec.ofInt k.bits n).toNat)
def divS (op : BinOp) (k : IntKind) (m n : Int) : Option (SC × List Bool) :=
  match op with
  | .quo => some (.int k (.s (k.wrap (m.tdiv n))), [!decide (n = 0)])
  | .rem => some (.int k (.s (m.tmod n)), [!decide (n = 0)])
  | .and => some (.int k (.s (andI k m n)), [])
  | .or => some (.int k (.s (orI k m n)), [])
  | _ => none
def sInt (op : BinOp) (k : IntKind) : SI → SI → Option (SC × List Bool)
  | .c m, .c n => match isCmp op with
    | true => cmpC (cmpI op m n)
    | false => match isAri op with
      | true => ariC k (ariI op k m n)
      | false => divS op k m n
  | x, y => match isCmp op with
    | true => cmpS (cmpI op x.val y.val)
    | false => match isAri op with
      | true => ariS k (ariI op k x.val y.val)
      | false => divS op k x.val y.val
def sShift (op : BinOp) (k : IntKind) (x : SI) (n : Nat) : Option (SC × List Bool) :=
  match op with
  | .shl => match x with
    | .c m => some (.int k (.c (k.wrap (m * 2 ^ min n k.bits))), [])
    | .s m => some (.int k (.s (k.wrap (m * 2 ^ min n k.bits))), [])
  | _ => match x with
    | .c m => some (.int k (.c (m.fdiv (2 ^ min n k.bits))), [])
    | .s m => some (.int k (.s (m.fdiv (2 ^ min n k.bits))), [])
def isShift : BinOp → Bool
  | .shl | .shr => true
  | _ => false
def sFlt (O : FOps) (op : BinOp) (k : FloatKind) (x y : Nat) : Option (SC × List Bool) :=
  match isArf op with
  | true => some (.flt k (O.bin op k x y), [])
  | false => match isCmp op with
    | true => some (.bool (.s (O.cmp op k x y)), [])
    | false => none
def tbool (P : Program) (t : TypeId) : Bool :=
  match P.underlying t with
  | some .bool => true
  | _ => false
def sBool (tb : Bool) (op : BinOp) (x y : Bool) : Option (SC × List Bool) :=
  match tb with
  | true => match op with
    | .eql => some (.bool (.s (x == y)), [])
    | .neq => some (.bool (.s (!(x == y))), [])
    | _ => none
  | false => none
def sStr (op : BinOp) (x y : ByteArray) : Option (SC × List Bool) :=
  match op with
  | .add => some (.str (x ++ y), [decide (x.size + y.size ≤ 9223372036854775807)])
  | .eql => some (.bool (.s (x.toList == y.toList)), [])
  | .neq => some (.bool (.s (!(x.toList == y.toList))), [])
  | _ => none
def sIntK (op : BinOp) (k k' : IntKind) (x y : SI) : Option (SC × List Bool) :=
  match isShift op with
  | true => match y with
    | .c (.ofNat n) => sShift op k x n
    | _ => none
  | false => match decide (k = k') with
    | false => none
    | true => sInt op k x y
def sFltK (O : FOps) (op : BinOp) (k k' : FloatKind) (x y : Nat) : Option (SC × List Bool) :=
  match decide (k = k') with
  | false => none
  | true => sFlt O op k x y
def sBin (O : FOps) (tb : Bool) (op : BinOp) (a b : SC) : Option (SC × List Bool) :=
  SC.rec (motive := fun _ => FOps → Bool → BinOp → SC → Option (SC × List Bool))
    (any := fun _ _ _ _ => none)
    (bool := fun x _ tb op b => SC.rec (motive := fun _ => Option (SC × List Bool)) none (fun y => sBool tb op x.val y.val) (fun _ _ => none) (fun _ _ => none) (fun _ => none) none (fun _ _ => none) (fun _ _ _ _ _ => none) (fun _ _ _ _ => none) (fun _ _ _ _ _ => none) (fun _ _ _ _ => none) b)
    (int := fun k x _ _ op b => SC.rec (motive := fun _ => Option (SC × List Bool)) none (fun _ => none) (fun k' y => sIntK op k k' x y) (fun _ _ => none) (fun _ => none) none (fun _ _ => none) (fun _ _ _ _ _ => none) (fun _ _ _ _ => none) (fun _ _ _ _ _ => none) (fun _ _ _ _ => none) b)
    (flt := fun k x O _ op b => SC.rec (motive := fun _ => Option (SC × List Bool)) none (fun _ => none) (fun _ _ => none) (fun k' y => sFltK O op k k' x y) (fun _ => none) none (fun _ _ => none) (fun _ _ _ _ _ => none) (fun _ _ _ _ => none) (fun _ _ _ _ _ => none) (fun _ _ _ _ => none) b)
    (str := fun x _ _ op b => SC.rec (motive := fun _ => Option (SC × List Bool)) none (fun _ => none) (fun _ _ => none) (fun _ _ => none) (fun y => sStr op x y) none (fun _ _ => none) (fun _ _ _ _ _ => none) (fun _ _ _ _ => none) (fun _ _ _ _ _ => none) (fun _ _ _ _ => none) b)
    (nilp := fun _ _ _ _ => none)
    (ptr := fun _ _ _ _ _ _ => none)
    (ptrx := fun _ _ _ _ _ _ _ _ _ => none)
    (ptrr := fun _ _ _ _ _ _ _ _ => none)
    (sl := fun _ _ _ _ _ _ _ _ _ => none)
    (slr := fun _ _ _ _ _ _ _ _ => none) a O tb op b
def sUn (O : FOps) (op : UnOp) : SC → Option SC
  | .bool b => match op with
    | .not => some (.bool b.not)
    | _ => none
  | .flt k x => match op with
    | .neg => some (.flt k (O.neg k x))
    | _ => none
  | .int k (.c n) => match op with
    | .neg => some (.int k (.c (k.wrap (0 - n))))
    | _ => none
  | .int k (.s n) => match op with
    | .neg => some (.int k (.s (k.wrap (0 - n))))
    | _ => none
  | _ => none
def sConv (O : FOps) (d : TypeDesc) : SC → Option (SC × List Bool)
  | .int _ (.c n) => match d with
    | .int k => some (.int k (.c (k.wrap n)), [])
    | .float k => some (.flt k (O.ofInt k n), [])
    | _ => none
  | .int _ (.s n) => match d with
    | .int k => some (.int k (.s (k.wrap n)), [])
    | .float k => some (.flt k (O.ofInt k n), [])
    | _ => none
  | .flt s x => match d with
    | .float k => match decide (s = k) with
      | true => some (.flt k x, [])
      | false => match s with
        | .f32 => some (.flt k (O.conv s k x), [])
        | .f64 => some (.flt k (O.conv s k x), [O.convOk s k x])
    | .int k => some (.int k (.s (O.toInt s k x)), [O.toIntOk s k x])
    | _ => none
  | .str s => match d with
    | .string => some (.str s, [])
    | _ => none
  | _ => none

def fillC (pl : Nat → Option (Nat × Nat)) (gt : Nat → SV) : List SC → List (Nat × Operand) → Option (List SC)
  | l, [] => some l
  | l, (i, x) :: r => match pl i with
    | some (o, sz) => match evL gt x with
      | some new => match Nat.beq new.length sz && Nat.ble (o + sz) l.length with
        | true => match splice l o new with
          | some l' => fillC pl gt l' r
          | none => none
        | false => none
      | none => none
    | none => none
def fieldPl (P : Program) (fs : Array Field) (i : Nat) : Option (Nat × Nat) :=
  match fs[i]? with
  | some f => match tsize P f.type with
    | some s => some (f.offset, s)
    | none => none
  | none => none
def repL (z : List SC) : Nat → List SC
  | 0 => []
  | n + 1 => z ++ repL z n

/-- An address of element 'i' behind 'p'. -/
def sIndex (len es : Nat) (p : SC) (i : SI) : Option (SC × List Bool) :=
  match p, i with
  | .ptr id o, .c (.ofNat n) => match Nat.ble (n + 1) len with
    | true => some (.ptr id (o + n * es), [])
    | false => none
  | .ptr id o, .s n => some (.ptrx id o es len n, [decide (0 ≤ n ∧ n < len)])
  | .ptrr id o st idx, .c (.ofNat n) => match Nat.ble (n + 1) len with
    | true => some (.ptrr id (o + n * es) st idx, [])
    | false => none
  | _, _ => none
def sIndexS (P : Program) (id o es es' : Nat) (len : SI) (g : Option Seg) (i : SI) : Option (SC × List Bool) :=
  match len, i with
  | .c (.ofNat m), .c (.ofNat n) => match Nat.ble (n + 1) m && Nat.beq es es' with
    | true => some (.ptr id (o + n * es), [])
    | false => none
  | .c (.ofNat m), .s n => match Nat.beq es es' with
    | true => some (.ptrx id o es m n, [decide (0 ≤ n ∧ n < m)])
    | false => none
  | .s m, n => match Nat.beq es es', g with
    | true, some ⟨_, _, .rows st _ _⟩ => match Nat.beq o 0 && Nat.beq st es with
      | true => some (.ptrr id 0 es n.val, [decide (0 ≤ n.val ∧ n.val < m)])
      | false => match Nat.beq (o % es) 0 && (Nat.beq st es && Nat.ble 1 es) with
        | true => some (.ptrr id 0 es (n.val + ((o / es : Nat) : Int)), [decide (0 ≤ n.val ∧ n.val < m)])
        | false => none
    | _, _ => none
  | _, _ => none

/-! ### calls -/
structure CEff where
  ret : SV
  ws : List (Nat × Option Seg)
  next : Nat
  obs : List Bool
/-- What a call does: the first free id, the arguments, the segments that they lead to. -/
def CS := Nat → List SV → List (Nat × Seg) → Option CEff

def idsC : SC → List Nat → List Nat
  | .ptr i _, acc => i :: acc
  | .ptrx i _ _ _ _, acc => i :: acc
  | .ptrr i _ _ _, acc => i :: acc
  | .sl i _ _ _ _, acc => i :: acc
  | _, acc => acc
def idsL (l : List SC) (acc : List Nat) : List Nat :=
  List.rec (motive := fun _ => List Nat) acc (fun x _ ih => idsC x ih) l
def idsE : List SE → List Nat → List Nat
  | [], acc => acc
  | .c x :: l, acc => idsC x (idsE l acc)
  | .a m :: l, acc => idsL m (idsE l acc)
def idsV : SV → List Nat → List Nat
  | .any, acc => acc
  | .undef, acc => acc
  | .c x, acc => idsC x acc
  | .a l, acc => idsL l acc
  | .tup l, acc => idsE l acc
def idsVs : List SV → List Nat → List Nat
  | [], acc => acc
  | v :: l, acc => idsV v (idsVs l acc)
def memN (n : Nat) (l : List Nat) : Bool :=
  List.rec (motive := fun _ => Bool) false (fun m _ ih => Bool.rec ih true (Nat.beq n m)) l
def hasId {α : Type} (n : Nat) : List (Nat × α) → Bool
  | [] => false
  | (m, _) :: l => match Nat.beq n m with
    | true => true
    | false => hasId n l
/-- The segments of some ids, each once, onto 'acc'. -/
def grab (gs : Nat → Option Seg) : List Nat → List (Nat × Seg) → List (Nat × Seg)
  | [], acc => acc
  | i :: l, acc => match hasId i acc with
    | true => grab gs l acc
    | false => match gs i with
      | some s => grab gs l ((i, s) :: acc)
      | none => grab gs l acc
def idsSegs : List (Nat × Seg) → List Nat → List Nat
  | [], acc => acc
  | (_, ⟨_, _, .cells l⟩) :: r, acc => idsL l (idsSegs r acc)
  | (_, ⟨_, _, .rows _ _ _⟩) :: r, acc => idsSegs r acc
def reach1 (gs : Nat → Option Seg) (args : List SV) : List (Nat × Seg) := grab gs (idsVs args []) []
def reach (gs : Nat → Option Seg) (args : List SV) : List (Nat × Seg) := grab gs (idsSegs (reach1 gs args) []) (reach1 gs args)
/-- All ids that 'reach' looks at. -/
def reachI (gs : Nat → Option Seg) (args : List SV) : List Nat := idsVs args [] ++ idsSegs (reach1 gs args) []
def findS (i : Nat) : List (Nat × Seg) → Option Seg
  | [] => none
  | (j, s) :: l => match Nat.beq i j with
    | true => some s
    | false => findS i l
def fstsN {α : Type} : List (Nat × α) → List Nat
  | [] => []
  | (i, _) :: l => i :: fstsN l
def evs (gt : Nat → SV) : List Operand → Option (List SV)
  | [] => some []
  | x :: l => match ev gt x with
    | some v => match evs gt l with
      | some r => some (v :: r)
      | none => none
    | none => none

structure Cx where
  P : Program
  O : FOps
  orc : Nat → Option CS

def idRd : Option Nat → List Nat
  | some i => [i]
  | none => []
def sLen (P : Program) (t : TypeId) : SC → Option SC
  | .sl _ _ _ n _ => match P.underlying t with
    | some (.slice _) => some (.int .i64 n)
    | _ => none
  | .str s => match P.underlying t with
    | some .string => some (.int .i64 (.s s.size))
    | _ => none
  | _ => none
/-- 'f' behind a cell. -/
def bindC {β : Type} (x : Option SV) (f : SC → Option β) : Option β :=
  Option.rec none (fun v => SV.rec none none f (fun _ => none) (fun _ => none) v) x
def bindO {γ β : Type} (x : Option γ) (f : γ → Option β) : Option β := Option.rec none f x
/-- The cells that 'append' adds. -/
def appNew (gs : Nat → Option Seg) (i2 o2 e2 es m : Nat) : Option (List SC) :=
  match Nat.beq m 0 with
  | true => some []
  | false => match Nat.beq e2 es with
    | true => match gs i2 with
      | some g => match sLoad g.body (.ptr i2 o2) (m * es) with
        | some (l, []) => some l
        | _ => none
      | none => none
    | false => none
def appOwn (gs : Nat → Option Seg) (next i1 i2 n m es : Nat) (new : List SC) : Option Eff :=
  match gs i1 with
  | some ⟨true, true, .cells l1⟩ => match Nat.ble (n * es + m * es) l1.length && (Nat.ble 1 n || Nat.beq m 0) with
    | true => match splice l1 (n * es) new with
      | some r => some ⟨.c (.sl i1 0 es (.c (.ofNat (n + m))) true), [(i1, some ⟨true, true, .cells r⟩)], next, [i1, i2], []⟩
      | none => none
    | false => match Nat.ble (l1.length + 1) (n * es + m * es) with
      | true => match takeL l1 (n * es) with
        | some old => some ⟨.c (.sl next 0 es (.c (.ofNat (n + m))) true), [(i1, none), (next, some ⟨true, true, .cells (old ++ new)⟩)], next + 1, [i1, i2], []⟩
        | none => none
      | false => none
  | _ => none
def sApp (P : Program) (e : TypeId) (gs : Nat → Option Seg) (next i1 o1 e1 n : Nat) (f1 : Bool) (i2 o2 e2 m es by' : Nat) (z : List SC) : Option Eff :=
  match Nat.ble 1 es && Nat.ble (n + m) 1000000 && Nat.ble by' 1000000 && Nat.beq z.length es with
  | false => none
  | true => bindO (appNew gs i2 o2 e2 es m) fun new => match Nat.beq i1 0 with
    | true => match Nat.beq n 0 with
      | true => match Nat.beq m 0 with
        | true => some ⟨.c (.sl 0 0 0 (.c 0) false), [], next, [], []⟩
        | false => some ⟨.c (.sl next 0 es (.c (.ofNat m)) true), [(next, some ⟨true, true, .cells new⟩)], next + 1, [i2], []⟩
      | false => none
    | false => match Nat.beq o1 0 && Nat.beq e1 es && f1 with
      | true => appOwn gs next i1 i2 n m es new
      | false => none
/-- Rows onto an empty slice; a row onto rows. -/
def appR (next i1 i2 es : Nat) (b1 : SBody) (n : SI) (b2 : SBody) (o2 : Nat) (m : SI) : Option Eff :=
  match n with
  | .c (.ofNat k) => match Nat.beq k 0 with
    | true => match b2 with
      | .rows st N row => match m with
        | .s m => match Nat.beq o2 0 && Nat.beq st es with
          | true => some ⟨.c (.sl next 0 es (.s m) true), [(i1, none), (next, some ⟨true, true, .rows es m row⟩)], next + 1, [i1, i2], [decide (0 ≤ m ∧ m ≤ N ∧ m ≤ 1000000)]⟩
          | false => none
        | .c _ => none
      | .cells _ => none
    | false => none
  | .s n => match b1 with
    | .rows st N row => match m with
      | .c (.ofNat k) => match b2 with
        | .cells l => match Nat.beq k 1 && Nat.beq st es with
          | true => match part l o2 es with
            | some r => some ⟨.c (.sl next 0 es (.s (n + 1)) true), [(i1, none), (next, some ⟨true, true, .rows es (n + 1) (fun j => bif decide (j < n) then row j else r)⟩)], next + 1, [i1, i2], [decide (0 ≤ n ∧ n ≤ N ∧ n ≤ 999999)]⟩
            | none => none
          | false => match Nat.beq k 2 && Nat.beq st es with
            | true => match part l o2 es with
              | some r => match part l (o2 + es) es with
                | some r' => some ⟨.c (.sl next 0 es (.s (n + 2)) true), [(i1, none), (next, some ⟨true, true, .rows es (n + 2) (fun j => bif decide (j < n) then row j else bif decide (j = n) then r else r')⟩)], next + 1, [i1, i2], [decide (0 ≤ n ∧ n ≤ N ∧ n ≤ 999998)]⟩
                | none => none
              | none => none
            | false => none
        | .rows _ _ _ => none
      | _ => none
    | .cells _ => none
  | _ => none
/-- Rows onto rows. -/
def sAppRR (gs : Nat → Option Seg) (next i1 o1 e1 : Nat) (n : SI) (f1 : Bool) (i2 e2 : Nat) (idx m : Int) (es by' : Nat) (z : List SC) : Option Eff :=
  match Nat.ble 1 es && Nat.ble by' 1000000 && Nat.beq z.length es && Nat.ble 1 i1 && Nat.beq o1 0 && Nat.beq e1 es && f1 && Nat.beq e2 es with
  | false => none
  | true => match n with
    | .c _ => none
    | .s n => match gs i1 with
      | some ⟨true, true, .rows st N row⟩ => match gs i2 with
        | some ⟨_, _, .rows st2 N2 row2⟩ => match Nat.beq st es && Nat.beq st2 es with
          | true => some ⟨.c (.sl next 0 es (.s (n + m)) true), [(i1, none), (next, some ⟨true, true, .rows es (n + m) (fun j => bif decide (j < n) then row j else row2 (j - n + idx))⟩)], next + 1, [i1, i2], [decide (0 ≤ n ∧ n ≤ N ∧ 0 ≤ m ∧ 0 ≤ idx ∧ idx + m ≤ N2 ∧ n + m ≤ 1000000)]⟩
          | false => none
        | _ => none
      | _ => none
def sAppR (gs : Nat → Option Seg) (next i1 o1 e1 : Nat) (n : SI) (f1 : Bool) (i2 o2 e2 : Nat) (m : SI) (es by' : Nat) (z : List SC) : Option Eff :=
  match Nat.ble 1 es && Nat.ble by' 1000000 && Nat.beq z.length es && Nat.ble 1 i1 && Nat.beq o1 0 && Nat.beq e1 es && f1 && Nat.beq e2 es with
  | false => none
  | true => match gs i1 with
    | some ⟨true, true, b1⟩ => bindO (gs i2) fun g2 => appR next i1 i2 es b1 n g2.body o2 m
    | _ => none
/-- 'append(s, x...)' at known lengths, or of rows. -/
def sAppend (P : Program) (t : TypeId) (gs : Nat → Option Seg) (next : Nat) : SC → SC → Option Eff
  | .sl i1 o1 e1 (.c (.ofNat n)) f1, .sl i2 o2 e2 (.c (.ofNat m)) _ =>
    bindO (telem P t) fun e => bindO (tsize P e) fun es => bindO (tbytes P e) fun by' => bindO (tzero P e) fun z => sApp P e gs next i1 o1 e1 n f1 i2 o2 e2 m es by' z
  | .sl i1 o1 e1 n f1, .sl i2 o2 e2 m _ =>
    bindO (telem P t) fun e => bindO (tsize P e) fun es => bindO (tbytes P e) fun by' => bindO (tzero P e) fun z => sAppR gs next i1 o1 e1 n f1 i2 o2 e2 m es by' z
  | .sl i1 o1 e1 n f1, .slr i2 e2 idx m =>
    bindO (telem P t) fun e => bindO (tsize P e) fun es => bindO (tbytes P e) fun by' => bindO (tzero P e) fun z => sAppRR gs next i1 o1 e1 n f1 i2 e2 idx m es by' z
  | _, _ => none
/-- 'x[lo:hi]' at known places. -/
def natOf (gt : Nat → SV) : Option Operand → Nat → Option Nat
  | none, d => some d
  | some x, _ => match evC gt x with
    | some (.int _ (.c (.ofNat n))) => some n
    | _ => none
def sSlice (P : Program) (t : TypeId) (gt : Nat → SV) (x : SC) (lo hi : Option Operand) : Option SC :=
  match P.underlying t, x with
  | some (.array n e), .ptr i o => match tsize P e with
    | some es => match natOf gt lo 0, natOf gt hi n with
      | some l, some h => match Nat.ble l h && Nat.ble h n && Nat.ble 1 i with
        | true => some (.sl i (o + l * es) es (.c (.ofNat (h - l))) false)
        | false => none
      | _, _ => none
    | none => none
  | some (.slice e), .sl i o es (.c (.ofNat n)) f => match tsize P e with
    | some es' => match natOf gt lo 0, natOf gt hi n with
      | some l, some h => match Nat.ble l h && Nat.ble h n && Nat.beq es es' with
        | true => some (.sl i (o + l * es) es (.c (.ofNat (h - l))) f)
        | false => none
      | _, _ => none
    | none => none
  | _, _ => none
def mkC (next n es : Nat) (z : List SC) : Option Eff :=
  some ⟨.c (.sl next 0 es (.c (.ofNat n)) true), [(next, some ⟨true, true, .cells (repL z n)⟩)], next + 1, [], []⟩
/-- Known whole numbers, told of as if they were not. -/
def softC : SC → SC
  | .int k (.c m) => .int k (.s m)
  | x => x
def softL (l : List SC) : List SC := List.rec (motive := fun _ => List SC) [] (fun x _ ih => softC x :: ih) l
def mkS (next es : Nat) (n m : Int) (z : List SC) : Option Eff :=
  some ⟨.c (.sl next 0 es (.s n) true), [(next, some ⟨true, true, .rows es n (fun _ => softL z)⟩)], next + 1, [], [decide (n = m ∧ 0 ≤ n ∧ n ≤ 100000000)]⟩
def sMake2 (next : Nat) (x y : SI) (es by' : Nat) (z : List SC) : Option Eff :=
  match Nat.ble by' 1000000 && Nat.beq z.length es && Nat.ble 1 es with
  | false => none
  | true => match x, y with
    | .c (.ofNat n), .c (.ofNat m) => match Nat.beq n m && Nat.ble n 1000000 with
      | true => mkC next n es z
      | false => none
    | .s n, .s m => mkS next es n m z
    | _, _ => none
def sMake (P : Program) (t : TypeId) (next : Nat) : SC → SC → Option Eff
  | .int _ x, .int _ y => match telem P t with
    | none => none
    | some e => match tsize P e, tbytes P e, tzero P e with
      | some es, some by', some z => sMake2 next x y es by' z
      | _, _, _ => none
  | _, _ => none
def retV (next : Nat) (v : SV) : Option Eff := some ⟨v, [], next, [], []⟩
def retO (next : Nat) (r : Option (SC × List Bool)) : Option Eff :=
  match r with
  | some (c, ob) => some ⟨.c c, [], next, [], ob⟩
  | none => none
def newE (next : Nat) (v : SC) (l : List SC) : Option Eff := some ⟨.c v, [(next, some ⟨true, true, .cells l⟩)], next + 1, [], []⟩
def oPick (next : Nat) (c : SC) (a b : Option SV) : Option Eff :=
  match c with
  | .bool .t => bindO a (retV next)
  | .bool .f => bindO b (retV next)
  | .bool (.s d) => bindO a fun x => bindO b fun y => retV next (mergeV d x y)
  | _ => none
def oAlloc (next : Nat) (z : Option (List SC)) (n : Option Nat) : Option Eff :=
  bindO z fun z => bindO n fun n => match Nat.beq z.length n with
    | true => newE next (.ptr next 0) z
    | false => none
def oBuild (P : Program) (gt : Nat → SV) (next : Nat) (z : List SC) (d : Option TypeDesc) (parts : List (Nat × Operand)) : Option Eff :=
  match d with
  | some (.struct fs) => bindO (fs.toList.mapM (fun f => (P.info? f.type).map fun i => (f.offset, i.size))) fun pl => bindO (fillC (fun i => pl[i]?) gt z parts) fun l => retV next (.a l)
  | some (.array _ e) => bindO (tsize P e) fun s => bindO (fillC (fun i => some (i * s, s)) gt z parts) fun l => retV next (.a l)
  | _ => none
def oBuildSlice (P : Program) (gt : Nat → SV) (next : Nat) (e : TypeId) (len : Nat) (parts : List (Nat × Operand)) : Option Eff :=
  bindO (tsize P e) fun s => bindO (tzero P e) fun z => match Nat.ble (len * s) 16777216 && Nat.beq z.length s && Nat.ble 1 s with
    | true => bindO (fillC (fun i => some (i * s, s)) gt (repL z len) parts) fun l => newE next (.sl next 0 s (.c (.ofNat len)) true) l
    | false => none
def oLoad (P : Program) (gs : Nat → Option Seg) (next : Nat) (t : TypeId) (p : SC) : Option Eff :=
  bindO (ptrId p) fun i => bindO (gs i) fun g => bindO (tsize P t) fun n => bindO (tagg P t) fun ag => bindO (sLoad g.body p n) fun r =>
    bindO (ofCells ag r.1) fun v => some ⟨v, [], next, [i], r.2⟩
def oStore2 (next i n : Nat) (o : Bool) (b : SBody) (p : SC) (l : List SC) : Option Eff :=
  match Nat.beq l.length n with
  | true => bindO (sStore b p l) fun r => some ⟨.undef, [(i, some ⟨true, o, r.1⟩)], next, [i], r.2⟩
  | false => none
def oStore (P : Program) (gs : Nat → Option Seg) (next : Nat) (t : TypeId) (p : SC) (x : Option (List SC)) : Option Eff :=
  bindO (ptrId p) fun i => bindO (gs i) fun g => bindO (tsize P t) fun n => bindO x fun l => match g.rw with
    | true => oStore2 next i n g.own g.body p l
    | false => none
/-- What a row holds, where it is told of from outside. -/
def rowIs (row : Int → List SC) (idx : Int) (l : List SC) : Bool := @decide (row idx = l) (Classical.propDecidable _)
def rowsOf : SBody → Option (Nat × Int × (Int → List SC))
  | .rows st n row => some (st, n, row)
  | .cells _ => none
/-- A load of a row, whose cells a hint tells. -/
def oLoadH (P : Program) (gs : Nat → Option Seg) (next : Nat) (t : TypeId) (hint : Option (List SC)) (p : SC) : Option Eff :=
  match hint with
  | none => oLoad P gs next t p
  | some l => match p with
    | .ptrr id 0 st idx => bindO (gs id) fun g => bindO (tsize P t) fun n => bindO (tagg P t) fun ag => bindO (rowsOf g.body) fun b => match Nat.beq b.1 st && (Nat.beq st n && Nat.beq l.length n) with
      | true => bindO (ofCells ag l) fun v => some ⟨v, [], next, [id], [decide (0 ≤ idx ∧ idx < b.2.1), rowIs b.2.2 idx l]⟩
      | false => none
    | _ => none
/-- A store of a whole row: told as a case apart. -/
def oStoreH (P : Program) (gs : Nat → Option Seg) (next : Nat) (t : TypeId) (hint : Option (List SC)) (p : SC) (x : Option (List SC)) : Option Eff :=
  match hint with
  | none => oStore P gs next t p x
  | some _ => match p with
    | .ptrr id 0 st idx => bindO (gs id) fun g => bindO (tsize P t) fun n => bindO x fun l => match g.rw with
      | true => bindO (rowsOf g.body) fun b => match Nat.beq b.1 st && (Nat.beq st n && Nat.beq l.length n) with
        | true => some ⟨.undef, [(id, some ⟨true, g.own, .rows b.1 b.2.1 (fun j => bif decide (j = idx) then l else b.2.2 j)⟩)], next, [id], [decide (0 ≤ idx ∧ idx < b.2.1)]⟩
        | false => none
      | false => none
    | _ => none
/-- The hint for the place that stands in a temporary: kept among the contracts, under a number of its own. -/
def hkey (cx : Cx) (x : Operand) : Option (List SC) :=
  match x with
  | .tmp k => bindO (cx.orc (1000000 + k)) fun S => bindO (S 0 [] []) fun e => match e.ret with
    | .a l => some l
    | _ => none
  | _ => none
def hntS (l : List SC) : CS := fun _ _ _ => some ⟨.a l, [], 0, [false]⟩
def oNil (next : Nat) (p : SC) : Option Eff := bindO (ptrId p) fun _ => retV next (.c p)
def oUn (O : FOps) (next : Nat) (op : UnOp) (a : SC) : Option Eff := bindO (sUn O op a) fun r => retV next (.c r)
def oConv (P : Program) (O : FOps) (next : Nat) (s d : TypeId) (a : SC) : Option Eff :=
  bindO (P.underlying s) fun _ => bindO (P.underlying d) fun u => retO next (sConv O u a)
/-- The string of some bytes. -/
def bytesL (l : List Int) : ByteArray := l.foldl (fun r n => r.push (UInt8.ofNat n.toNat)) ByteArray.empty
def u8s : List SC → Option (List Int)
  | [] => some []
  | .int .u8 n :: l => match u8s l with
    | some r => some (n.val :: r)
    | none => none
  | _ :: _ => none
/-- 'string(x)' of known many bytes. -/
def oBytes (P : Program) (gs : Nat → Option Seg) (next : Nat) (s d : TypeId) (i o es n : Nat) : Option Eff :=
  match P.underlying s, P.underlying d with
  | some (.slice e), some .string => match P.underlying e with
    | some (.int .u8) => match Nat.ble 1 n with
      | true => bindO (gs i) fun g => bindO (sLoad g.body (.ptr i o) n) fun r => bindO (u8s r.1) fun l => some ⟨.c (.str (bytesL l)), [], next, [i], r.2⟩
      | false => none
    | _ => none
  | _, _ => none
def oConvB (P : Program) (O : FOps) (gs : Nat → Option Seg) (next : Nat) (s d : TypeId) (a : SC) : Option Eff :=
  match a with
  | .sl i o es (.c (.ofNat n)) _ => oBytes P gs next s d i o es n
  | a => oConv P O next s d a
def addOff (o : Nat) : SC → Option SC
  | .ptr i o' => some (.ptr i (o' + o))
  | .ptrx i o' st cnt idx => some (.ptrx i (o' + o) st cnt idx)
  | .ptrr i o' st idx => some (.ptrr i (o' + o) st idx)
  | _ => none
def oFieldAddr (P : Program) (next : Nat) (d : Option TypeDesc) (p : SC) (f : Nat) : Option Eff :=
  match d with
  | some (.struct fs) => bindO (fieldPl P fs f) fun r => match r.2 with
    | _ + 1 => bindO (addOff r.1 p) fun c => retV next (.c c)
    | 0 => none
  | _ => none
def oField (P : Program) (next : Nat) (d : Option TypeDesc) (x : SV) (f : Nat) : Option Eff :=
  match d with
  | some (.struct fs) => match x with
    | .a l => bindO fs[f]? fun g => bindO (tsize P g.type) fun n => bindO (tagg P g.type) fun ag => bindO (part l g.offset n) fun r => bindO (ofCells ag r) (retV next)
    | _ => none
  | _ => none
def oIndexAddr2 (P : Program) (gs : Nat → Option Seg) (next : Nat) (e : TypeId) (p : SC) (n : SI) : Option Eff :=
  match p with
  | .sl id o es m _ => bindO (tsize P e) fun es' => bindO (sIndexS P id o es es' m (gs id) n) fun r => some ⟨.c r.1, [], next, [id], r.2⟩
  | _ => none
def oIndexAddr (P : Program) (gs : Nat → Option Seg) (next : Nat) (d : Option TypeDesc) (p i : SC) : Option Eff :=
  match i with
  | .int _ n => match d with
    | some (.array len e) => match Nat.ble 2 len with
      | true => bindO (tsize P e) fun es => retO next (sIndex len es p n)
      | false => none
    | some (.slice e) => oIndexAddr2 P gs next e p n
    | _ => none
  | _ => none
def oIndex2 (next : Nat) (l : List SC) (n : SI) (len es : Nat) (ag : Bool) : Option Eff :=
  match n with
  | .c (.ofNat m) => match Nat.ble (m + 1) len with
    | true => bindO (part l (m * es) es) fun r => bindO (ofCells ag r) (retV next)
    | false => none
  | .s m => bindO (selRow l 0 es es m len 0) fun r => bindO (ofCells ag r) fun v => some ⟨v, [], next, [], [decide (0 ≤ m ∧ m < len)]⟩
  | _ => none
/-- A byte of a string. -/
def byteAt (s : ByteArray) (j : Int) : Int := ((s.data.toList.getD j.toNat 0).toNat : Nat)
def oIndexStr (next : Nat) (d : Option TypeDesc) (s : ByteArray) (n : SI) : Option Eff :=
  match d with
  | some .string => some ⟨.c (.int .u8 (.s (byteAt s n.val))), [], next, [], [decide (0 ≤ n.val ∧ n.val < (s.size : Int))]⟩
  | _ => none
def oIndex (P : Program) (next : Nat) (d : Option TypeDesc) (x : SV) (i : SC) : Option Eff :=
  match i with
  | .int _ n => match x with
    | .a l => match d with
      | some (.array len e) => bindO (tsize P e) fun es => bindO (tagg P e) fun ag => oIndex2 next l n len es ag
      | _ => none
    | .c (.str s) => oIndexStr next d s n
    | _ => none
  | _ => none
def oExtract (next : Nat) (x : SV) (i : Nat) : Option Eff :=
  match x with
  | .tup l => match l[i]? with
    | some (.c c) => retV next (.c c)
    | some (.a m) => retV next (.a m)
    | none => none
  | _ => none
def oLen (P : Program) (gt : Nat → SV) (next : Nat) (args : List Operand) (ts : List TypeId) : Option Eff :=
  match args, ts with
  | [x], t :: _ => bindC (ev gt x) fun a => bindO (sLen P t a) fun r => retV next (.c r)
  | _, _ => none
def oAppend (P : Program) (gt : Nat → SV) (gs : Nat → Option Seg) (next : Nat) (args : List Operand) (ts : List TypeId) : Option Eff :=
  match args, ts with
  | [x, y], t :: t' :: _ => bindO (telem P t') fun _ => bindC (ev gt x) fun a => bindC (ev gt y) fun b => sAppend P t gs next a b
  | _, _ => none
/-- What a call writes is new or was handed to it. -/
def wsOk1 (next hi : Nat) (rd : List (Nat × Seg)) (i : Nat) (v : Option Seg) : Bool :=
  match findS i rd with
  | some g => match v with
    | some g' => !g'.rw || g.rw
    | none => true
  | none => Nat.ble next i && Nat.ble (i + 1) hi && (match v with
    | some g' => g'.rw
    | none => true)
def wsOk (next hi : Nat) (rd : List (Nat × Seg)) (l : List (Nat × Option Seg)) : Bool :=
  List.rec (motive := fun _ => Bool) true (fun p _ ih => Bool.rec false ih (wsOk1 next hi rd p.1 p.2)) l
def oFn (gs : Nat → Option Seg) (next : Nat) (S : CS) (vs : List SV) (rd : List (Nat × Seg)) : Option Eff :=
  bindO (S next vs rd) fun e => Bool.rec none (some ⟨e.ret, e.ws, e.next, reachI gs vs, e.obs⟩) (wsOk next e.next rd e.ws && Nat.ble 1 next && Nat.ble next e.next)
def oCall (cx : Cx) (gt : Nat → SV) (gs : Nat → Option Seg) (next : Nat) (c : Call) : Option Eff :=
  match c.callee with
  | .builtin b => match b with
    | .len => oLen cx.P gt next c.args.toList c.argTypes.toList
    | .append => oAppend cx.P gt gs next c.args.toList c.argTypes.toList
    | _ => none
  | .value x => match x with
    | .func f => bindO (cx.orc f) fun S => bindO (evs gt c.args.toList) fun vs => oFn gs next S vs (reach gs vs)
    | _ => none
  | _ => none
def siOf (gt : Nat → SV) : Option Operand → Option SI
  | none => none
  | some x => match evC gt x with
    | some (.int _ n) => some n
    | _ => none
/-- 'x[lo:]' or 'x[:hi]' of a slice whose length is not known. -/
def oSliceS (P : Program) (gt : Nat → SV) (next : Nat) (t : TypeId) (i o es : Nat) (n : Int) (f : Bool) (lo hi : Option Operand) : Option Eff :=
  match P.underlying t with
  | some (.slice e) => bindO (tsize P e) fun es' => match Nat.beq es es' with
    | true => match hi with
      | some _ => match lo with
        | none => match siOf gt hi with
          | some (.s m) => some ⟨.c (.sl i o es (.s m) f), [], next, [], [decide (0 ≤ m ∧ m ≤ n)]⟩
          | _ => none
        | some _ => none
      | none => match siOf gt lo with
        | some (.s l) => match Nat.beq o 0 with
          | true => some ⟨.c (.slr i es l (n - l)), [], next, [], [decide (0 ≤ l ∧ l ≤ n)]⟩
          | false => none
        | _ => bindO (natOf gt lo 0) fun l => some ⟨.c (.sl i (o + l * es) es (.s (n - (l : Int))) f), [], next, [], [decide ((l : Int) ≤ n)]⟩
    | false => none
  | _ => none
/-- 'x[:]' of an array in a row that is only read: a view of it. -/
def oSliceV (P : Program) (gs : Nat → Option Seg) (next : Nat) (t : TypeId) (i o st : Nat) (idx : Int) (lo hi : Option Operand) : Option Eff :=
  match lo, hi with
  | none, none => match P.underlying t with
    | some (.array n e) => bindO (tsize P e) fun es => bindO (gs i) fun g => match g.rw with
      | true => none
      | false => bindO (sLoad g.body (.ptrr i o st idx) (n * es)) fun r => match Nat.ble 1 (n * es) with
        | true => some ⟨.c (.sl next 0 es (.c (.ofNat n)) false), [(next, some ⟨false, false, .cells r.1⟩)], next + 1, [i], r.2⟩
        | false => none
    | _ => none
  | _, _ => none
def oSlice (P : Program) (gt : Nat → SV) (gs : Nat → Option Seg) (next : Nat) (t : TypeId) (a : SC) (lo hi mx : Option Operand) : Option Eff :=
  match mx with
  | some _ => none
  | none => match a with
    | .sl i o es (.s n) f => oSliceS P gt next t i o es n f lo hi
    | .ptrr i o st idx => oSliceV P gs next t i o st idx lo hi
    | a => bindO (sSlice P t gt a lo hi) fun r => retV next (.c r)

def sop (cx : Cx) (gt : Nat → SV) (gs : Nat → Option Seg) (next : Nat) (o : Op) : Option Eff :=
  Op.rec (motive := fun _ => Cx → (Nat → SV) → (Nat → Option Seg) → Nat → Option Eff)
    (move := fun x _ gt _ next => bindO (ev gt x) (retV next))
    (assign := fun x _ gt _ next => bindO (ev gt x) (retV next))
    (pick := fun c a b _ gt _ next => bindC (ev gt c) fun c => oPick next c (ev gt a) (ev gt b))
    (alloc := fun e cx _ _ next => oAlloc next (tzero cx.P e) (tsize cx.P e))
    (box := fun _ x _ gt _ next => bindO (evL gt x) fun l => newE next (.ptr next 0) l)
    (build := fun t parts cx gt _ next => bindO (tzero cx.P t) fun z => oBuild cx.P gt next z (cx.P.underlying t) parts.toList)
    (buildSlice := fun t len parts cx gt _ next => bindO (telem cx.P t) fun e => oBuildSlice cx.P gt next e len parts.toList)
    (insert := fun _ _ _ _ _ _ _ _ => none)
    (load := fun t a cx gt gs next => bindC (ev gt a) fun p => oLoadH cx.P gs next t (hkey cx a) p)
    (store := fun t a x cx gt gs next => bindC (ev gt a) fun p => oStoreH cx.P gs next t (hkey cx a) p (evL gt x))
    (ready := fun _ _ _ _ _ => none)
    (waits := fun _ _ _ _ _ => none)
    (nilCheck := fun x _ gt _ next => bindC (ev gt x) fun p => oNil next p)
    (binOp := fun op t x y _ cx gt _ next => bindC (ev gt x) fun a => bindC (ev gt y) fun b => retO next (sBin cx.O (tbool cx.P t) op a b))
    (unOp := fun op _ x cx gt _ next => bindC (ev gt x) fun a => oUn cx.O next op a)
    (convert := fun s d x cx gt gs next => bindC (ev gt x) fun a => oConvB cx.P cx.O gs next s d a)
    (sliceToArrayPointer := fun _ _ _ _ _ _ => none)
    (makeInterface := fun _ _ _ _ _ _ => none)
    (makeFunc := fun _ _ _ _ _ _ _ => none)
    (makeMap := fun _ _ _ _ _ _ => none)
    (makeChan := fun _ _ _ _ _ _ => none)
    (makeSlice := fun t l c cx gt _ next => bindC (ev gt l) fun a => bindC (ev gt c) fun b => sMake cx.P t next a b)
    (slice := fun t x lo hi mx cx gt gs next => bindC (ev gt x) fun a => oSlice cx.P gt gs next t a lo hi mx)
    (fieldAddr := fun s x f cx gt _ next => bindC (ev gt x) fun p => oFieldAddr cx.P next (cx.P.underlying s) p f)
    (field := fun s x f cx gt _ next => bindO (ev gt x) fun v => oField cx.P next (cx.P.underlying s) v f)
    (indexAddr := fun t x i cx gt gs next => bindC (ev gt x) fun p => bindC (ev gt i) fun n => oIndexAddr cx.P gs next (cx.P.underlying t) p n)
    (index := fun t x i cx gt _ next => bindO (ev gt x) fun v => bindC (ev gt i) fun n => oIndex cx.P next (cx.P.underlying t) v n)
    (lookup := fun _ _ _ _ _ _ _ _ => none)
    (mapUpdate := fun _ _ _ _ _ _ _ _ => none)
    (mapEntry := fun _ _ _ _ _ _ _ => none)
    (entryStore := fun _ _ _ _ _ _ _ _ => none)
    (range := fun _ _ _ _ _ _ => none)
    (next := fun _ _ _ _ _ _ => none)
    (entry := fun _ _ _ _ _ => none)
    (typeAssert := fun _ _ _ _ _ _ _ _ => none)
    (extract := fun x i _ gt _ next => bindO (ev gt x) fun v => oExtract next v i)
    (call := fun c cx gt gs next => oCall cx gt gs next c)
    (go := fun _ _ _ _ _ => none)
    (defer := fun _ _ _ _ _ => none)
    (panic := fun _ _ _ _ _ => none)
    (send := fun _ _ _ _ _ _ => none)
    (recv := fun _ _ _ _ _ _ _ => none)
    (select := fun _ _ _ _ _ _ => none) o cx gt gs next

/-! ### a region -/
def tmpsOf : List Operand → List Nat → List Nat
  | [], acc => acc
  | .tmp t :: l, acc => t :: tmpsOf l acc
  | _ :: l, acc => tmpsOf l acc
def looksN (ops : List Oper) (o : Oper) : List Nat :=
  tmpsOf o.op.operands.toList (match o.guard with
    | some (g, _) => match ops[g]? with
      | some q => match q.dst with
        | some d => [d]
        | none => []
      | none => []
    | none => [])
def meets (l m : List Nat) : Bool :=
  List.rec (motive := fun _ => Bool) false (fun x _ ih => Bool.rec ih true (memN x m)) l
/-- The set of the operations that come before, as bits. -/
def ancE : List Edge → List Nat → Nat → Nat
  | [], _, acc => acc
  | e :: l, as, acc => match e.ground with
    | .gcOnly _ => ancE l as acc
    | .textOnly _ => ancE l as acc
    | _ => ancE l as (Nat.lor (Nat.lor acc (2 ^ e.on)) (as.getD e.on 0))
def ancs : List Oper → List Nat → List Nat
  | [], as => as
  | o :: l, as => ancs l (as ++ [ancE o.after.toList as 0])
def isGuard (i : Nat) : List Oper → Bool
  | [] => false
  | o :: l => match o.guard with
    | some (g, _) => match Nat.beq g i with
      | true => true
      | false => isGuard i l
    | none => isGuard i l
/-- Two operations, neither of which waits for the other: they do not meet in a temporary. -/
def apartT (ops : List Oper) (x y : Oper) : Bool :=
  (match x.dst with
   | some d => !memN d (looksN ops y) && (match y.dst with
     | some e => !Nat.beq d e
     | none => true)
   | none => true) &&
  (match y.dst with
   | some d => !memN d (looksN ops x)
   | none => true)
def okPairs (ops : List Oper) (x : Oper) (i : Nat) : List Oper → List Nat → Bool
  | o :: l, a :: as => (Nat.testBit a i || apartT ops x o) && okPairs ops x i l as
  | [], _ => true
  | _ :: _, [] => false
def okAll (ops : List Oper) : Nat → List Oper → List Nat → Bool
  | i, o :: l, _ :: as => okPairs ops o i l as && okAll ops (i + 1) l as
  | _, [], _ => true
  | _, _ :: _, [] => false
def edgesOk : Nat → List Oper → Bool
  | _, [] => true
  | i, o :: l => (o.after.toList.all fun e => match e.ground with
      | .gcOnly _ => true
      | .textOnly _ => true
      | _ => Nat.ble (e.on + 1) i) && edgesOk (i + 1) l
/-- What can be asked of a region that draws its order before it is run. -/
def static (ops : List Oper) : Bool := edgesOk 0 ops && okAll ops 0 ops (ancs ops [])
/-- Two operations, neither of which waits for the other: they do not meet in memory. -/
def apartS (x y : Eff) : Bool :=
  match x.ws, y.ws with
  | [], [] => true
  | _, _ => !meets (fstsN x.ws) y.rd && !meets (fstsN x.ws) (fstsN y.ws) && !meets x.rd (fstsN y.ws)
def okPairsE (x : Eff) (i : Nat) (l : List Eff) : List Nat → Bool :=
  List.rec (motive := fun _ => List Nat → Bool) (fun _ => true)
    (fun o _ ih as => List.rec (motive := fun _ => Bool) false (fun a as' _ => Bool.rec (Bool.rec false (ih as') (Nat.testBit a i)) (ih as') (apartS x o)) as) l
def okAllE (l : List Eff) : Nat → List Nat → Bool :=
  List.rec (motive := fun _ => Nat → List Nat → Bool) (fun _ _ => true)
    (fun o l ih i as => List.rec (motive := fun _ => Bool) false (fun _ as' _ => Bool.rec false (ih (i + 1) as') (okPairsE o i l as')) as) l

def wantedS (ops : List Oper) (gt : Nat → SV) (o : Oper) : Option Bool :=
  match o.guard with
  | none => some true
  | some (j, want) => match ops[j]? with
    | some q => match q.dst with
      | some d => match gt d with
        | .undef => some false
        | .c (.bool .t) => some want
        | .c (.bool .f) => some (!want)
        | _ => none
      | none => none
    | none => none
def applyE (T : Top) (dst : Option Tmp) (e : Eff) : Top :=
  ⟨(Top.setSs (Option.rec (motive := fun _ => Top) T (fun d => T.setT d e.val) dst) e.ws).ly, e.next⟩
def applyK {β : Type} (T : Top) (dst : Option Tmp) (e : Eff) (f : Top → β) : β :=
  Option.rec (motive := fun _ => (Top → β) → β) (fun k => k T) (fun d k => T.setTK d e.val k) dst fun T1 => T1.setSsK e.ws fun T2 => f ⟨T2.ly, e.next⟩
/-- A store at a known place: where, and what. -/
def hintOf (gt : Nat → SV) (o : Op) : Option (Nat × Nat × List SC) :=
  match o with
  | .store _ a x => match evC gt a with
    | some (.ptr i o) => match evL gt x with
      | some l => some (i, o, l)
      | none => none
    | _ => none
  | _ => none
def applyH (T : Top) (dst : Option Tmp) (e : Eff) (h : Option (Nat × Nat × List SC)) : Top :=
  match h with
  | none => applyE T dst e
  | some (i, o, l) => ⟨(Top.setD (Option.rec (motive := fun _ => Top) T (fun d => T.setT d e.val) dst) i (putD o l (T.ly.s.get i))).ly, e.next⟩
def applyHK {β : Type} (T : Top) (dst : Option Tmp) (e : Eff) (h : Option (Nat × Nat × List SC)) (f : Top → β) : β :=
  match h with
  | none => applyK T dst e f
  | some (i, o, l) => Option.rec (motive := fun _ => (Top → β) → β) (fun k => k T) (fun d k => T.setTK d e.val k) dst fun T1 => T1.setDK i (putD o l (T.ly.s.get i)) fun T2 => f ⟨T2.ly, e.next⟩
def dstOk (N : Nat) : Option Tmp → Bool
  | some d => Nat.ble (d + 1) N
  | none => true
def revE (l : List Eff) : List Eff → List Eff :=
  List.rec (motive := fun _ => List Eff → List Eff) (fun acc => acc) (fun x _ ih acc => ih (x :: acc)) l
def forkOf (g : Bool) (v : SV) : Option Bool :=
  match g with
  | false => none
  | true => match v with
    | .c (.bool (.s b)) => some b
    | _ => none

/-- The operations of a region, in the text's order; where a guard is not decided both ways are gone. 'acc': what the operations before have done, the last first. -/
def srgEnd (draw : Bool) (ops : List Oper) (T : Top) (acc : List Eff) : Option (Top × List Bool) :=
  match draw with
  | false => some (T, [])
  | true => match okAllE (revE acc []) 0 (ancs ops []) with
    | true => some (T, [])
    | false => none
def addObs (l : List Bool) (r : Option (Top × List Bool)) : Option (Top × List Bool) :=
  match r with
  | some (T2, ob) => some (T2, l ++ ob)
  | none => none
def forkEnd (b : Bool) (R : List Ly) (T : Top) (obs : List Bool) (r1 r2 : Option (Top × List Bool)) : Option (Top × List Bool) :=
  match r1, r2 with
  | some (V1, ob1), some (V2, ob2) => some (commit T (mergeTop b (T.ly :: R) V1 V2), obs ++ (ob1.map (!b || ·)) ++ (ob2.map (b || ·)))
  | _, _ => none
def withVal (e : Eff) (v : SV) : Eff := ⟨v, e.ws, e.next, e.rd, e.obs⟩
def srgOp (ih : List Ly → Nat → Top → List Eff → Option (Top × List Bool)) (g : Bool) (dst : Option Tmp) (R : List Ly) (i : Nat) (T : Top) (acc : List Eff) (hint : Option (Nat × Nat × List SC)) (e : Eff) : Option (Top × List Bool) :=
  match forkOf g e.val with
  | none => applyHK T dst e hint fun T' => addObs e.obs (ih R (i + 1) T' (e :: acc))
  | some b => forkEnd b R T e.obs
    (applyK (Top.empty T.next) dst (withVal e (.c (.bool .t))) fun T' => ih (T.ly :: R) (i + 1) T' (withVal e (.c (.bool .t)) :: acc))
    (applyK (Top.empty T.next) dst (withVal e (.c (.bool .f))) fun T' => ih (T.ly :: R) (i + 1) T' (withVal e (.c (.bool .f)) :: acc))
def srg1 (cx : Cx) (N : Nat) (ops rest : List Oper) (o : Oper) (ih : List Ly → Nat → Top → List Eff → Option (Top × List Bool)) (R : List Ly) (i : Nat) (T : Top) (acc : List Eff) : Option (Top × List Bool) :=
  match dstOk N o.dst with
  | false => none
  | true => match wantedS ops (getT (T.ly :: R)) o with
    | none => none
    | some false => applyK T o.dst ⟨.undef, [], T.next, [], []⟩ fun T' => ih R (i + 1) T' (⟨.undef, [], T.next, [], []⟩ :: acc)
    | some true => bindO (sop cx (getT (T.ly :: R)) (getS (T.ly :: R)) T.next o.op) (srgOp ih (isGuard i rest) o.dst R i T acc (hintOf (getT (T.ly :: R)) o.op))
/-- The operations of a region, in the text's order; where a guard is not decided both ways are gone. 'acc': what the operations before have done, the last first. -/
def srg (cx : Cx) (N : Nat) (draw : Bool) (ops : List Oper) (l : List Oper) : List Ly → Nat → Top → List Eff → Option (Top × List Bool) :=
  List.rec (motive := fun _ => List Ly → Nat → Top → List Eff → Option (Top × List Bool))
    (fun _ _ T acc => srgEnd draw ops T acc)
    (fun o rest ih R i T acc => srg1 cx N ops rest o ih R i T acc) l

/-! ### code -/
inductive XK where
  | ret
  | exit (id : Nat)
structure Outs where
  abr : List (SB × XK × Top)
  nrm : Option Top
  obs : List Bool
def orAny : List (SB × XK × Top) → Bool → Bool
  | [], b => b
  | (c, _, _) :: l, b => c.val || orAny l b
def guardObs (l : List (SB × XK × Top)) (obs : List Bool) : List Bool :=
  match l with
  | [] => obs
  | _ => obs.map (orAny l ·)
def seqO (oa : Outs) (ob : Outs) : Outs := ⟨oa.abr ++ ob.abr, ob.nrm, oa.obs ++ guardObs oa.abr ob.obs⟩
def lift (T : Top) (b : SB) : List (SB × XK × Top) → List (SB × XK × Top)
  | [] => []
  | (c, k, o) :: l => (b.and c, k, commit T o) :: lift T b l
def mergeN (b : Bool) (R : List Ly) (T : Top) : Option Top → Option Top → Option Top
  | some o1, some o2 => some (commit T (mergeTop b (T.ly :: R) o1 o2))
  | some o, none => some (commit T o)
  | none, some o => some (commit T o)
  | none, none => none
def andNot (c : SB) : List (SB × XK × Top) → List (SB × XK × Top)
  | [] => []
  | (d, k, T) :: l => (c.not.and d, k, T) :: andNot c l
def isX (id : Nat) : XK → Bool
  | .exit j => Nat.beq j id
  | .ret => false
/-- The exits to block 'id' join the normal way. -/
def joinX (R : List Ly) (id : Nat) : List (SB × XK × Top) → Option Top → List (SB × XK × Top) × Option Top
  | [], n => ([], n)
  | (c, k, T) :: l, n => match joinX R id l n with
    | (l', n') => match isX id k with
      | true => match n' with
        | none => match c with
          | .t => ([], some T)
          | _ => (andNot c l', some T)
        | some T' => match c with
          | .t => ([], some T)
          | .f => (l', some T')
          | .s b => (andNot c l', some (mergeTop b R T T'))
      | false => ((c, k, T) :: l', n')
def commitAll (T : Top) : List (SB × XK × Top) → List (SB × XK × Top)
  | [] => []
  | (c, k, o) :: l => (c, k, commit T o) :: commitAll T l
def commitO (T : Top) : Option Top → Option Top
  | none => none
  | some o => some (commit T o)
def iter (body : List Ly → Top → Option Outs) (R : List Ly) (n : Nat) : Top → Option Outs :=
  Nat.rec (motive := fun _ => Top → Option Outs) (fun _ => none)
    (fun _ ih T => match body R T with
      | none => none
      | some oa => match oa.nrm with
        | none => some oa
        | some T1 => match ih T1 with
          | some ob => some (seqO oa ob)
          | none => none) n
def regId : Code → Nat
  | .region i _ _ => i
  | .seq a _ => regId a
  | .block _ b => regId b
  | .loop b => regId b
  | _ => 0
/-- What is told of a function's own text: tests that are assumed, loops that are known. -/
structure Hn where
  tests : Nat → Option Bool
  loops : Nat → Option (List Ly → Top → Option Outs)
def sCond (h : Hn) (T : Top) (R : List Ly) (c : Operand) (x y : List Ly → Top → Option Outs) : Option Outs :=
  match evC (getT (T.ly :: R)) c with
  | some (.bool .t) => x R T
  | some (.bool .f) => y R T
  | some (.bool (.s b)) => match (match c with
      | .tmp t => h.tests t
      | _ => none) with
    | some true => match x R T with
      | some o => some ⟨o.abr, o.nrm, b :: o.obs⟩
      | none => none
    | some false => match y R T with
      | some o => some ⟨o.abr, o.nrm, (!b) :: o.obs⟩
      | none => none
    | none => match x (T.ly :: R) (Top.empty T.next), y (T.ly :: R) (Top.empty T.next) with
      | some ox, some oy => some ⟨lift T (.s b) ox.abr ++ lift T (.s (!b)) oy.abr, mergeN b R T ox.nrm oy.nrm, ox.obs.map (!b || ·) ++ oy.obs.map (b || ·)⟩
      | _, _ => none
  | _ => none
def sSeq (R : List Ly) (T : Top) (a b : List Ly → Top → Option Outs) : Option Outs :=
  match a R T with
  | none => none
  | some oa => match oa.nrm with
    | none => some oa
    | some T1 => match b R T1 with
      | some ob => some (seqO oa ob)
      | none => none
def sBlock (id : Nat) (R : List Ly) (T : Top) (body : List Ly → Top → Option Outs) : Option Outs :=
  match body (T.ly :: R) (Top.empty T.next) with
  | none => none
  | some ob => match joinX (T.ly :: R) id ob.abr ob.nrm with
    | (l, n) => some ⟨commitAll T l, commitO T n, ob.obs⟩
def sReg (cx : Cx) (N : Nat) (ops : Array Oper) (draw : Bool) (R : List Ly) (T : Top) : Option Outs :=
  match (match draw with
    | true => static ops.toList
    | false => true) with
  | false => none
  | true => match srg cx N draw ops.toList ops.toList R 0 T [] with
    | some (T', ob) => some ⟨[], some T', ob⟩
    | none => none
def sLoop (h : Hn) (id : Nat) (body : List Ly → Top → Option Outs) (R : List Ly) (T : Top) : Option Outs :=
  match h.loops id with
  | some L => L R T
  | none => iter body R 60 T
def sx (cx : Cx) (N : Nat) (h : Hn) (c : Code) : List Ly → Top → Option Outs :=
  Code.rec (motive := fun _ => List Ly → Top → Option Outs)
    (skip := fun _ T => some ⟨[], some T, []⟩)
    (region := fun _ ops draw R T => sReg cx N ops draw R T)
    (seq := fun _ _ ia ib R T => sSeq R T ia ib)
    (cond := fun c _ _ ix iy R T => sCond h T R c ix iy)
    (block := fun id _ ib R T => sBlock id R T ib)
    (loop := fun b ib R T => sLoop h (regId b) ib R T)
    (rangeFunc := fun _ _ _ _ _ _ _ _ => none)
    (exit := fun id _ T => some ⟨[(.t, .exit id, T)], none, []⟩)
    (scope := fun _ ib R T => ib R T)
    (label := fun _ _ _ => none)
    (goto := fun _ _ _ => none)
    (ret := fun _ T => some ⟨[(.t, .ret, T)], none, []⟩)
    (refuse := fun _ _ _ => none) c

/-! ### a function -/
def argsT (l : List SV) : Nat → Top → Top :=
  List.rec (motive := fun _ => Nat → Top → Top) (fun _ T => T) (fun v _ ih i T => ih (i + 1) (T.setT i v)) l
def rdT (l : List (Nat × Seg)) (T : Top) : Top :=
  List.rec (motive := fun _ => Top) T (fun p _ ih => ih.setS p.1 (some p.2)) l
def sRes1 (P : Program) (l : List Ly) : ResultVar → Option (SV × List Bool)
  | .tmp t => some (getT l t, [])
  | .cell a t => match getT l a with
    | .c p => match ptrId p with
      | some i => match getS l i with
        | some g => match tsize P t, tagg P t with
          | some n, some ag => match sLoad g.body p n with
            | some (cs, ob) => match ofCells ag cs with
              | some v => some (v, ob)
              | none => none
            | none => none
          | _, _ => none
        | none => none
      | none => none
    | _ => none
def sResE (P : Program) (l : List Ly) : List ResultVar → Option (List SE × List Bool)
  | [] => some ([], [])
  | r :: rs => match sRes1 P l r with
    | some (.c x, ob) => match sResE P l rs with
      | some (es, ob') => some (.c x :: es, ob ++ ob')
      | none => none
    | some (.a m, ob) => match sResE P l rs with
      | some (es, ob') => some (.a m :: es, ob ++ ob')
      | none => none
    | _ => none
def sRes (P : Program) (l : List Ly) : List ResultVar → Option (SV × List Bool)
  | [] => some (.undef, [])
  | [r] => sRes1 P l r
  | rs => match sResE P l rs with
    | some (es, ob) => some (.tup es, ob)
    | none => none
/-- One way out of a function: its result, its segments. -/
structure FOut where
  c : SB
  v : SV
  ly : Ly
  next : Nat
  obs : List Bool
def fOuts (P : Program) (rs : List ResultVar) (R : List Ly) : List (SB × XK × Top) → Option (List FOut)
  | [] => some []
  | (c, .ret, T) :: l => match sRes P (T.ly :: R) rs with
    | some (v, ob) => match fOuts P rs R l with
      | some r => some (⟨c, v, T.ly, T.next, ob⟩ :: r)
      | none => none
    | none => none
  | (_, .exit _, _) :: _ => none
def keepIds (rd : List (Nat × Seg)) (l : List Ly) (v : SV) : List Nat :=
  let one := idsV v (fstsN rd)
  idsSegs (grab (getS l) one []) one
/-- Those that 'y' tells of. -/
def touched (y : Ly) : List Nat → List Nat
  | [] => []
  | i :: r => match y.s.get i with
    | some _ => i :: touched y r
    | none => touched y r
def wsOf (l : List Ly) : List Nat → List (Nat × Option Seg)
  | [] => []
  | i :: r => (i, getS l i) :: wsOf l r
def mergeWs (b : Bool) (R : List Ly) (y : Ly) (m : List (Nat × Option Seg)) : List Nat → List (Nat × Option Seg)
  | [] => []
  | i :: r => (i, mergeSeg b (getS (y :: R) i) (match hasId i m with
      | true => (match m.find? (fun p => Nat.beq p.1 i) with
        | some p => p.2
        | none => none)
      | false => getS R i)) :: mergeWs b R y m r
/-- All ways out become one. -/
def joinF (rd : List (Nat × Seg)) (R : List Ly) : List FOut → Option CEff
  | [] => none
  | [o] => some ⟨o.v, wsOf (o.ly :: R) (touched o.ly (keepIds rd (o.ly :: R) o.v)), o.next, o.obs⟩
  | o :: l => match joinF rd R l with
    | some e => match o.c with
      | .t => some ⟨o.v, wsOf (o.ly :: R) (touched o.ly (keepIds rd (o.ly :: R) o.v)), o.next, o.obs⟩
      | .f => some e
      | .s b => some ⟨mergeV b o.v e.ret, mergeWs b R o.ly e.ws (touched o.ly (keepIds rd (o.ly :: R) o.v) ++ fstsN e.ws), max o.next e.next, o.obs.map (!b || ·) ++ e.obs.map (b || ·)⟩
    | none => none
/-- The call of a function whose text is 'fn', run through. -/
def inl (cx : Cx) (fn : Func) (h : Hn) : CS := fun base args rd =>
  match fn.body with
  | none => none
  | some code =>
    let R := [(rdT rd (argsT args 0 (Top.empty base))).ly]
    match Nat.ble args.length fn.ntmps with
    | false => none
    | true => match sx cx fn.ntmps h code R (Top.empty base) with
    | none => none
    | some o => match fOuts cx.P fn.results.toList R (match o.nrm with
        | some T => o.abr ++ [(.t, .ret, T)]
        | none => o.abr) with
      | none => none
      | some fs => match joinF rd R fs with
        | some e => some ⟨e.ret, e.ws, e.next, o.obs ++ e.obs⟩
        | none => none

end
end Go.Proofs.Ytaoeigofmfpamaa
end

/- What the executor's values say of the model's values, what its memory says of a world. Nothing is assumed. -/
section
namespace Go.Proofs.Ytaoeigofmfpamaa
open Go

theorem beqN {a b : Nat} : Nat.beq a b = true ↔ a = b := ⟨Nat.eq_of_beq_eq_true, fun h => by subst h; exact Nat.beq_refl a⟩

/-! ### values -/
/-- The place of each segment: its block, where it begins, how many cells it may take. -/
abbrev EM := Nat → Option (Nat × Nat × Nat)
def FR (k : FloatKind) (x : Nat) (v : Value) : Prop := ∃ r, v = .float k r ∧ r < 2 ^ k.format.width ∧ can k r = x
def RelC (E : EM) : SC → Value → Prop
  | .any, v => v.oneCell' = true
  | .bool b, v => v = .bool b.val
  | .int k n, v => v = .int k n.val
  | .flt k x, v => FR k x v
  | .str s, v => v = .string s
  | .nilp, v => v = .pointer none
  | .ptr id off, v => ∃ b o z, E id = some (b, o, z) ∧ v = .pointer (some ⟨b, o + off, none⟩)
  | .ptrx id off st cnt idx, v => ∃ b o z, E id = some (b, o, z) ∧ ∃ i : Nat, idx = i ∧ i < cnt ∧ v = .pointer (some ⟨b, o + off + i * st, none⟩)
  | .ptrr id off st idx, v => ∃ b o z, E id = some (b, o, z) ∧ ∃ i : Nat, idx = i ∧ v = .pointer (some ⟨b, o + off + i * st, none⟩)
  | .sl id off es len full, v => ∃ base n cap, v = .slice base n cap ∧ len.val = (n : Nat) ∧ n ≤ cap ∧ (base = none → cap = 0) ∧
      ∀ a, base = some a → id ≠ 0 ∧ ∃ b o z, E id = some (b, o, z) ∧ (cap ≠ 0 → a = ⟨b, o + off, none⟩) ∧ (full = true → off + cap * es = z)
  | .slr id es idx len, v => ∃ base n cap, v = .slice base n cap ∧ len = (n : Nat) ∧ n ≤ cap ∧ (base = none → cap = 0) ∧ ∃ i : Nat, idx = i ∧ ∀ a, base = some a → ∃ b o z, E id = some (b, o, z) ∧ (cap ≠ 0 → a = ⟨b, o + i * es, none⟩)
def RelL (E : EM) : List SC → List Value → Prop
  | [], [] => True
  | x :: l, v :: m => RelC E x v ∧ RelL E l m
  | _, _ => False
def RelE (E : EM) : SE → Value → Prop
  | .c x, v => RelC E x v
  | .a l, v => ∃ vs : Array Value, v = .agg vs ∧ RelL E l vs.toList
def RelEs (E : EM) : List SE → List Value → Prop
  | [], [] => True
  | x :: l, v :: m => RelE E x v ∧ RelEs E l m
  | _, _ => False
def RelV (E : EM) : SV → Value → Prop
  | .any, _ => True
  | .undef, v => v = undef
  | .c x, v => RelC E x v
  | .a l, v => ∃ vs : Array Value, v = .agg vs ∧ RelL E l vs.toList
  | .tup l, v => ∃ vs : Array Value, v = .tuple vs ∧ RelEs E l vs.toList
def RelVs (E : EM) : List SV → List Value → Prop
  | [], [] => True
  | x :: l, v :: m => RelV E x v ∧ RelVs E l m
  | _, _ => False

def Ext (E E' : EM) : Prop := ∀ i x, E i = some x → E' i = some x
theorem Ext.refl (E : EM) : Ext E E := fun _ _ h => h
theorem Ext.trans {E E' E'' : EM} (h : Ext E E') (h' : Ext E' E'') : Ext E E'' := fun i x e => h' i x (h i x e)

theorem RelC.mono {E E' : EM} (h : Ext E E') : ∀ {x : SC} {v : Value}, RelC E x v → RelC E' x v
  | .any, _, r => r
  | .bool _, _, r => r
  | .int _ _, _, r => r
  | .flt _ _, _, r => r
  | .str _, _, r => r
  | .nilp, _, r => r
  | .ptr _ _, _, ⟨b, o, z, e, r⟩ => ⟨b, o, z, h _ _ e, r⟩
  | .ptrx _ _ _ _ _, _, ⟨b, o, z, e, r⟩ => ⟨b, o, z, h _ _ e, r⟩
  | .ptrr _ _ _ _, _, ⟨b, o, z, e, r⟩ => ⟨b, o, z, h _ _ e, r⟩
  | .sl _ _ _ _ _, _, ⟨base, n, cap, hv, hn, hc, h0, h1⟩ => ⟨base, n, cap, hv, hn, hc, h0, fun a ha => let ⟨g, b, o, z, e, r⟩ := h1 a ha; ⟨g, b, o, z, h _ _ e, r⟩⟩
  | .slr _ _ _ _, _, ⟨base, n, cap, hv, hn, hc, h0, i, hi, h1⟩ => ⟨base, n, cap, hv, hn, hc, h0, i, hi, fun a ha => let ⟨b, o, z, e, r⟩ := h1 a ha; ⟨b, o, z, h _ _ e, r⟩⟩
theorem RelL.mono {E E' : EM} (h : Ext E E') : ∀ {l : List SC} {m : List Value}, RelL E l m → RelL E' l m
  | [], [], _ => trivial
  | _ :: _, _ :: _, r => ⟨r.1.mono h, RelL.mono h r.2⟩
  | [], _ :: _, r => r
  | _ :: _, [], r => r
theorem RelE.mono {E E' : EM} (h : Ext E E') : ∀ {x : SE} {v : Value}, RelE E x v → RelE E' x v
  | .c _, _, r => RelC.mono h r
  | .a _, _, ⟨vs, hv, r⟩ => ⟨vs, hv, r.mono h⟩
theorem RelEs.mono {E E' : EM} (h : Ext E E') : ∀ {l : List SE} {m : List Value}, RelEs E l m → RelEs E' l m
  | [], [], _ => trivial
  | _ :: _, _ :: _, r => ⟨r.1.mono h, RelEs.mono h r.2⟩
  | [], _ :: _, r => r
  | _ :: _, [], r => r
theorem RelV.mono {E E' : EM} (h : Ext E E') : ∀ {x : SV} {v : Value}, RelV E x v → RelV E' x v
  | .any, _, _ => trivial
  | .undef, _, r => r
  | .c _, _, r => RelC.mono h r
  | .a _, _, ⟨vs, hv, r⟩ => ⟨vs, hv, r.mono h⟩
  | .tup _, _, ⟨vs, hv, r⟩ => ⟨vs, hv, r.mono h⟩
theorem RelVs.mono {E E' : EM} (h : Ext E E') : ∀ {l : List SV} {m : List Value}, RelVs E l m → RelVs E' l m
  | [], [], _ => trivial
  | _ :: _, _ :: _, r => ⟨r.1.mono h, RelVs.mono h r.2⟩
  | [], _ :: _, r => r
  | _ :: _, [], r => r

theorem RelC.one {E : EM} : ∀ {x : SC} {v : Value}, RelC E x v → v.oneCell' = true
  | .any, _, r => r
  | .bool _, _, r => by cases r; rfl
  | .int _ _, _, r => by cases r; rfl
  | .flt _ _, _, ⟨_, r, _⟩ => by cases r; rfl
  | .str _, _, r => by cases r; rfl
  | .nilp, _, r => by cases r; rfl
  | .ptr _ _, _, ⟨_, _, _, _, r⟩ => by cases r; rfl
  | .ptrx _ _ _ _ _, _, ⟨_, _, _, _, _, _, _, r⟩ => by cases r; rfl
  | .ptrr _ _ _ _, _, ⟨_, _, _, _, _, _, r⟩ => by cases r; rfl
  | .sl _ _ _ _ _, _, ⟨_, _, _, r, _⟩ => by cases r; rfl
  | .slr _ _ _ _, _, ⟨_, _, _, r, _⟩ => by cases r; rfl
theorem cells_of_one {v : Value} (h : v.oneCell' = true) : v.cells = #[v] := by
  cases v <;> first | rfl | (simp [Value.oneCell'] at h)
theorem RelL.len {E : EM} : ∀ {l : List SC} {m : List Value}, RelL E l m → l.length = m.length
  | [], [], _ => rfl
  | _ :: _, _ :: _, r => by simp [RelL.len r.2]
  | [], _ :: _, r => r.elim
  | _ :: _, [], r => r.elim
theorem RelL.get {E : EM} : ∀ {l : List SC} {m : List Value}, RelL E l m → ∀ k (h : k < l.length), ∃ v, m[k]? = some v ∧ RelC E (l[k]'h) v
  | [], _, _, k, h => by simp at h
  | x :: l, [], r, _, _ => r.elim
  | x :: l, v :: m, r, 0, _ => ⟨v, rfl, r.1⟩
  | x :: l, v :: m, r, k + 1, h => by
    obtain ⟨u, h1, h2⟩ := RelL.get r.2 k (by simpa using h)
    exact ⟨u, by simpa using h1, by simpa using h2⟩
theorem RelL.of_get {E : EM} : ∀ {l : List SC} {m : List Value}, l.length = m.length → (∀ k (h : k < l.length), ∃ v, m[k]? = some v ∧ RelC E (l[k]'h) v) → RelL E l m
  | [], [], _, _ => trivial
  | [], _ :: _, h, _ => by simp at h
  | _ :: _, [], h, _ => by simp at h
  | x :: l, v :: m, h, r => by
    refine ⟨?_, RelL.of_get (by simpa using h) fun k hk => ?_⟩
    · obtain ⟨u, h1, h2⟩ := r 0 (by simp)
      simp only [List.getElem?_cons_zero, Option.some.injEq] at h1
      subst h1; exact h2
    · obtain ⟨u, h1, h2⟩ := r (k + 1) (by simpa using hk)
      exact ⟨u, by simpa using h1, by simpa using h2⟩
theorem RelL.append {E : EM} : ∀ {l l' : List SC} {m m' : List Value}, RelL E l m → RelL E l' m' → RelL E (l ++ l') (m ++ m')
  | [], _, [], _, _, h => h
  | [], _, _ :: _, _, r, _ => r.elim
  | _ :: _, _, [], _, r, _ => r.elim
  | _ :: _, _, _ :: _, _, r, h => ⟨r.1, RelL.append r.2 h⟩
theorem RelL.one {E : EM} : ∀ {l : List SC} {m : List Value}, RelL E l m → ∀ v ∈ m, v.oneCell' = true
  | [], [], _, v, h => by simp at h
  | [], _ :: _, r, _, _ => r.elim
  | _ :: _, [], r, _, _ => r.elim
  | _ :: _, u :: m, r, v, h => by
    rcases List.mem_cons.1 h with h | h
    · subst h; exact r.1.one
    · exact RelL.one r.2 v h

/-! ### merges -/
theorem mergeSB_val (b : Bool) (x y : SB) : (mergeSB b x y).val = bif b then x.val else y.val := by
  cases x <;> cases y <;> cases b <;> rfl
theorem mergeSI_val (b : Bool) (x y : SI) : (mergeSI b x y).val = bif b then x.val else y.val := by
  cases x <;> cases y <;> try rfl
  rename_i m n
  simp only [mergeSI]
  by_cases h : m = n
  · subst h; simp [SI.val]
  · simp [h, SI.val]
theorem RelC.any_of {E : EM} {x : SC} {v : Value} (h : RelC E x v) : RelC E .any v := h.one
theorem RelC.mergeL' {E : EM} {b : Bool} {x y : SC} {v : Value} (hx : b = true → RelC E x v) (hy : b = false → RelC E y v) : RelC E (mergeC b x y) v := by
  cases b
  all_goals
    first | (replace hx := hx rfl; clear hy) | (replace hy := hy rfl; clear hx)
    cases x <;> cases y <;> simp only [mergeC] <;> first | (exact hx.any_of) | (exact hy.any_of) | skip
    all_goals first | (simp only [RelC, mergeSB_val, cond_true, cond_false] at *; assumption) | skip
    all_goals split <;> first | (exact hx.any_of) | (exact hy.any_of) | skip
    all_goals first
      | (rename_i hk
         simp only [decide_eq_true_eq] at hk
         subst hk; simp only [RelC, mergeSI_val, cond_true, cond_false] at *; assumption)
      | (rename_i hk
         simp only [Bool.and_eq_true, beqN] at hk
         obtain ⟨rfl, rfl⟩ := hk; simp only [RelC, mergeSI_val, cond_true, cond_false] at *; assumption)
      | (rename_i hk
         simp only [Bool.and_eq_true, beqN] at hk
         obtain ⟨⟨rfl, rfl⟩, rfl⟩ := hk
         simp only [RelC, mergeSI_val, cond_true, cond_false, Bool.and_eq_true] at *
         first
           | (obtain ⟨base, n, cap, h1, h2, h3, h4, h5⟩ := hx
              exact ⟨base, n, cap, h1, h2, h3, h4, fun a ha => let ⟨g, b, o, z, e1, e2, e3⟩ := h5 a ha; ⟨g, b, o, z, e1, e2, fun hf => e3 hf.1⟩⟩)
           | (obtain ⟨base, n, cap, h1, h2, h3, h4, h5⟩ := hy
              exact ⟨base, n, cap, h1, h2, h3, h4, fun a ha => let ⟨g, b, o, z, e1, e2, e3⟩ := h5 a ha; ⟨g, b, o, z, e1, e2, fun hf => e3 hf.2⟩⟩))
      | skip
    all_goals
      split
      · rename_i h0
        simp only [beqN] at h0
        subst h0
        simp only [RelC, mergeSI_val, cond_true, cond_false] at *
        first
          | (obtain ⟨base, n, cap, h1, h2, h3, h4, h5⟩ := hx
             exact ⟨base, n, cap, h1, h2, h3, h4, fun a ha => absurd rfl (h5 a ha).1⟩)
          | exact hy
      · split
        · rename_i h0
          simp only [beqN] at h0
          subst h0
          simp only [RelC, mergeSI_val, cond_true, cond_false] at *
          first
            | (obtain ⟨base, n, cap, h1, h2, h3, h4, h5⟩ := hy
               exact ⟨base, n, cap, h1, h2, h3, h4, fun a ha => absurd rfl (h5 a ha).1⟩)
            | exact hx
        · first | (exact hx.any_of) | (exact hy.any_of)
theorem mergeL_len {b : Bool} : ∀ {l m r : List SC}, mergeL b l m = some r → l.length = r.length ∧ m.length = r.length
  | [], [], r, h => by cases h; exact ⟨rfl, rfl⟩
  | [], _ :: _, r, h => by cases h
  | _ :: _, [], r, h => by cases h
  | x :: l, y :: m, r, h => by
    change (Option.rec none (fun r => some (mergeC b x y :: r)) (mergeL b l m) : Option (List SC)) = some r at h
    cases hm : mergeL b l m with
    | none => rw [hm] at h; cases h
    | some q => rw [hm] at h; cases h; have := mergeL_len hm; simp [this]
theorem RelL.merge {E : EM} {b : Bool} : ∀ {l m r : List SC} {vs : List Value}, mergeL b l m = some r → (b = true → RelL E l vs) → (b = false → RelL E m vs) → RelL E r vs
  | [], [], r, vs, h, hx, hy => by cases h; cases b <;> simp_all
  | [], _ :: _, r, vs, h, hx, hy => by cases h
  | _ :: _, [], r, vs, h, hx, hy => by cases h
  | x :: l, y :: m, r, vs, h, hx, hy => by
    change (Option.rec none (fun r => some (mergeC b x y :: r)) (mergeL b l m) : Option (List SC)) = some r at h
    cases hm : mergeL b l m with
    | none => rw [hm] at h; cases h
    | some q =>
      rw [hm] at h; cases h
      cases vs with
      | nil => cases b <;> simp_all [RelL]
      | cons v vs => exact ⟨RelC.mergeL' (fun hb => (hx hb).1) (fun hb => (hy hb).1), RelL.merge hm (fun hb => (hx hb).2) (fun hb => (hy hb).2)⟩
theorem RelE.merge {E : EM} {b : Bool} {x y z : SE} {v : Value} (h : mergeE b x y = some z) (hx : b = true → RelE E x v) (hy : b = false → RelE E y v) : RelE E z v := by
  cases x <;> cases y <;> simp only [mergeE] at h <;> try (cases h; done)
  · cases h; exact RelC.mergeL' hx hy
  · split at h
    · rename_i l m r hr; cases h
      cases b
      · obtain ⟨vs, h1, h2⟩ := hy rfl; exact ⟨vs, h1, RelL.merge hr (fun e => by cases e) (fun _ => h2)⟩
      · obtain ⟨vs, h1, h2⟩ := hx rfl; exact ⟨vs, h1, RelL.merge hr (fun _ => h2) (fun e => by cases e)⟩
    · cases h
theorem RelEs.merge {E : EM} {b : Bool} : ∀ {l m r : List SE} {vs : List Value}, mergeEs b l m = some r → (b = true → RelEs E l vs) → (b = false → RelEs E m vs) → RelEs E r vs
  | [], [], r, vs, h, hx, hy => by cases h; cases b <;> simp_all
  | [], _ :: _, r, vs, h, hx, hy => by cases h
  | _ :: _, [], r, vs, h, hx, hy => by cases h
  | x :: l, y :: m, r, vs, h, hx, hy => by
    simp only [mergeEs] at h
    split at h <;> try (cases h; done)
    split at h <;> try (cases h; done)
    rename_i z hz _ q hq
    cases h
    cases vs with
    | nil => cases b <;> simp_all [RelEs]
    | cons v vs => exact ⟨RelE.merge hz (fun hb => (hx hb).1) (fun hb => (hy hb).1), RelEs.merge hq (fun hb => (hx hb).2) (fun hb => (hy hb).2)⟩
theorem RelV.merge {E : EM} {b : Bool} {x y : SV} {v : Value} (hx : b = true → RelV E x v) (hy : b = false → RelV E y v) : RelV E (mergeV b x y) v := by
  cases x <;> cases y <;> simp only [mergeV] <;> try trivial
  · cases b
    · exact hy rfl
    · exact hx rfl
  · exact RelC.mergeL' hx hy
  · split
    · rename_i r hr
      cases b
      · obtain ⟨vs, h1, h2⟩ := hy rfl; exact ⟨vs, h1, RelL.merge hr (fun e => by cases e) (fun _ => h2)⟩
      · obtain ⟨vs, h1, h2⟩ := hx rfl; exact ⟨vs, h1, RelL.merge hr (fun _ => h2) (fun e => by cases e)⟩
    · trivial
  · split
    · rename_i r hr
      cases b
      · obtain ⟨vs, h1, h2⟩ := hy rfl; exact ⟨vs, h1, RelEs.merge hr (fun e => by cases e) (fun _ => h2)⟩
      · obtain ⟨vs, h1, h2⟩ := hx rfl; exact ⟨vs, h1, RelEs.merge hr (fun _ => h2) (fun e => by cases e)⟩
    · trivial

/-! ### the lists of cells -/
theorem RelL.take {E : EM} : ∀ {l : List SC} {n : Nat} {r : List SC} {vs : List Value}, takeL l n = some r → RelL E l vs → RelL E r (vs.take n) ∧ r.length = n
  | [], 0, r, vs, h, _ => by cases h; simp [RelL]
  | x :: l, 0, r, vs, h, _ => by cases h; simp [RelL]
  | [], _ + 1, r, vs, h, _ => by cases h
  | x :: l, n + 1, r, vs, h, hr => by
    change (Option.rec none (fun r => some (x :: r)) (takeL l n) : Option (List SC)) = some r at h
    cases hm : takeL l n with
    | none => rw [hm] at h; cases h
    | some q =>
      rw [hm] at h; cases h
      cases vs with
      | nil => exact hr.elim
      | cons v vs => have := RelL.take hm hr.2; exact ⟨⟨hr.1, this.1⟩, by simp [this.2]⟩
theorem RelL.drop {E : EM} : ∀ {l : List SC} {n : Nat} {vs : List Value}, RelL E l vs → RelL E (dropL l n) (vs.drop n)
  | [], n, [], _ => by cases n <;> simp [dropL, RelL]
  | [], _, _ :: _, h => h.elim
  | _ :: _, _, [], h => h.elim
  | x :: l, 0, v :: vs, h => h
  | x :: l, n + 1, v :: vs, h => RelL.drop (l := l) (n := n) (vs := vs) h.2
theorem RelL.part {E : EM} {l r : List SC} {o n : Nat} {vs : List Value} (h : part l o n = some r) (hr : RelL E l vs) : RelL E r ((vs.drop o).take n) ∧ r.length = n :=
  RelL.take h hr.drop
theorem dropL_len : ∀ (l : List SC) (n : Nat), (dropL l n).length = l.length - n
  | [], n => by cases n <;> simp [dropL]
  | _ :: _, 0 => rfl
  | x :: l, n + 1 => by
    change (dropL l n).length = _
    rw [dropL_len l n]; simp
theorem takeL_le : ∀ {l : List SC} {n : Nat} {r : List SC}, takeL l n = some r → n ≤ l.length
  | _, 0, _, _ => Nat.zero_le _
  | [], _ + 1, r, h => by cases h
  | x :: l, n + 1, r, h => by
    change (Option.rec none (fun r => some (x :: r)) (takeL l n) : Option (List SC)) = some r at h
    cases hm : takeL l n with
    | none => rw [hm] at h; cases h
    | some q => have := takeL_le hm; simpa using this
theorem part_le {l r : List SC} {o n : Nat} (h : part l o n = some r) : o + n ≤ l.length ∨ n = 0 := by
  have := takeL_le h
  rw [dropL_len] at this
  omega
/-- What 'splice' does to the values. -/
theorem RelL.splice {E : EM} : ∀ {l : List SC} {o : Nat} {new r : List SC} {vs us : List Value}, splice l o new = some r → RelL E l vs → RelL E new us → RelL E r (vs.take o ++ us ++ vs.drop (o + us.length)) ∧ r.length = l.length
  | [], o, [], r, vs, us, h, h1, h2 => by
    cases h; cases vs <;> cases us <;> simp_all [RelL]
  | [], o, _ :: _, r, vs, us, h, h1, h2 => by cases h
  | x :: l, o, [], r, vs, us, h, h1, h2 => by
    cases h; cases us with
    | nil => simpa using h1
    | cons _ _ => exact h2.elim
  | x :: l, 0, y :: new, r, vs, us, h, h1, h2 => by
    change (Option.rec none (fun r => some (y :: r)) (Proofs.Ytaoeigofmfpamaa.splice l 0 new) : Option (List SC)) = some r at h
    cases hm : Proofs.Ytaoeigofmfpamaa.splice l 0 new with
    | none => rw [hm] at h; cases h
    | some q =>
      rw [hm] at h; cases h
      cases vs with
      | nil => exact h1.elim
      | cons v vs => cases us with
        | nil => exact h2.elim
        | cons u us =>
          have := RelL.splice hm h1.2 h2.2
          simp only [List.take_zero, List.nil_append, Nat.zero_add] at this
          exact ⟨by simpa using ⟨h2.1, this.1⟩, by simp [this.2]⟩
  | x :: l, o + 1, y :: new, r, vs, us, h, h1, h2 => by
    change (Option.rec none (fun r => some (x :: r)) (Proofs.Ytaoeigofmfpamaa.splice l o (y :: new)) : Option (List SC)) = some r at h
    cases hm : Proofs.Ytaoeigofmfpamaa.splice l o (y :: new) with
    | none => rw [hm] at h; cases h
    | some q =>
      rw [hm] at h; cases h
      cases vs with
      | nil => exact h1.elim
      | cons v vs =>
        have := RelL.splice hm h1.2 h2
        refine ⟨?_, by simp [this.2]⟩
        rw [show o + 1 + us.length = (o + us.length) + 1 by omega]
        have e : RelL E q (vs.take o ++ us ++ vs.drop (o + us.length)) := this.1
        exact (⟨h1.1, e⟩ : RelL E (x :: q) (v :: (vs.take o ++ us ++ vs.drop (o + us.length))))
theorem splice_le : ∀ {l : List SC} {o : Nat} {new r : List SC}, splice l o new = some r → new = [] ∨ o + new.length ≤ l.length
  | _, _, [], _, _ => .inl rfl
  | [], _, _ :: _, r, h => by cases h
  | x :: l, 0, y :: new, r, h => by
    change (Option.rec none (fun r => some (y :: r)) (Proofs.Ytaoeigofmfpamaa.splice l 0 new) : Option (List SC)) = some r at h
    cases hm : Proofs.Ytaoeigofmfpamaa.splice l 0 new with
    | none => rw [hm] at h; cases h
    | some q =>
      rcases splice_le hm with h' | h'
      · subst h'; right; simp
      · right; simp at *; omega
  | x :: l, o + 1, y :: new, r, h => by
    change (Option.rec none (fun r => some (x :: r)) (Proofs.Ytaoeigofmfpamaa.splice l o (y :: new)) : Option (List SC)) = some r at h
    cases hm : Proofs.Ytaoeigofmfpamaa.splice l o (y :: new) with
    | none => rw [hm] at h; cases h
    | some q =>
      rcases splice_le hm with h' | h'
      · cases h'
      · right; simp at *; omega
theorem svOfC_ok {E : EM} {v : Value} {x : SC} (h : svOfC v = some x) : RelC E x v := by
  unfold svOfC at h
  split at h
  · cases h; rfl
  · cases h; rfl
  · cases h; rfl
  · rename_i k b
    split at h
    · cases h
    · rename_i hn; cases h
      simp only [Bool.or_eq_false_iff, Bool.not_eq_false', Nat.ble_eq] at hn
      exact ⟨b, rfl, by omega, by simp [can, hn.1]⟩
  · cases h; rfl
  · cases h; rfl
  · cases h; exact ⟨none, 0, 0, rfl, rfl, Nat.le_refl _, fun _ => rfl, fun a ha => by cases ha⟩
  · cases h

end Go.Proofs.Ytaoeigofmfpamaa
end

/- The executor's memory against a world's memory: making, reading, writing. Nothing is assumed. -/
section
namespace Go.Proofs.Ytaoeigofmfpamaa
open Go

def SBody.len : SBody → Nat
  | .cells l => l.length
  | .rows st n _ => st * n.toNat
def SBody.at : SBody → Nat → SC
  | .cells l, k => l.getD k .any
  | .rows st _ row, k => (row ((k / st : Nat) : Int)).getD (k % st) .any

structure SegAt (E : EM) (b o z : Nat) (g : Seg) (w : World) (cs : Array Value) (T : TypeId) (fr : Nat × Nat) : Prop where
  heap : w.heap[b]? = some (.cells cs T fr)
  le : g.body.len ≤ z
  fit : o + z ≤ cs.size
  own : g.own = true → o = 0 ∧ z = cs.size
  fz : g.rw = true → ∀ k, o ≤ k → k < o + z → ¬ (fr.1 ≤ k ∧ k < fr.2)
  cell : ∀ k, k < g.body.len → ∃ v, cs[o + k]? = some v ∧ RelC E (g.body.at k) v

/-- Whether bytes that a string shares are kept apart ('strings.Join' shares bytes of its own). -/
def NF : Prop := True
structure Fr (w w' : World) (T : Nat → Nat → Prop) : Prop where
  os : w'.os = w.os
  out : w'.output = w.output
  size : w.heap.size ≤ w'.heap.size
  old : ∀ b, b < w.heap.size →
    (∃ cs t fr cs', w.heap[b]? = some (.cells cs t fr) ∧ w'.heap[b]? = some (.cells cs' t fr) ∧ cs'.size = cs.size ∧ ∀ j, ¬ T b j → cs'[j]? = cs[j]?) ∨ w'.heap[b]? = w.heap[b]?
  frz : NF → ∀ b o, w.heap.size ≤ b → w'.frozen? ⟨b, o, none⟩ = false

theorem Fr.refl (w : World) (T : Nat → Nat → Prop) : Fr w w T :=
  ⟨rfl, rfl, Nat.le_refl _, fun _ _ => .inr rfl, fun _ b o h => by simp [World.frozen?, Array.getElem?_eq_none h]⟩

/-- A table of the library's that calls lean on: its block, and what it holds (only where 'strconv.FormatInt' is). -/
def TabB : Option Nat := none
def tabCells : Array Value := ((List.range 20).map fun i => Value.int .u64 ((10 ^ i : Nat) : Int)).toArray
def IsTab (b : Nat) : Prop := TabB = some b
def Tab (w : World) : Prop := ∀ b, IsTab b → ∃ T fr, w.heap[b]? = some (.cells tabCells T fr)
theorem Fr.tabs {w w' : World} {T : Nat → Nat → Prop} (h : Fr w w' T) (ht : Tab w) (ha : ∀ b k, IsTab b → ¬ T b k) : Tab w' := fun b hb => by
  obtain ⟨t, fr, e⟩ := ht b hb
  have hlt : b < w.heap.size := by
    rcases Nat.lt_or_ge b w.heap.size with h' | h'
    · exact h'
    · rw [Array.getElem?_eq_none h'] at e; cases e
  rcases h.old b hlt with ⟨cs, t', fr', cs', e1, e2, e3, e4⟩ | e1
  · rw [e] at e1; cases e1
    refine ⟨t, fr, ?_⟩
    rw [e2]
    have : cs' = tabCells := Array.ext (by omega) fun i h1 h2 => by
      have := e4 i (ha b i hb)
      rw [Array.getElem?_eq_getElem h1, Array.getElem?_eq_getElem h2] at this
      exact Option.some.inj this
    rw [this]
  · exact ⟨t, fr, e1.trans e⟩
theorem tab_none (w : World) : Tab w := fun b hb => by cases hb
structure MemRel (w0 : World) (T0 : Nat → Nat → Prop) (E : EM) (sg : Nat → Option Seg) (w : World) : Prop where
  segs : ∀ i g, sg i = some g → ∃ b o z cs T fr, E i = some (b, o, z) ∧ SegAt E b o z g w cs T fr
  disj : ∀ i j g h b o z b' o' z', i ≠ j → sg i = some g → sg j = some h → (g.rw = true ∨ h.rw = true) → E i = some (b, o, z) → E j = some (b', o', z') → b ≠ b' ∨ o + z ≤ o' ∨ o' + z' ≤ o ∨ z = 0 ∨ z' = 0
  tch : ∀ i g b o z, sg i = some g → g.rw = true → E i = some (b, o, z) → w0.heap.size ≤ b ∨ ∀ k, o ≤ k → k < o + z → T0 b k
  fr : Fr w0 w T0
  tab : Tab w0 ∧ ∀ b k, IsTab b → ¬ T0 b k

theorem SegAt.congr {E : EM} {b o z : Nat} {g : Seg} {w w' : World} {cs : Array Value} {T : TypeId} {fr : Nat × Nat} (h : SegAt E b o z g w cs T fr) (hh : w'.heap = w.heap) : SegAt E b o z g w' cs T fr :=
  { h with heap := hh ▸ h.heap }
theorem frozen_congr {w w' : World} (hh : w'.heap = w.heap) (a : Addr) : w'.frozen? a = w.frozen? a := by unfold World.frozen?; rw [hh]
theorem MemRel.congr {w0 w w' : World} {T0 : Nat → Nat → Prop} {E : EM} {sg : Nat → Option Seg} (h : MemRel w0 T0 E sg w) (hh : w'.heap = w.heap) (ho : w'.os = w.os) (hp : w'.output = w.output) : MemRel w0 T0 E sg w' where
  segs i g hg := let ⟨b, o, z, cs, T, fr, e, s⟩ := h.segs i g hg; ⟨b, o, z, cs, T, fr, e, s.congr hh⟩
  disj := h.disj
  tch := h.tch
  fr := ⟨ho.trans h.fr.os, hp.trans h.fr.out, by rw [hh]; exact h.fr.size, by rw [hh]; exact h.fr.old, fun hn b o hb => by rw [frozen_congr hh]; exact h.fr.frz hn b o hb⟩
  tab := h.tab
theorem MemRel.sub {w0 w : World} {T0 : Nat → Nat → Prop} {E : EM} {sg sg' : Nat → Option Seg} (h : MemRel w0 T0 E sg w) (hs : ∀ i g, sg' i = some g → sg i = some g) : MemRel w0 T0 E sg' w where
  segs i g hg := h.segs i g (hs i g hg)
  disj i j g k b o z b' o' z' hij hg hk := h.disj i j g k b o z b' o' z' hij (hs _ _ hg) (hs _ _ hk)
  tch i g b o z hg := h.tch i g b o z (hs _ _ hg)
  fr := h.fr
  tab := h.tab

def upd {α : Type} (f : Nat → α) (i : Nat) (v : α) : Nat → α := fun j => if j = i then v else f j
theorem upd_same {α : Type} (f : Nat → α) (i : Nat) (v : α) : upd f i v i = v := by simp [upd]
theorem upd_other {α : Type} (f : Nat → α) {i j : Nat} (v : α) (h : j ≠ i) : upd f i v j = f j := by simp [upd, h]
theorem Ext.upd {E : EM} {i : Nat} (x : Nat × Nat × Nat) (h : E i = none) : Ext E (Proofs.Ytaoeigofmfpamaa.upd E i (some x)) := fun j y hj => by
  by_cases e : j = i
  · subst e; rw [h] at hj; cases hj
  · rw [upd_other _ _ e]; exact hj

theorem heap_push_old (w : World) (o : Obj) {b : Nat} (h : b < w.heap.size) : ({ w with heap := w.heap.push o } : World).heap[b]? = w.heap[b]? := by
  simp [Array.getElem?_push, Nat.ne_of_lt h]
theorem heap_push_new (w : World) (o : Obj) : ({ w with heap := w.heap.push o } : World).heap[w.heap.size]? = some o := by simp
theorem lt_of_heap {w : World} {b : Nat} {x : Obj} (h : w.heap[b]? = some x) : b < w.heap.size := by
  rcases Nat.lt_or_ge b w.heap.size with h' | h'
  · exact h'
  · rw [Array.getElem?_eq_none h'] at h; cases h
theorem Fr.push {w0 w : World} {T0 : Nat → Nat → Prop} (h : Fr w0 w T0) (cs : Array Value) (T : TypeId) : Fr w0 { w with heap := w.heap.push (.cells cs T) } T0 where
  os := h.os
  out := h.out
  size := by have := h.size; simp; omega
  old b hb := by rw [heap_push_old w _ (Nat.lt_of_lt_of_le hb h.size)]; exact h.old b hb
  frz hn b o hb := by
    by_cases e : b = w.heap.size
    · subst e; simp [World.frozen?]
    · have := h.frz hn b o hb
      unfold World.frozen? at *
      simp only [Array.getElem?_push, e, if_false]
      exact this

theorem SegAt.mono {E E' : EM} {b o z : Nat} {g : Seg} {w : World} {cs : Array Value} {T : TypeId} {fr : Nat × Nat} (h : SegAt E b o z g w cs T fr) (he : Ext E E') : SegAt E' b o z g w cs T fr :=
  { h with cell := fun k hk => let ⟨v, a, r⟩ := h.cell k hk; ⟨v, a, r.mono he⟩ }
theorem SegAt.push {E : EM} {b o z : Nat} {g : Seg} {w : World} {cs : Array Value} {T : TypeId} {fr : Nat × Nat} (h : SegAt E b o z g w cs T fr) (x : Obj) : SegAt E b o z g { w with heap := w.heap.push x } cs T fr :=
  { h with heap := by rw [heap_push_old w _ (lt_of_heap h.heap)]; exact h.heap }

/-- A new segment in a new block. -/
theorem MemRel.alloc {w0 w : World} {T0 : Nat → Nat → Prop} {E : EM} {sg : Nat → Option Seg} (h : MemRel w0 T0 E sg w) {i : Nat} (hi : E i = none) {body : SBody} {cs : Array Value} {T : TypeId}
    (hl : body.len ≤ cs.size) (hc : ∀ k, k < body.len → ∃ v, cs[k]? = some v ∧ RelC E (body.at k) v) :
    MemRel w0 T0 (upd E i (some (w.heap.size, 0, cs.size))) (upd sg i (some ⟨true, true, body⟩)) { w with heap := w.heap.push (.cells cs T) } := by
  have he : Ext E (upd E i (some (w.heap.size, 0, cs.size))) := Ext.upd _ hi
  have hlt : ∀ j g, sg j = some g → ∀ b o z, E j = some (b, o, z) → b < w.heap.size := fun j g hg b o z hb => by
    obtain ⟨b', o', z', cs', T', fr', e, s⟩ := h.segs j g hg
    rw [hb] at e; cases e; exact lt_of_heap s.heap
  refine ⟨fun j g hg => ?_, fun j k g g' b o z b' o' z' hjk hg hg' hrw hb hb' => ?_, fun j g b o z hg hrw hb => ?_, h.fr.push _ _, h.tab⟩
  · by_cases e : j = i
    · subst e
      rw [upd_same] at hg; cases hg
      exact ⟨_, _, _, cs, T, (0, 0), upd_same _ _ _, ⟨heap_push_new _ _, hl, by simp, fun _ => ⟨rfl, rfl⟩, fun _ k _ _ hk => by simp at hk, fun k hk => let ⟨v, a, r⟩ := hc k hk; ⟨v, by simpa using a, r.mono he⟩⟩⟩
    · rw [upd_other _ _ e] at hg
      obtain ⟨b, o, z, cs', T', fr', e', s⟩ := h.segs j g hg
      exact ⟨b, o, z, cs', T', fr', by rw [upd_other _ _ e]; exact e', (s.mono he).push _⟩
  · by_cases e : j = i
    · subst e
      rw [upd_same] at hb; cases hb
      rw [upd_other _ _ (Ne.symm hjk)] at hg' hb'
      exact .inl (Nat.ne_of_gt (hlt _ _ hg' _ _ _ hb'))
    · rw [upd_other _ _ e] at hg hb
      by_cases e' : k = i
      · subst e'
        rw [upd_same] at hb'; cases hb'
        exact .inl (Nat.ne_of_lt (hlt _ _ hg _ _ _ hb))
      · rw [upd_other _ _ e'] at hg' hb'
        exact h.disj j k g g' b o z b' o' z' hjk hg hg' hrw hb hb'
  · by_cases e : j = i
    · subst e
      rw [upd_same] at hb; cases hb
      exact .inl h.fr.size
    · rw [upd_other _ _ e] at hg hb
      exact h.tch j g b o z hg hrw hb

/-! ### writing -/
/-- 'w'' is 'w' but for the cells from 'o' on in block 'b', which are 'vs' now. -/
structure Put (w w' : World) (b o : Nat) (vs : List Value) (cs : Array Value) (T : TypeId) (fr : Nat × Nat) (cs' : Array Value) : Prop where
  os : w'.os = w.os
  out : w'.output = w.output
  size : w'.heap.size = w.heap.size
  other : ∀ b', b' ≠ b → w'.heap[b']? = w.heap[b']?
  heap : w.heap[b]? = some (.cells cs T fr)
  heap' : w'.heap[b]? = some (.cells cs' T fr)
  csize : cs'.size = cs.size
  at_ : ∀ k, cs'[k]? = if o ≤ k ∧ k < o + vs.length then vs[k - o]? else cs[k]?

theorem run_put (P : Program) (b o : Nat) (T : TypeId) (fr : Nat × Nat) : ∀ (vs : List Value) (i : Nat) (w : World) (cs : Array Value), w.heap[b]? = some (.cells cs T fr) → o + i + vs.length ≤ cs.size →
    (∀ k, o + i ≤ k → k < o + i + vs.length → ¬ (fr.1 ≤ k ∧ k < fr.2)) → (∀ v ∈ vs, v.oneCell' = true) →
    ∃ w' cs', (storeCells ⟨b, o, none⟩ vs i).run P w = .ok () w' ∧ Put w w' b (o + i) vs cs T fr cs'
  | [], i, w, cs, h, _, _, _ => ⟨w, cs, by simp [storeCells], ⟨rfl, rfl, rfl, fun _ _ => rfl, h, h, rfl, fun k => by simp; omega⟩⟩
  | v :: vs, i, w, cs, h, hs, hf, ho => by
    have hadd : (⟨b, o, none⟩ : Addr).add i = ⟨b, o + i, none⟩ := by unfold Addr.add; split <;> simp [*]
    have hc : w.cell? ⟨b, o + i, none⟩ = some (cs[o + i]'(by simp at hs; omega)) := by
      simp only [World.cell?, h]; simp at hs ⊢
    have hfz : w.frozen? ⟨b, o + i, none⟩ = false := by
      have := hf (o + i) (by omega) (by simp)
      simp only [World.frozen?, h]
      simpa using this
    have hst : (store (⟨b, o + i, none⟩ : Addr) v).run P w = .ok () (w.setCell ⟨b, o + i, none⟩ v) := by
      rw [run_store P w _ v .plain (ho v (by simp)), hc]; simp [hfz]
    have hh : (w.setCell ⟨b, o + i, none⟩ v).heap[b]? = some (.cells (cs.setIfInBounds (o + i) v) T fr) := by
      simp [World.setCell, Array.getElem?_modify, h]
    obtain ⟨w', cs', hrun, hp⟩ := run_put P b o T fr vs (i + 1) (w.setCell ⟨b, o + i, none⟩ v) (cs.setIfInBounds (o + i) v) hh (by simp at hs ⊢; omega)
      (fun k h1 h2 => hf k (by omega) (by simp; omega)) (fun u hu => ho u (by simp [hu]))
    refine ⟨w', cs', ?_, ⟨hp.os.trans rfl, hp.out.trans rfl, hp.size.trans (by simp), fun b' hb' => ?_, h, hp.heap', hp.csize.trans (by simp), fun k => ?_⟩⟩
    · simp only [storeCells, Sem.run_bind, hadd, hst, Result.andThen_ok]
      exact hrun
    · rw [hp.other b' hb']
      simp [World.setCell, Array.getElem?_modify, Ne.symm hb']
    · rw [hp.at_ k]
      by_cases h1 : o + (i + 1) ≤ k ∧ k < o + (i + 1) + vs.length
      · rw [if_pos h1, if_pos (by simp; omega), show k - (o + i) = (k - (o + (i + 1))) + 1 by omega]
        simp
      · rw [if_neg h1]
        by_cases h2 : k = o + i
        · subst h2
          have hlt : o + i < cs.size := by simp at hs; omega
          rw [if_pos (by simp)]
          simp [hlt]
        · rw [if_neg (by simp; omega)]
          simp [Array.getElem?_setIfInBounds, Ne.symm h2]

theorem Fr.put {w0 w w' : World} {T0 : Nat → Nat → Prop} {b o : Nat} {vs : List Value} {cs cs' : Array Value} {T : TypeId} {fr : Nat × Nat} (h : Fr w0 w T0) (p : Put w w' b o vs cs T fr cs')
    (ht : w0.heap.size ≤ b ∨ ∀ k, o ≤ k → k < o + vs.length → T0 b k) : Fr w0 w' T0 where
  os := p.os.trans h.os
  out := p.out.trans h.out
  size := by rw [p.size]; exact h.size
  old b' hb' := by
    by_cases e : b' = b
    · subst e
      have ht' := ht.resolve_left (by omega)
      have hk : ∀ k, ¬ T0 b' k → cs'[k]? = cs[k]? := fun k hk => by
        rw [p.at_ k, if_neg (fun ⟨h1, h2⟩ => hk (ht' k h1 h2))]
      rcases h.old b' hb' with ⟨c0, t, f, c1, e0, e1, hs, hj⟩ | e1
      · rw [p.heap] at e1; cases e1
        exact .inl ⟨c0, T, fr, cs', e0, p.heap', p.csize.trans hs, fun j hT => (hk j hT).trans (hj j hT)⟩
      · exact .inl ⟨cs, T, fr, cs', e1 ▸ p.heap, p.heap', p.csize, hk⟩
    · rw [p.other b' e]; exact h.old b' hb'
  frz hn b' o' hb' := by
    have := h.frz hn b' o' hb'
    by_cases e : b' = b
    · subst e
      simp only [World.frozen?, p.heap, p.heap'] at *
      exact this
    · simpa only [World.frozen?, p.other b' e] using this

/-- A segment is written: its body is another one of the same length. -/
theorem MemRel.put {w0 w w' : World} {T0 : Nat → Nat → Prop} {E : EM} {sg : Nat → Option Seg} (h : MemRel w0 T0 E sg w) {i : Nat} {g : Seg} (hg : sg i = some g) (hrw : g.rw = true) {b o z : Nat} (hE : E i = some (b, o, z))
    {p : Nat} {vs : List Value} {cs cs' : Array Value} {T : TypeId} {fr : Nat × Nat} (hp : Put w w' b p vs cs T fr cs') (hin : o ≤ p ∧ p + vs.length ≤ o + z) {body : SBody} (hl : body.len ≤ z)
    (hc : ∀ k, k < body.len → ∃ v, cs'[o + k]? = some v ∧ RelC E (body.at k) v) : MemRel w0 T0 E (upd sg i (some ⟨true, g.own, body⟩)) w' := by
  have hrange : ∀ j gj b' o' z', j ≠ i → sg j = some gj → E j = some (b', o', z') → b' = b → ∀ k, o' ≤ k → k < o' + z' → cs'[k]? = cs[k]? := by
    intro j gj b' o' z' hj hgj hb' hbb k h1 h2
    rw [hp.at_ k, if_neg]
    rintro ⟨h3, h4⟩
    rcases h.disj i j g gj b o z b' o' z' (Ne.symm hj) hg hgj (.inl hrw) hE hb' with d | d | d | d | d
    · exact d hbb.symm
    all_goals omega
  refine ⟨fun j gj hgj => ?_, fun j k gj gk b1 o1 z1 b2 o2 z2 hjk hgj hgk hr hb1 hb2 => ?_, fun j gj b1 o1 z1 hgj hr hb1 => ?_, h.fr.put hp ?_, h.tab⟩
  · by_cases e : j = i
    · subst e
      rw [upd_same] at hgj; cases hgj
      obtain ⟨b1, o1, z1, cs1, T1, fr1, e1, s⟩ := h.segs j g hg
      rw [hE] at e1; cases e1
      have := s.heap; rw [hp.heap] at this; cases this
      exact ⟨b, o, z, cs', T, fr, hE, ⟨hp.heap', hl, by rw [hp.csize]; exact s.fit, fun ho => by rw [hp.csize]; exact s.own ho, fun _ => s.fz hrw, hc⟩⟩
    · rw [upd_other _ _ e] at hgj
      obtain ⟨b1, o1, z1, cs1, T1, fr1, e1, s⟩ := h.segs j gj hgj
      by_cases eb : b1 = b
      · subst eb
        have := s.heap; rw [hp.heap] at this; cases this
        refine ⟨b1, o1, z1, cs', T, fr, e1, ⟨hp.heap', s.le, by rw [hp.csize]; exact s.fit, fun ho => by rw [hp.csize]; exact s.own ho, s.fz, fun k hk => ?_⟩⟩
        have hle := s.le
        rw [hrange j gj b1 o1 z1 e hgj e1 rfl (o1 + k) (by omega) (by omega)]
        exact s.cell k hk
      · exact ⟨b1, o1, z1, cs1, T1, fr1, e1, { s with heap := by rw [hp.other b1 eb]; exact s.heap }⟩
  · have hg1 : ∃ g1, sg j = some g1 ∧ g1.rw = gj.rw := by
      by_cases e : j = i
      · subst e; rw [upd_same] at hgj; cases hgj; exact ⟨g, hg, hrw⟩
      · rw [upd_other _ _ e] at hgj; exact ⟨gj, hgj, rfl⟩
    have hg2 : ∃ g2, sg k = some g2 ∧ g2.rw = gk.rw := by
      by_cases e : k = i
      · subst e; rw [upd_same] at hgk; cases hgk; exact ⟨g, hg, hrw⟩
      · rw [upd_other _ _ e] at hgk; exact ⟨gk, hgk, rfl⟩
    obtain ⟨g1, h1, r1⟩ := hg1
    obtain ⟨g2, h2, r2⟩ := hg2
    exact h.disj j k g1 g2 b1 o1 z1 b2 o2 z2 hjk h1 h2 (by rw [r1, r2]; exact hr) hb1 hb2
  · by_cases e : j = i
    · subst e; exact h.tch j g b1 o1 z1 hg hrw hb1
    · rw [upd_other _ _ e] at hgj; exact h.tch j gj b1 o1 z1 hgj hr hb1
  · rcases h.tch i g b o z hg hrw hE with h1 | h1
    · exact .inl h1
    · exact .inr fun k h2 h3 => h1 k (by omega) (by omega)

end Go.Proofs.Ytaoeigofmfpamaa
end

/- Loads and stores of the executor's memory. Nothing is assumed. -/
section
namespace Go.Proofs.Ytaoeigofmfpamaa
open Go

theorem getD_cons_zero (x : SC) (l : List SC) : (x :: l).getD 0 .any = x := rfl
theorem getD_cons_succ (x : SC) (l : List SC) (k : Nat) : (x :: l).getD (k + 1) .any = l.getD k .any := rfl
theorem splice_len : ∀ {l : List SC} {o : Nat} {new r : List SC}, splice l o new = some r → r.length = l.length
  | [], _, [], r, h => by cases h; rfl
  | _ :: _, _, [], r, h => by cases h; rfl
  | [], _, _ :: _, r, h => by cases h
  | x :: l, 0, y :: new, r, h => by
    change (Option.rec none (fun r => some (y :: r)) (splice l 0 new) : Option (List SC)) = some r at h
    cases hm : splice l 0 new with
    | none => rw [hm] at h; cases h
    | some q => rw [hm] at h; cases h; simp [splice_len hm]
  | x :: l, o + 1, y :: new, r, h => by
    change (Option.rec none (fun r => some (x :: r)) (splice l o (y :: new)) : Option (List SC)) = some r at h
    cases hm : splice l o (y :: new) with
    | none => rw [hm] at h; cases h
    | some q => rw [hm] at h; cases h; simp [splice_len hm]
theorem splice_get : ∀ {l : List SC} {o : Nat} {new r : List SC}, splice l o new = some r → ∀ m, r.getD m .any = if o ≤ m ∧ m < o + new.length then new.getD (m - o) .any else l.getD m .any
  | [], o, [], r, h, m => by cases h; rw [if_neg (by simp)]
  | x :: l, o, [], r, h, m => by cases h; rw [if_neg (by simp)]
  | [], _, _ :: _, r, h, _ => by cases h
  | x :: l, 0, y :: new, r, h, m => by
    change (Option.rec none (fun r => some (y :: r)) (splice l 0 new) : Option (List SC)) = some r at h
    cases hm : splice l 0 new with
    | none => rw [hm] at h; cases h
    | some q =>
      rw [hm] at h; cases h
      cases m with
      | zero => rw [if_pos (by simp)]; rfl
      | succ m =>
        have := splice_get hm m
        rw [getD_cons_succ, this]
        by_cases hc : m < new.length
        · rw [if_pos (by omega), if_pos (by simp; omega)]; simp
        · rw [if_neg (by omega), if_neg (by simp; omega)]; rfl
  | x :: l, o + 1, y :: new, r, h, m => by
    change (Option.rec none (fun r => some (x :: r)) (splice l o (y :: new)) : Option (List SC)) = some r at h
    cases hm : splice l o (y :: new) with
    | none => rw [hm] at h; cases h
    | some q =>
      rw [hm] at h; cases h
      cases m with
      | zero => rw [if_neg (by omega)]; rfl
      | succ m =>
        have := splice_get hm m
        rw [getD_cons_succ, this]
        by_cases hc : o ≤ m ∧ m < o + (y :: new).length
        · rw [if_pos hc, if_pos (by omega), show m + 1 - (o + 1) = m - o by omega]
        · rw [if_neg hc, if_neg (by omega)]; rfl
theorem takeL_get : ∀ {l : List SC} {n : Nat} {r : List SC}, takeL l n = some r → r.length = n ∧ ∀ m, m < n → r.getD m .any = l.getD m .any
  | [], 0, r, h => by cases h; exact ⟨rfl, fun m hm => by omega⟩
  | x :: l, 0, r, h => by cases h; exact ⟨rfl, fun m hm => by omega⟩
  | [], _ + 1, r, h => by cases h
  | x :: l, n + 1, r, h => by
    change (Option.rec none (fun r => some (x :: r)) (takeL l n) : Option (List SC)) = some r at h
    cases hm : takeL l n with
    | none => rw [hm] at h; cases h
    | some q =>
      rw [hm] at h; cases h
      have := takeL_get hm
      exact ⟨by simp [this.1], fun m hmn => by
        cases m with
        | zero => rfl
        | succ m => exact this.2 m (by omega)⟩
theorem dropL_get : ∀ (l : List SC) (n m : Nat), (dropL l n).getD m .any = l.getD (n + m) .any
  | [], n, m => by cases n <;> simp [dropL]
  | x :: l, 0, m => by show (x :: l).getD m .any = _; simp
  | x :: l, n + 1, m => by
    change (dropL l n).getD m .any = _
    rw [dropL_get l n m, show n + 1 + m = (n + m) + 1 by omega]; rfl
theorem part_get {l r : List SC} {o n : Nat} (h : part l o n = some r) : r.length = n ∧ ∀ m, m < n → r.getD m .any = l.getD (o + m) .any := by
  have := takeL_get h
  exact ⟨this.1, fun m hm => by rw [this.2 m hm, dropL_get]⟩
theorem mergeL_get {b : Bool} : ∀ {l m r : List SC}, mergeL b l m = some r → ∀ k, k < r.length → r.getD k .any = mergeC b (l.getD k .any) (m.getD k .any)
  | [], [], r, h, k, hk => by cases h; simp at hk
  | [], _ :: _, r, h, _, _ => by cases h
  | _ :: _, [], r, h, _, _ => by cases h
  | x :: l, y :: m, r, h, k, hk => by
    change (Option.rec none (fun r => some (mergeC b x y :: r)) (mergeL b l m) : Option (List SC)) = some r at h
    cases hm : mergeL b l m with
    | none => rw [hm] at h; cases h
    | some q =>
      rw [hm] at h; cases h
      cases k with
      | zero => rfl
      | succ k => exact mergeL_get hm k (by simpa using hk)
theorem getD_lt {l : List SC} {k : Nat} (h : k < l.length) : l.getD k .any = l[k] := by simp [List.getD, h]
theorem RelL.of_getD {E : EM} {l : List SC} {vs : List Value} (hl : l.length = vs.length) (h : ∀ k, k < l.length → ∃ v, vs[k]? = some v ∧ RelC E (l.getD k .any) v) : RelL E l vs :=
  RelL.of_get hl fun k hk => by obtain ⟨v, h1, h2⟩ := h k hk; rw [getD_lt hk] at h2; exact ⟨v, h1, h2⟩
theorem RelL.getD {E : EM} {l : List SC} {vs : List Value} (h : RelL E l vs) (k : Nat) (hk : k < l.length) : ∃ v, vs[k]? = some v ∧ RelC E (l.getD k .any) v := by
  rw [getD_lt hk]; exact h.get k hk

/-- Which cells of a segment's body a row that is chosen shows. -/
theorem selRow_get {l : List SC} {o st sz : Nat} {idx : Int} : ∀ {c j : Nat} {r : List SC}, selRow l o st sz idx c j = some r → ∀ {i : Nat}, idx = (i : Nat) → j ≤ i → i < j + c →
    r.length = sz ∧ ∀ (E : EM) m v, m < sz → RelC E (l.getD (o + i * st + m) .any) v → RelC E (r.getD m .any) v
  | 0, _, _, h, _, _, _, _ => by cases h
  | 1, j, r, h, i, hi, h1, h2 => by
    obtain rfl : i = j := by omega
    have := part_get (show part l (o + i * st) sz = some r from h)
    exact ⟨this.1, fun E m v hm hv => by rw [this.2 m hm]; exact hv⟩
  | c + 2, j, r, h, i, hi, h1, h2 => by
    simp only [selRow] at h
    split at h <;> try (cases h; done)
    rename_i p hp
    split at h <;> try (cases h; done)
    rename_i q hq
    have hpg := part_get hp
    have hl := mergeL_len h
    refine ⟨hl.1.symm.trans hpg.1, fun E m v hm hv => ?_⟩
    rw [mergeL_get h m (by omega)]
    by_cases e : i = j
    · subst e
      rw [show decide (idx = (i : Int)) = true by simp [hi]]
      exact RelC.mergeL' (fun _ => by rw [hpg.2 m hm]; exact hv) (fun e => by cases e)
    · rw [show decide (idx = (j : Int)) = false by simp [hi]; omega]
      have := selRow_get hq hi (by omega) (by omega)
      exact RelC.mergeL' (fun e => by cases e) (fun _ => this.2 E m v hm hv)

theorem body_vals {E : EM} {b o z : Nat} {g : Seg} {w : World} {cs : Array Value} {T : TypeId} {fr : Nat × Nat} (s : SegAt E b o z g w cs T fr) (k : Nat) (hk : k < g.body.len) :
    ∃ v, w.cell? ⟨b, o + k, none⟩ = some v ∧ RelC E (g.body.at k) v := by
  obtain ⟨v, h1, h2⟩ := s.cell k hk
  exact ⟨v, by simp [World.cell?, s.heap, h1], h2⟩
theorem part_len {l r : List SC} {o n : Nat} (h : part l o n = some r) (m : Nat) (hm : m < n) : o + m < l.length := by
  rcases part_le h with h' | h' <;> omega
theorem selRow_len {l : List SC} {o st sz : Nat} {idx : Int} : ∀ {c j : Nat} {r : List SC}, selRow l o st sz idx c j = some r → ∀ {i : Nat}, j ≤ i → i < j + c → ∀ m, m < sz → o + i * st + m < l.length
  | 0, _, _, h, _, _, _ => by cases h
  | 1, j, r, h, i, h1, h2 => by
    obtain rfl : i = j := by omega
    exact part_len (show part l (o + i * st) sz = some r from h)
  | c + 2, j, r, h, i, h1, h2 => by
    simp only [selRow] at h
    split at h <;> try (cases h; done)
    rename_i p hp
    split at h <;> try (cases h; done)
    rename_i q hq
    by_cases e : i = j
    · subst e; exact part_len hp
    · exact selRow_len hq (by omega) (by omega)
theorem rows_at {st : Nat} {n : Int} {row : Int → List SC} {i off m : Nat} (h : off + m < st) : (SBody.rows st n row).at (i * st + (off + m)) = (row (i : Int)).getD (off + m) .any := by
  have h0 : 0 < st := by omega
  simp only [SBody.at]
  rw [show (i * st + (off + m)) / st = i by rw [Nat.add_comm, Nat.add_mul_div_right _ _ h0, Nat.div_eq_of_lt h, Nat.zero_add],
    show (i * st + (off + m)) % st = off + m by rw [Nat.add_comm, Nat.add_mul_mod_self_right, Nat.mod_eq_of_lt h]]

def AllT (l : List Bool) : Prop := ∀ b ∈ l, b = true
theorem AllT.nil : AllT [] := fun _ h => by simp at h
theorem AllT.append {l m : List Bool} (h : AllT (l ++ m)) : AllT l ∧ AllT m := ⟨fun b hb => h b (by simp [hb]), fun b hb => h b (by simp [hb])⟩
theorem AllT.head {b : Bool} {l : List Bool} (h : AllT (b :: l)) : b = true := h b (by simp)
theorem AllT.tail {b : Bool} {l : List Bool} (h : AllT (b :: l)) : AllT l := fun c hc => h c (by simp [hc])

/-- What a load sees. -/
theorem sLoad_ok {w0 w : World} {T0 : Nat → Nat → Prop} {E : EM} {sg : Nat → Option Seg} (h : MemRel w0 T0 E sg w) {i : Nat} {g : Seg} (hg : sg i = some g) {p : SC} (hi : ptrId p = some i) {v : Value} (hv : RelC E p v)
    {sz : Nat} {r : List SC} {ob : List Bool} (hl : sLoad g.body p sz = some (r, ob)) (hob : AllT ob) :
    ∃ b o', v = .pointer (some ⟨b, o', none⟩) ∧ ∃ vs : List Value, vs.length = sz ∧ RelL E r vs ∧ ∀ j, j < sz → w.cell? ⟨b, o' + j, none⟩ = vs[j]? := by
  obtain ⟨b, o, z, cs, T, fr, hE, s⟩ := h.segs i g hg
  -- the common end
  have fin : ∀ (o' : Nat), r.length = sz → (∀ m, m < sz → ∃ u, w.cell? ⟨b, o' + m, none⟩ = some u ∧ RelC E (r.getD m .any) u) →
      ∃ vs : List Value, vs.length = sz ∧ RelL E r vs ∧ ∀ j, j < sz → w.cell? ⟨b, o' + j, none⟩ = vs[j]? := by
    intro o' hlen hall
    refine ⟨(List.range sz).map fun m => (w.cell? ⟨b, o' + m, none⟩).getD undef, by simp, RelL.of_getD (by simp [hlen]) fun k hk => ?_, fun j hj => ?_⟩
    · obtain ⟨u, h1, h2⟩ := hall k (by omega)
      exact ⟨u, by simp [List.getElem?_range (show k < sz by omega), h1], h2⟩
    · obtain ⟨u, h1, _⟩ := hall j hj
      simp [List.getElem?_range hj, h1]
  cases hb : g.body with
  | cells l =>
    rw [hb] at hl
    have hcell : ∀ k, k < l.length → ∃ u, w.cell? ⟨b, o + k, none⟩ = some u ∧ RelC E (l.getD k .any) u := fun k hk => by
      have := body_vals s k (by rw [hb]; exact hk)
      rw [hb] at this; exact this
    cases p <;> simp only [ptrId, Option.some.injEq] at hi <;> try (cases hi; done)
    · obtain rfl := hi.symm
      rename_i off
      simp only [sLoad] at hl
      split at hl <;> try (cases hl; done)
      rename_i q hq
      cases hl
      obtain ⟨b', o', z', e, rfl⟩ := hv
      rw [hE] at e; cases e
      have hpg := part_get hq
      exact ⟨b, o + off, rfl, fin _ hpg.1 fun m hm => by
        obtain ⟨u, h1, h2⟩ := hcell (off + m) (part_len hq m hm)
        exact ⟨u, by rw [Nat.add_assoc]; exact h1, by rw [hpg.2 m hm]; exact h2⟩⟩
    · obtain rfl := hi.symm
      rename_i off st cnt idx
      simp only [sLoad] at hl
      split at hl <;> try (cases hl; done)
      rename_i q hq
      cases hl
      obtain ⟨b', o', z', e, n, hn, hlt, rfl⟩ := hv
      rw [hE] at e; cases e
      have hsg := selRow_get hq hn (Nat.zero_le _) (by omega)
      exact ⟨b, o + off + n * st, rfl, fin _ hsg.1 fun m hm => by
        obtain ⟨u, h1, h2⟩ := hcell (off + n * st + m) (selRow_len hq (Nat.zero_le _) (by omega) m hm)
        exact ⟨u, by rw [show o + off + n * st + m = o + (off + n * st + m) by omega]; exact h1, hsg.2 E m u hm h2⟩⟩
    · simp [sLoad] at hl
  | rows st n row =>
    rw [hb] at hl
    cases p <;> simp only [ptrId, Option.some.injEq] at hi <;> try (cases hi; done)
    · simp [sLoad] at hl
    · simp [sLoad] at hl
    · obtain rfl := hi.symm
      rename_i off st' idx
      simp only [sLoad] at hl
      split at hl <;> try (cases hl; done)
      rename_i hst
      split at hl <;> try (cases hl; done)
      rename_i q hq
      cases hl
      simp only [Bool.and_eq_true, beqN, Nat.ble_eq] at hst
      obtain ⟨rfl, hle⟩ := hst
      obtain ⟨b', o', z', e, k, hk, rfl⟩ := hv
      rw [hE] at e; cases e
      have hbd := hob.head
      simp only [decide_eq_true_eq] at hbd
      have hpg := part_get hq
      refine ⟨b, o + off + k * st, rfl, fin _ hpg.1 fun m hm => ?_⟩
      have hlt : k * st + (off + m) < st * n.toNat := by
        have h1 : k + 1 ≤ n.toNat := by omega
        have h2 : st * (k + 1) ≤ st * n.toNat := Nat.mul_le_mul_left _ h1
        rw [Nat.mul_add, Nat.mul_comm st k] at h2
        omega
      obtain ⟨u, h1, h2⟩ := body_vals s (k * st + (off + m)) (by rw [hb]; exact hlt)
      rw [hb, rows_at (by omega), ← hk] at h2
      exact ⟨u, by rw [show o + off + k * st + m = o + (k * st + (off + m)) by omega]; exact h1, by rw [hpg.2 m hm]; exact h2⟩

theorem putRow_len {o st : Nat} {idx : Int} {new : List SC} : ∀ {c j : Nat} {l r : List SC}, putRow l o st idx new c j = some r → r.length = l.length
  | 0, _, _, _, h => by cases h; rfl
  | c + 1, j, l, r, h => by
    simp only [putRow] at h
    split at h <;> try (cases h; done)
    split at h <;> try (cases h; done)
    split at h <;> try (cases h; done)
    rename_i l' hl'
    rw [putRow_len h, splice_len hl']
theorem putRow_room {o st : Nat} {idx : Int} {new : List SC} : ∀ {c j : Nat} {l r : List SC}, putRow l o st idx new c j = some r → ∀ i, j ≤ i → i < j + c → o + i * st + new.length ≤ l.length ∨ new.length = 0
  | 0, _, _, _, h, i, h1, h2 => by omega
  | c + 1, j, l, r, h, i, h1, h2 => by
    simp only [putRow] at h
    split at h <;> try (cases h; done)
    rename_i p hp
    split at h <;> try (cases h; done)
    split at h <;> try (cases h; done)
    rename_i l' hl'
    by_cases e : i = j
    · subst e; exact part_le hp
    · have := putRow_room h i (by omega) (by omega)
      rwa [splice_len hl'] at this
theorem putRow_keep {E : EM} {o st : Nat} {idx : Int} {new : List SC} {i : Nat} (hi : idx = (i : Nat)) : ∀ {c j : Nat} {l r : List SC}, putRow l o st idx new c j = some r → (i < j ∨ j + c ≤ i) → ∀ k v, RelC E (l.getD k .any) v → RelC E (r.getD k .any) v
  | 0, _, _, _, h, _, k, v, hv => by cases h; exact hv
  | c + 1, j, l, r, h, hn, k, v, hv => by
    simp only [putRow] at h
    split at h <;> try (cases h; done)
    rename_i p hp
    split at h <;> try (cases h; done)
    rename_i q hq
    split at h <;> try (cases h; done)
    rename_i l' hl'
    refine putRow_keep hi h (by omega) k v ?_
    rw [splice_get hl']
    split
    · rename_i hk
      have hlen := mergeL_len hq
      rw [mergeL_get hq _ (by omega)]
      refine RelC.mergeL' (fun e => ?_) (fun _ => ?_)
      · simp [hi] at e; omega
      · rw [(part_get hp).2 _ (by omega), show o + j * st + (k - (o + j * st)) = k by omega]; exact hv
    · exact hv
theorem putRow_get {E : EM} {o st : Nat} {idx : Int} {new : List SC} {i : Nat} (hi : idx = (i : Nat)) : ∀ {c j : Nat} {l r : List SC}, putRow l o st idx new c j = some r → j ≤ i → i < j + c → ∀ k v,
    (if o + i * st ≤ k ∧ k < o + i * st + new.length then RelC E (new.getD (k - (o + i * st)) .any) v else RelC E (l.getD k .any) v) → RelC E (r.getD k .any) v
  | 0, _, _, _, h, h1, h2, k, v, hv => by omega
  | c + 1, j, l, r, h, h1, h2, k, v, hv => by
    simp only [putRow] at h
    split at h <;> try (cases h; done)
    rename_i p hp
    split at h <;> try (cases h; done)
    rename_i q hq
    split at h <;> try (cases h; done)
    rename_i l' hl'
    have hlen := mergeL_len hq
    by_cases e : i = j
    · subst e
      refine putRow_keep hi h (by omega) k v ?_
      rw [splice_get hl', ← hlen.1]
      split
      · rename_i hk
        rw [if_pos hk] at hv
        rw [mergeL_get hq _ (by omega)]
        exact RelC.mergeL' (fun _ => hv) (fun e => by simp [hi] at e)
      · rename_i hk
        rw [if_neg hk] at hv
        exact hv
    · refine putRow_get hi h (by omega) (by omega) k v ?_
      split
      · rename_i hk; rw [if_pos hk] at hv; exact hv
      · rename_i hk
        rw [if_neg hk] at hv
        rw [splice_get hl', ← hlen.1]
        split
        · rename_i hk2
          rw [mergeL_get hq _ (by omega)]
          refine RelC.mergeL' (fun e' => ?_) (fun _ => ?_)
          · simp [hi] at e'; omega
          · rw [(part_get hp).2 _ (by omega), show o + j * st + (k - (o + j * st)) = k by omega]; exact hv
        · exact hv

theorem putR_rel {E : EM} {row : Int → List SC} {idx j : Int} {o c : Nat} {new : List SC} {u : Value} (h : if j = idx ∧ o ≤ c ∧ c < o + new.length then RelC E (new.getD (c - o) .any) u else RelC E ((row j).getD c .any) u) :
    RelC E ((putR row idx o new j).getD c .any) u := by
  have hone : u.oneCell' = true := by
    split at h
    · exact h.one
    · exact h.one
  have hany : RelC E (([] : List SC).getD c .any) u := by
    show RelC E .any u
    exact hone
  unfold putR
  cases hp : part (row j) o new.length with
  | none => exact hany
  | some old =>
    cases hm : mergeL (decide (j = idx)) new old with
    | none => simp only [hm]; exact hany
    | some m =>
      cases hs : splice (row j) o m with
      | none => simp only [hm, hs]; exact hany
      | some r =>
        simp only [hm, hs]
        have hl := mergeL_len hm
        rw [splice_get hs]
        by_cases hc : o ≤ c ∧ c < o + m.length
        · rw [if_pos hc, mergeL_get hm (c - o) (by omega), (part_get hp).2 (c - o) (by omega), show o + (c - o) = c by omega]
          refine RelC.mergeL' (fun hb => ?_) fun hb => ?_
          · rw [if_pos ⟨of_decide_eq_true hb, hc.1, by omega⟩] at h; exact h
          · rw [if_neg (fun hh => of_decide_eq_false hb hh.1)] at h; exact h
        · rw [if_neg hc]
          rw [if_neg (fun hh => hc ⟨hh.2.1, by omega⟩)] at h; exact h
/-- What a store leaves. -/
theorem sStore_ok {w0 w : World} {T0 : Nat → Nat → Prop} {E : EM} {sg : Nat → Option Seg} (h : MemRel w0 T0 E sg w) {i : Nat} {g : Seg} (hg : sg i = some g) (hrw : g.rw = true) {p : SC} (hi : ptrId p = some i) {v : Value} (hv : RelC E p v)
    {new : List SC} {us : List Value} (hn : RelL E new us) {body : SBody} {ob : List Bool} (hl : sStore g.body p new = some (body, ob)) (hob : AllT ob) (P : Program) :
    ∃ b o', v = .pointer (some ⟨b, o', none⟩) ∧ ∃ w', (storeCells ⟨b, o', none⟩ us).run P w = .ok () w' ∧ MemRel w0 T0 E (upd sg i (some ⟨true, g.own, body⟩)) w' := by
  obtain ⟨b, o, z, cs, T, fr, hE, s⟩ := h.segs i g hg
  have hlen := hn.len
  have hone := hn.one
  -- the common end: the place 'q' behind 'o', the new body
  have fin : ∀ q, (q + us.length ≤ z ∨ us.length = 0 ∧ q ≤ z) → body.len = g.body.len →
      (∀ k u, k < body.len → (if q ≤ k ∧ k < q + us.length then RelC E (new.getD (k - q) .any) u else RelC E (g.body.at k) u) → RelC E (body.at k) u) →
      ∃ w', (storeCells ⟨b, o + q, none⟩ us).run P w = .ok () w' ∧ MemRel w0 T0 E (upd sg i (some ⟨true, g.own, body⟩)) w' := by
    intro q hq hbl hbody
    have hfit := s.fit
    obtain ⟨w', cs', hrun, hput⟩ := run_put P b (o + q) T fr us 0 w cs s.heap (by omega) (fun k h1 h2 => s.fz hrw k (by omega) (by omega)) hone
    refine ⟨w', hrun, h.put hg hrw hE hput (by omega) (by rw [hbl]; exact s.le) fun k hk => ?_⟩
    rw [hput.at_]
    by_cases hc : o + q + 0 ≤ o + k ∧ o + k < o + q + 0 + us.length
    · rw [if_pos hc]
      obtain ⟨u, h1, h2⟩ := hn.getD (k - q) (by omega)
      refine ⟨u, by rw [show o + k - (o + q + 0) = k - q by omega]; exact h1, hbody k u hk ?_⟩
      rw [if_pos (by omega)]; exact h2
    · rw [if_neg hc]
      obtain ⟨u, h1, h2⟩ := s.cell k (by omega)
      refine ⟨u, h1, hbody k u hk ?_⟩
      rw [if_neg (by omega)]; exact h2
  cases hb : g.body with
  | cells l =>
    rw [hb] at hl
    have hlz : l.length ≤ z := by have := s.le; rw [hb] at this; exact this
    cases p <;> simp only [ptrId, Option.some.injEq] at hi <;> try (cases hi; done)
    · obtain rfl := hi.symm
      rename_i off
      simp only [sStore] at hl
      split at hl <;> try (cases hl; done)
      rename_i q hq
      cases hl
      obtain ⟨b', o', z', e, rfl⟩ := hv
      rw [hE] at e; cases e
      refine ⟨b, o + off, rfl, ?_⟩
      rcases splice_le hq with h0 | h0
      · subst h0
        cases us with
        | cons _ _ => simp at hlen
        | nil =>
          refine ⟨w, by simp [storeCells], ?_⟩
          have hql : q = l := by cases l <;> (cases hq; rfl)
          subst hql
          have : upd sg i (some ⟨true, g.own, .cells q⟩) = sg := by
            funext j
            by_cases e : j = i
            · subst e; rw [upd_same, hg]; cases g; simp_all
            · rw [upd_other _ _ e]
          rw [this]; exact h
      · refine fin off (.inl (by omega)) (by rw [hb]; exact splice_len hq) fun k u hk hu => ?_
        simp only [SBody.at] at *
        rw [splice_get hq, hlen]
        rw [hb] at hu
        split
        · rename_i hc; rw [if_pos hc] at hu; exact hu
        · rename_i hc; rw [if_neg hc] at hu; exact hu
    · obtain rfl := hi.symm
      rename_i off st cnt idx
      simp only [sStore] at hl
      split at hl <;> try (cases hl; done)
      rename_i q hq
      cases hl
      obtain ⟨b', o', z', e, n, hn', hlt, rfl⟩ := hv
      rw [hE] at e; cases e
      refine ⟨b, o + off + n * st, rfl, ?_⟩
      rw [Nat.add_assoc]
      rcases putRow_room hq n (Nat.zero_le _) (by omega) with h0 | h0
      · refine fin (off + n * st) (.inl (by omega)) (by rw [hb]; exact putRow_len hq) fun k u hk hu => ?_
        simp only [SBody.at] at *
        rw [hb] at hu
        refine putRow_get hn' hq (Nat.zero_le _) (by omega) k u ?_
        rw [hlen]; exact hu
      · cases us with
        | cons _ _ => simp at hlen; omega
        | nil =>
          refine ⟨w, by simp [storeCells], ?_⟩
          -- nothing is written
          refine ⟨fun j gj hgj => ?_, fun j k gj gk b1 o1 z1 b2 o2 z2 hjk hgj hgk hr hb1 hb2 => ?_, fun j gj b1 o1 z1 hgj hr hb1 => ?_, h.fr, h.tab⟩
          · by_cases e : j = i
            · subst e
              rw [upd_same] at hgj; cases hgj
              refine ⟨b, o, z, cs, T, fr, hE, ⟨s.heap, by show q.length ≤ z; rw [putRow_len hq]; exact hlz, s.fit, s.own, fun _ => s.fz hrw, fun k hk => ?_⟩⟩
              have hk' : k < l.length := by rw [← putRow_len hq]; exact hk
              obtain ⟨u, h1, h2⟩ := s.cell k (by rw [hb]; exact hk')
              rw [hb] at h2
              refine ⟨u, h1, putRow_get hn' hq (Nat.zero_le _) (by omega) k u ?_⟩
              rw [if_neg (by omega)]; exact h2
            · rw [upd_other _ _ e] at hgj; exact h.segs j gj hgj
          · have hg1 : ∃ g1, sg j = some g1 ∧ g1.rw = gj.rw := by
              by_cases e : j = i
              · subst e; rw [upd_same] at hgj; cases hgj; exact ⟨g, hg, hrw⟩
              · rw [upd_other _ _ e] at hgj; exact ⟨gj, hgj, rfl⟩
            have hg2 : ∃ g2, sg k = some g2 ∧ g2.rw = gk.rw := by
              by_cases e : k = i
              · subst e; rw [upd_same] at hgk; cases hgk; exact ⟨g, hg, hrw⟩
              · rw [upd_other _ _ e] at hgk; exact ⟨gk, hgk, rfl⟩
            obtain ⟨g1, h1, r1⟩ := hg1
            obtain ⟨g2, h2, r2⟩ := hg2
            exact h.disj j k g1 g2 b1 o1 z1 b2 o2 z2 hjk h1 h2 (by rw [r1, r2]; exact hr) hb1 hb2
          · by_cases e : j = i
            · subst e; exact h.tch j g b1 o1 z1 hg hrw hb1
            · rw [upd_other _ _ e] at hgj; exact h.tch j gj b1 o1 z1 hgj hr hb1
    · simp [sStore] at hl
  | rows st n row =>
    rw [hb] at hl
    cases p <;> simp only [ptrId, Option.some.injEq] at hi <;> try (cases hi; done)
    · simp [sStore] at hl
    · simp [sStore] at hl
    · obtain rfl := hi.symm
      rename_i off st' idx
      simp only [sStore] at hl
      split at hl <;> try (cases hl; done)
      rename_i hst
      split at hl <;> try (cases hl; done)
      rename_i q hq
      cases hl
      simp only [Bool.and_eq_true, beqN, Nat.ble_eq] at hst
      obtain ⟨rfl, hle⟩ := hst
      obtain ⟨b', o', z', e, m, hm, rfl⟩ := hv
      rw [hE] at e; cases e
      have hbd := hob.head
      simp only [decide_eq_true_eq] at hbd
      have hz : st * n.toNat ≤ z := by have := s.le; rw [hb] at this; exact this
      have hmn : st * (m + 1) ≤ st * n.toNat := Nat.mul_le_mul_left _ (by omega)
      rw [Nat.mul_add, Nat.mul_comm st m] at hmn
      refine ⟨b, o + off + m * st, rfl, ?_⟩
      rw [Nat.add_assoc]
      refine fin (off + m * st) (.inl (by omega)) (by rw [hb]; rfl) fun k u hk hu => ?_
      rw [hb] at hu
      simp only [SBody.at] at *
      by_cases h0 : st = 0
      · subst h0; simp [SBody.len] at hk
      · have hst0 : 0 < st := Nat.pos_of_ne_zero h0
        have hdm := Nat.div_add_mod k st
        have hmod := Nat.mod_lt k hst0
        refine putR_rel ?_
        by_cases e : k / st = m
        · have e1 : ((k / st : Nat) : Int) = idx := by rw [hm, e]
          have hk' : k = m * st + k % st := by rw [Nat.mul_comm]; rw [e] at hdm; omega
          by_cases hc : off + m * st ≤ k ∧ k < off + m * st + us.length
          · rw [if_pos hc] at hu
            rw [if_pos ⟨e1, by omega, by omega⟩]
            rwa [show k % st - off = k - (off + m * st) by omega]
          · rw [if_neg hc] at hu
            rw [if_neg (fun hh => hc (by have := hh.2; omega))]
            exact hu
        · rw [if_neg (fun hh => e (by have := hh.1; rw [hm] at this; omega))]
          rw [if_neg] at hu
          · exact hu
          · rintro ⟨h1, h2⟩
            apply e
            have h3 : m * st ≤ k := by omega
            have h4 : k < (m + 1) * st := by rw [Nat.add_mul]; omega
            exact Nat.div_eq_of_lt_le h3 h4

/-- What a store of a whole row leaves. -/
theorem sStoreH_ok {w0 w : World} {T0 : Nat → Nat → Prop} {E : EM} {sg : Nat → Option Seg} (h : MemRel w0 T0 E sg w) {i : Nat} {g : Seg} (hg : sg i = some g) (hrw : g.rw = true) {st : Nat} {n idx : Int} {row : Int → List SC} (hb : g.body = .rows st n row) {v : Value} (hv : RelC E (.ptrr i 0 st idx) v)
    {new : List SC} {us : List Value} (hn : RelL E new us) (hl : new.length = st) (hbd : 0 ≤ idx ∧ idx < n) (P : Program) :
    ∃ b o', v = .pointer (some ⟨b, o', none⟩) ∧ ∃ w', (storeCells ⟨b, o', none⟩ us).run P w = .ok () w' ∧ MemRel w0 T0 E (upd sg i (some ⟨true, g.own, .rows st n (fun j => bif decide (j = idx) then new else row j)⟩)) w' := by
  obtain ⟨b, o, z, cs, T, fr, hE, s⟩ := h.segs i g hg
  have hlen := hn.len
  have hone := hn.one
  obtain ⟨b', o', z', e, m, hm, rfl⟩ := hv
  rw [hE] at e; cases e
  have hz : st * n.toNat ≤ z := by have := s.le; rw [hb] at this; exact this
  have hmn : st * (m + 1) ≤ st * n.toNat := Nat.mul_le_mul_left _ (by omega)
  rw [Nat.mul_add, Nat.mul_comm st m] at hmn
  refine ⟨b, o + 0 + m * st, rfl, ?_⟩
  have hfit := s.fit
  obtain ⟨w', cs', hrun, hput⟩ := run_put P b (o + 0 + m * st) T fr us 0 w cs s.heap (by omega) (fun k h1 h2 => s.fz hrw k (by omega) (by omega)) hone
  refine ⟨w', hrun, h.put hg hrw hE hput (by omega) (by exact hz) fun k hk => ?_⟩
  have hk' : k < st * n.toNat := hk
  rw [hput.at_]
  have hst0 : 0 < st := by
    rcases Nat.eq_zero_or_pos st with h0 | h0
    · subst h0; simp at hk'
    · exact h0
  have hdm := Nat.div_add_mod k st
  have hmod := Nat.mod_lt k hst0
  show ∃ v, _ ∧ RelC E ((bif decide (((k / st : Nat) : Int) = idx) then new else row ((k / st : Nat) : Int)).getD (k % st) .any) v
  by_cases hc : o + 0 + m * st + 0 ≤ o + k ∧ o + k < o + 0 + m * st + 0 + us.length
  · rw [if_pos hc]
    have e : k / st = m := by
      have h3 : m * st ≤ k := by omega
      have h4 : k < (m + 1) * st := by rw [Nat.add_mul]; omega
      exact Nat.div_eq_of_lt_le h3 h4
    have e1 : ((k / st : Nat) : Int) = idx := by rw [hm, e]
    obtain ⟨u, h1, h2⟩ := hn.getD (k % st) (by omega)
    refine ⟨u, ?_, by rw [decide_eq_true e1]; exact h2⟩
    rw [show o + k - (o + 0 + m * st + 0) = k % st by rw [e, Nat.mul_comm] at hdm; omega]
    exact h1
  · rw [if_neg hc]
    obtain ⟨u, h1, h2⟩ := s.cell k (by rw [hb]; exact hk')
    rw [hb] at h2
    refine ⟨u, h1, ?_⟩
    have e1 : ¬ ((k / st : Nat) : Int) = idx := by
      rw [hm]
      intro e
      have e : k / st = m := by omega
      rw [e, Nat.mul_comm] at hdm
      omega
    rw [decide_eq_false e1]; exact h2

end Go.Proofs.Ytaoeigofmfpamaa
end

/- Floats up to the bits of a NaN: what the model's operations give. Nothing is assumed. -/
section
namespace Go.Proofs.Ytaoeigofmfpamaa
open Go

theorem rung_word (f : Ieee.Format) (neg : Bool) {rung : Nat} (h : rung < f.signWeight) : f.word neg rung % f.signWeight = rung := by
  unfold Ieee.Format.word
  split
  · rw [Nat.add_mod_left, Nat.mod_eq_of_lt h]
  · exact Nat.mod_eq_of_lt h
theorem read_nan (f : Ieee.Format) (x : Nat) : (f.read x).isNaN = decide (f.infRung < x % f.signWeight ∧ f.binade ≤ x % f.signWeight) := by
  unfold Ieee.Format.read
  dsimp only
  split
  · simp [Ieee.Datum.isNaN]; omega
  · split
    · simp [Ieee.Datum.isNaN]; omega
    · split
      · simp [Ieee.Datum.isNaN]; omega
      · simp [Ieee.Datum.isNaN]; omega
theorem write_not_nan (f : Ieee.Format) (d : Ieee.Datum) (h : d.isNaN = false) : (f.read (f.write d)).isNaN = false := by
  rw [read_nan]
  cases d with
  | nan s t => simp [Ieee.Datum.isNaN] at h
  | infinity s =>
    simp only [Ieee.Format.write, rung_word f s f.infRung_lt]
    simp
  | number s m e =>
    simp only [Ieee.Format.write, Ieee.Format.nearest]
    split
    · have : 0 < f.signWeight := Nat.two_pow_pos _
      rw [rung_word f s this]; simp
    · have h1 := Nat.min_le_right
      rw [rung_word f s (Nat.lt_of_le_of_lt (Nat.min_le_right ..) f.infRung_lt)]
      simp only [decide_eq_false_iff_not, not_and, Nat.not_le]
      intro h2
      exact absurd (Nat.min_le_right ..) (Nat.not_le.2 h2)
theorem sum_not_nan : ∀ {a b c : Ieee.Datum}, a.sum b = some c → c.isNaN = false
  | .nan .., _, _, h => by simp [Ieee.Datum.sum] at h
  | .number .., .nan .., _, h => by simp [Ieee.Datum.sum] at h
  | .infinity .., .nan .., _, h => by simp [Ieee.Datum.sum] at h
  | .infinity s, .infinity t, c, h => by simp only [Ieee.Datum.sum] at h; split at h <;> cases h; rfl
  | .infinity s, .number .., c, h => by cases h; rfl
  | .number .., .infinity s, c, h => by cases h; rfl
  | .number .., .number .., c, h => by cases h; rfl
theorem product_not_nan : ∀ {a b c : Ieee.Datum}, a.product b = some c → c.isNaN = false
  | .nan .., _, _, h => by simp [Ieee.Datum.product] at h
  | .number .., .nan .., _, h => by simp [Ieee.Datum.product] at h
  | .infinity .., .nan .., _, h => by simp [Ieee.Datum.product] at h
  | .infinity s, .infinity t, c, h => by cases h; rfl
  | .infinity s, .number .., c, h => by simp only [Ieee.Datum.product] at h; split at h <;> cases h; rfl
  | .number .., .infinity s, c, h => by simp only [Ieee.Datum.product] at h; split at h <;> cases h; rfl
  | .number .., .number .., c, h => by cases h; rfl
theorem quotient_not_nan {n : Nat} : ∀ {a b c : Ieee.Datum}, a.quotient n b = some c → c.isNaN = false
  | .nan .., _, _, h => by simp [Ieee.Datum.quotient] at h
  | .number .., .nan .., _, h => by simp [Ieee.Datum.quotient] at h
  | .infinity .., .nan .., _, h => by simp [Ieee.Datum.quotient] at h
  | .infinity s, .infinity t, c, h => by simp [Ieee.Datum.quotient] at h
  | .infinity s, .number .., c, h => by cases h; rfl
  | .number .., .infinity s, c, h => by cases h; rfl
  | .number .., .number .., c, h => by
    simp only [Ieee.Datum.quotient] at h
    split at h
    · split at h <;> cases h; rfl
    · cases h; rfl
theorem floatBits_not_nan {op : BinOp} {k : FloatKind} {x y r : Nat} (h : floatBits op k x y = some r) : (k.decode r).isNaN = false := by
  have key : ∀ d : Option Ieee.Datum, d.map k.format.write = some r → (∀ c, d = some c → c.isNaN = false) → (k.decode r).isNaN = false := by
    intro d hd hc
    cases d with
    | none => cases hd
    | some c => cases hd; exact write_not_nan _ _ (hc c rfl)
  unfold floatBits at h
  split at h
  · exact key _ h fun c hc => sum_not_nan hc
  · exact key _ h fun c hc => sum_not_nan hc
  · exact key _ h fun c hc => product_not_nan hc
  · exact key _ h fun c hc => quotient_not_nan hc
  · cases h

theorem floatBits_lt {op : BinOp} {k : FloatKind} {x y r : Nat} (h : floatBits op k x y = some r) : r < 2 ^ k.format.width := by
  unfold floatBits at h
  split at h
  · exact k.format.add_lt h
  · exact k.format.sub_lt h
  · exact k.format.mul_lt h
  · exact k.format.div_lt h
  · cases h
theorem qnan_nan (k : FloatKind) : (k.decode (qnan k)).isNaN = true := by cases k <;> decide +kernel
theorem can_cases (k : FloatKind) (r : Nat) : ((k.decode r).isNaN = true ∧ can k r = qnan k) ∨ ((k.decode r).isNaN = false ∧ can k r = r) := by
  unfold can
  cases h : (k.decode r).isNaN
  · exact .inr ⟨rfl, by simp⟩
  · exact .inl ⟨rfl, by simp⟩
theorem can_nan (k : FloatKind) (r : Nat) : (k.decode (can k r)).isNaN = (k.decode r).isNaN := by
  rcases can_cases k r with ⟨h1, h2⟩ | ⟨h1, h2⟩
  · rw [h1, h2]; exact qnan_nan k
  · rw [h2]
theorem can_can (k : FloatKind) (r : Nat) : can k (can k r) = can k r := by
  rcases can_cases k r with ⟨h1, h2⟩ | ⟨h1, h2⟩
  · rw [h2]; simp [can, qnan_nan]
  · rw [h2, h2]
theorem sum_nan_l {a : Ieee.Datum} (b : Ieee.Datum) (h : a.isNaN = true) : a.sum b = none := by
  cases a <;> simp [Ieee.Datum.isNaN] at h; simp [Ieee.Datum.sum]
theorem sum_nan_r (a : Ieee.Datum) {b : Ieee.Datum} (h : b.isNaN = true) : a.sum b = none := by
  cases b <;> simp [Ieee.Datum.isNaN] at h; cases a <;> simp [Ieee.Datum.sum]
theorem opp_nan {b : Ieee.Datum} : b.opposite.isNaN = b.isNaN := by cases b <;> rfl
theorem product_nan_l {a : Ieee.Datum} (b : Ieee.Datum) (h : a.isNaN = true) : a.product b = none := by
  cases a <;> simp [Ieee.Datum.isNaN] at h; simp [Ieee.Datum.product]
theorem product_nan_r (a : Ieee.Datum) {b : Ieee.Datum} (h : b.isNaN = true) : a.product b = none := by
  cases b <;> simp [Ieee.Datum.isNaN] at h; cases a <;> simp [Ieee.Datum.product]
theorem quotient_nan_l {n : Nat} {a : Ieee.Datum} (b : Ieee.Datum) (h : a.isNaN = true) : a.quotient n b = none := by
  cases a <;> simp [Ieee.Datum.isNaN] at h; simp [Ieee.Datum.quotient]
theorem quotient_nan_r {n : Nat} (a : Ieee.Datum) {b : Ieee.Datum} (h : b.isNaN = true) : a.quotient n b = none := by
  cases b <;> simp [Ieee.Datum.isNaN] at h; cases a <;> simp [Ieee.Datum.quotient]
theorem order_nan_l {a : Ieee.Datum} (b : Ieee.Datum) (h : a.isNaN = true) : a.order b = none := by
  cases a <;> simp [Ieee.Datum.isNaN] at h; simp [Ieee.Datum.order]
theorem order_nan_r (a : Ieee.Datum) {b : Ieee.Datum} (h : b.isNaN = true) : a.order b = none := by
  cases b <;> simp [Ieee.Datum.isNaN] at h; cases a <;> simp [Ieee.Datum.order]
theorem floatBits_nan_l (op : BinOp) (k : FloatKind) {x : Nat} (y : Nat) (h : (k.decode x).isNaN = true) : floatBits op k x y = none := by
  unfold FloatKind.decode at h
  unfold floatBits
  split
  · simp [Ieee.Format.add, sum_nan_l _ h]
  · simp [Ieee.Format.sub, sum_nan_l _ h]
  · simp [Ieee.Format.mul, product_nan_l _ h]
  · simp [Ieee.Format.div, quotient_nan_l _ h]
  · rfl
theorem floatBits_nan_r (op : BinOp) (k : FloatKind) (x : Nat) {y : Nat} (h : (k.decode y).isNaN = true) : floatBits op k x y = none := by
  unfold FloatKind.decode at h
  unfold floatBits
  split
  · simp [Ieee.Format.add, sum_nan_r _ h]
  · simp [Ieee.Format.sub, sum_nan_r _ (opp_nan.trans h)]
  · simp [Ieee.Format.mul, product_nan_r _ h]
  · simp [Ieee.Format.div, quotient_nan_r _ h]
  · rfl
theorem floatBits_can (op : BinOp) (k : FloatKind) (x y : Nat) : floatBits op k (can k x) (can k y) = floatBits op k x y := by
  rcases can_cases k x with ⟨h1, h2⟩ | ⟨h1, h2⟩
  · rw [floatBits_nan_l op k y h1, floatBits_nan_l op k _ (by rw [can_nan]; exact h1)]
  · rcases can_cases k y with ⟨h3, h4⟩ | ⟨h3, h4⟩
    · rw [floatBits_nan_r op k x h3, floatBits_nan_r op k _ (by rw [can_nan]; exact h3)]
    · rw [h2, h4]
theorem order_can (k : FloatKind) (x y : Nat) : k.format.order (can k x) (can k y) = k.format.order x y := by
  unfold Ieee.Format.order
  rcases can_cases k x with ⟨h1, h2⟩ | ⟨h1, h2⟩
  · have h1' := h1; have h3 := can_nan k x; unfold FloatKind.decode at h1' h3
    rw [order_nan_l _ h1', order_nan_l _ (h3.trans h1')]
  · rcases can_cases k y with ⟨h3, h4⟩ | ⟨h3, h4⟩
    · have h1' := h3; have h5 := can_nan k y; unfold FloatKind.decode at h1' h5
      rw [order_nan_r _ h1', order_nan_r _ (h5.trans h1')]
    · rw [h2, h4]

def cmpOrd (op : BinOp) (c : Option Ordering) : Bool :=
  match op with
  | .eql => c == some .eq
  | .neq => c != some .eq
  | .lss => c == some .lt
  | .leq => c == some .lt || c == some .eq
  | .gtr => c == some .gt
  | .geq => c == some .gt || c == some .eq
  | _ => false
noncomputable def fops : FOps where
  bin op k x y := (floatBits op k x y).getD (qnan k)
  cmp op k x y := cmpOrd op (k.format.order x y)
  neg k x := can k (Op.negFloat k x)
  conv s k x := (floatToFloatBits s x k).getD (qnan k)
  convOk s k x := (floatToFloatBits s x k).isSome || (s.decode x).isNaN
  ofInt k n := k.nearest n
  toInt s k x := (floatToIntVal s x k).getD 0
  toIntOk s k x := (floatToIntVal s x k).isSome

theorem width_eq (k : FloatKind) : k.format.width = 1 + k.format.exponentBits + k.format.fractionBits := rfl
/-- A NaN out of the tape is a NaN. -/
theorem tape_nan (k : FloatKind) (x y t : Nat) : ((Question.nanBits k x y).cut t) < 2 ^ k.format.width ∧ (k.decode ((Question.nanBits k x y).cut t)).isNaN = true := by
  unfold FloatKind.decode
  rw [read_nan]
  have e32 : FloatKind.f32.format.width = 32 := rfl
  have e64 : FloatKind.f64.format.width = 64 := rfl
  have s32 : FloatKind.f32.format.signWeight = 2147483648 := by decide +kernel
  have s64 : FloatKind.f64.format.signWeight = 9223372036854775808 := by decide +kernel
  have i32 : FloatKind.f32.format.infRung = 2139095040 := by decide +kernel
  have i64 : FloatKind.f64.format.infRung = 9218868437227405312 := by decide +kernel
  have b32 : FloatKind.f32.format.binade = 8388608 := by decide +kernel
  have b64 : FloatKind.f64.format.binade = 4503599627370496 := by decide +kernel
  have ht : t % 2 = 0 ∨ t % 2 = 1 := by omega
  cases k
  · simp only [Question.cut, e32, s32, i32, b32, decide_eq_true_eq]
    rcases ht with h | h <;> rw [h] <;> omega
  · simp only [Question.cut, e64, s64, i64, b64, decide_eq_true_eq]
    rcases ht with h | h <;> rw [h] <;> omega
theorem tape_nanConv (k : FloatKind) (x t : Nat) : ((Question.nanConv k x).cut t) < 2 ^ k.format.width ∧ (k.decode ((Question.nanConv k x).cut t)).isNaN = true := by
  have h := tape_nan k x x t
  cases k <;> exact h
theorem can_of_nan {k : FloatKind} {r : Nat} (h : (k.decode r).isNaN = true) : can k r = qnan k := by simp [can, h]
theorem can_of_not {k : FloatKind} {r : Nat} (h : (k.decode r).isNaN = false) : can k r = r := by simp [can, h]

theorem neg_nan (k : FloatKind) (r : Nat) : (k.decode (Op.negFloat k r)).isNaN = (k.decode r).isNaN := by
  unfold FloatKind.decode
  rw [read_nan, read_nan]
  have : Op.negFloat k r % k.format.signWeight = r % k.format.signWeight := by
    unfold Op.negFloat Ieee.Format.signWeight
    rw [Nat.xor_mod_two_pow]; simp
  rw [this]
theorem neg_lt (k : FloatKind) {r : Nat} (h : r < 2 ^ k.format.width) : Op.negFloat k r < 2 ^ k.format.width := by
  unfold Op.negFloat
  refine Nat.xor_lt_two_pow h (Nat.pow_lt_pow_right (by decide) ?_)
  rw [width_eq]; omega
theorem neg_can (k : FloatKind) (r : Nat) : can k (Op.negFloat k (can k r)) = can k (Op.negFloat k r) := by
  rcases can_cases k r with ⟨h1, h2⟩ | ⟨h1, h2⟩
  · rw [can_of_nan (by rw [neg_nan, can_nan]; exact h1), can_of_nan (by rw [neg_nan]; exact h1)]
  · rw [h2]
theorem FR.bin {op : BinOp} (hop : isArf op = true) {k : FloatKind} {x y : Nat} {u v : Value} (hu : FR k x u) (hv : FR k y v) (P : Program) (t : TypeId) (w : World) :
    ∃ r w', (binOp op t u v).run P w = .ok r w' ∧ FR k (fops.bin op k x y) r ∧ w'.heap = w.heap ∧ w'.os = w.os ∧ w'.output = w.output := by
  obtain ⟨a, rfl, ha, rfl⟩ := hu
  obtain ⟨b, rfl, hb, rfl⟩ := hv
  have e : fops.bin op k (can k a) (can k b) = (floatBits op k a b).getD (qnan k) := by
    show (floatBits op k (can k a) (can k b)).getD (qnan k) = _
    rw [floatBits_can]
  cases h : floatBits op k a b with
  | some r =>
    refine ⟨.float k r, w, run_float_arith w op t k a b r h, ⟨r, rfl, ?_, ?_⟩, rfl, rfl, rfl⟩
    · exact floatBits_lt h
    · rw [e, h]; exact can_of_not (floatBits_not_nan h)
  | none =>
    have hq : (Question.nanBits k a b).forced = false := by cases k <;> rfl
    have hn := tape_nan k a b (w.tape w.drawn (.nanBits k a b))
    refine ⟨.float k ((Question.nanBits k a b).cut (w.tape w.drawn (.nanBits k a b))), { w with drawn := w.drawn + 1 }, ?_, ⟨_, rfl, hn.1, ?_⟩, rfl, rfl, rfl⟩
    · unfold floatBits at h
      cases op <;> simp [isArf] at hop <;> simp only at h <;> simp [binOp, Op.floatArith, h, hq]
    · rw [e, h]; exact can_of_nan hn.2
theorem FR.cmp {op : BinOp} (hop : isArf op = false) (hc : isCmp op = true) {k : FloatKind} {x y : Nat} {u v : Value} (hu : FR k x u) (hv : FR k y v) (P : Program) (t : TypeId) (w : World) :
    (binOp op t u v).run P w = .ok (.bool (fops.cmp op k x y)) w := by
  obtain ⟨a, rfl, ha, rfl⟩ := hu
  obtain ⟨b, rfl, hb, rfl⟩ := hv
  have e : fops.cmp op k (can k a) (can k b) = cmpOrd op (k.format.order a b) := by
    show cmpOrd op (k.format.order (can k a) (can k b)) = _
    rw [order_can]
  rw [e]
  cases op <;> simp [isArf] at hop <;> simp [isCmp] at hc <;> simp [binOp, Op.floatCmp, cmpOrd]
theorem FR.neg {k : FloatKind} {x : Nat} {u : Value} (hu : FR k x u) (P : Program) (w : World) : ∃ r, (Op.unary .neg u).run P w = .ok r w ∧ FR k (fops.neg k x) r := by
  obtain ⟨a, rfl, ha, rfl⟩ := hu
  exact ⟨.float k (Op.negFloat k a), rfl, _, rfl, neg_lt k ha, (neg_can k a).symm⟩
theorem FR.ofInt (k : FloatKind) (n : Int) : FR k (fops.ofInt k n) (.float k (k.nearest n)) :=
  ⟨k.nearest n, rfl, k.format.write_lt (.number (n < 0) n.natAbs 0), can_of_not (write_not_nan k.format (.number (n < 0) n.natAbs 0) rfl)⟩
theorem FR.conv {s k : FloatKind} (hne : s ≠ k) {x : Nat} {u : Value} (hu : FR s x u) (hok : fops.convOk s k x = true) (P : Program) (w : World) {b : Nat} (hb : u = .float s b) :
    ∃ r w', (Conv.floatToFloat s b k).run P w = .ok r w' ∧ FR k (fops.conv s k x) r ∧ w'.heap = w.heap ∧ w'.os = w.os ∧ w'.output = w.output := by
  obtain ⟨a, rfl, ha, rfl⟩ := hu
  cases hb
  rcases can_cases s b with ⟨h1, h2⟩ | ⟨h1, h2⟩
  · have hd : ∃ sg t, s.decode b = .nan sg t := by
      cases hh : s.decode b <;> simp [hh, Ieee.Datum.isNaN] at h1
      exact ⟨_, _, rfl⟩
    obtain ⟨sg, t, hd⟩ := hd
    have hdc : ∃ sg t, s.decode (can s b) = .nan sg t := by
      have := can_nan s b; rw [h1] at this
      cases hh : s.decode (can s b) <;> simp [hh, Ieee.Datum.isNaN] at this
      exact ⟨_, _, rfl⟩
    obtain ⟨sg', t', hdc⟩ := hdc
    have hq : (Question.nanConv k b).forced = false := by cases k <;> rfl
    have hn := tape_nanConv k b (w.tape w.drawn (.nanConv k b))
    refine ⟨.float k ((Question.nanConv k b).cut (w.tape w.drawn (.nanConv k b))), { w with drawn := w.drawn + 1 }, ?_, ⟨_, rfl, hn.1, ?_⟩, rfl, rfl, rfl⟩
    · simp [Conv.floatToFloat, hne, hd, hq]
    · rw [can_of_nan hn.2]
      show _ = (floatToFloatBits s (can s b) k).getD (qnan k)
      simp [floatToFloatBits, hne, hdc]
  · rw [h2] at hok ⊢
    have hs : (floatToFloatBits s b k).isSome = true := by
      have : ((floatToFloatBits s b k).isSome || (s.decode b).isNaN) = true := hok
      simpa [h1] using this
    obtain ⟨r, hr⟩ := Option.isSome_iff_exists.1 hs
    have hval : fops.conv s k b = r := by show (floatToFloatBits s b k).getD (qnan k) = r; rw [hr]; rfl
    have hr' := hr
    unfold floatToFloatBits at hr'
    rw [if_neg hne] at hr'
    cases hd : s.decode b with
    | nan sg t => simp [hd, Ieee.Datum.isNaN] at h1
    | infinity sg =>
      simp only [hd, Option.some.injEq] at hr'
      refine ⟨.float k r, w, by simp [Conv.floatToFloat, hne, hd, hr'], ⟨r, rfl, ?_, ?_⟩, rfl, rfl, rfl⟩
      · rw [← hr']; exact k.format.write_lt _
      · rw [hval, ← hr']; exact can_of_not (write_not_nan _ _ rfl)
    | number sg m e =>
      simp only [hd] at hr'
      split at hr'
      · cases hr'
      · rename_i hi
        simp only [Option.some.injEq] at hr'
        subst hr'
        refine ⟨.float k _, w, by simp only [Conv.floatToFloat, hne, if_false, hd, hi, Bool.false_eq_true]; rfl, ⟨_, rfl, k.format.write_lt _, ?_⟩, rfl, rfl, rfl⟩
        rw [hval]; exact can_of_not (write_not_nan _ _ rfl)
theorem FR.toInt {s : FloatKind} {k : IntKind} {x b : Nat} (hu : FR s x (.float s b)) (hok : fops.toIntOk s k x = true) (P : Program) (w : World) :
    (Conv.floatToInt s b k).run P w = .ok (.int k (fops.toInt s k x)) w := by
  obtain ⟨a, he, ha, rfl⟩ := hu
  cases he
  have hs : (floatToIntVal s (can s b) k).isSome = true := hok
  have hn : (s.decode b).isNaN = false := by
    rw [← can_nan]
    cases h : (s.decode (can s b)).isNaN
    · rfl
    · exfalso
      have : (s.decode (can s b)).toInt .zero = none := by
        cases hh : s.decode (can s b) <;> simp [hh, Ieee.Datum.isNaN] at h
        rfl
      simp [floatToIntVal, this] at hs
  rw [can_of_not hn] at hs ⊢
  obtain ⟨n, hr⟩ := Option.isSome_iff_exists.1 hs
  have hv : fops.toInt s k b = n := by show (floatToIntVal s b k).getD 0 = n; rw [hr]; rfl
  rw [hv]
  unfold floatToIntVal at hr
  split at hr
  · rename_i m he
    split at hr
    · rename_i hb; cases hr; simp [Conv.floatToInt, he, hb.1, hb.2]
    · cases hr
  · cases hr


/-! ### from single to double nothing is lost -/
theorem read_f32 {x : Nat} {s : Bool} {m : Nat} {e : Int} (h : FloatKind.f32.decode x = .number s m e) : m < 2 ^ 24 ∧ -149 ≤ e ∧ e ≤ 104 := by
  unfold FloatKind.decode Ieee.Format.read at h
  have s32 : FloatKind.f32.format.signWeight = 2147483648 := by decide +kernel
  have i32 : FloatKind.f32.format.infRung = 2139095040 := by decide +kernel
  have b32 : FloatKind.f32.format.binade = 8388608 := by decide +kernel
  have l32 : FloatKind.f32.format.leastPlace = -149 := by decide +kernel
  simp only [s32, i32, b32, l32] at h
  split at h
  · cases h; omega
  · split at h
    · cases h; omega
    · split at h <;> cases h
theorem cut_zero (w : Ieee.Toward) (s : Bool) (n : Nat) : w.cut s n 0 = n := by
  unfold Ieee.Toward.cut
  cases w <;> simp [Nat.mod_one]
theorem fin_aux {a k : Nat} (h1 : a ≤ 1149) (h2 : k < 2 ^ 53) : min (a * 4503599627370496 + k) 9218868437227405312 < 9218868437227405312 := by
  have h2' : k < 9007199254740992 := h2
  omega
theorem conv_fin {x : Nat} {s : Bool} {m : Nat} {e : Int} (h : FloatKind.f32.decode x = .number s m e) : (FloatKind.f64.decode (FloatKind.f64.encode (.number s m e))).isInfinity = false := by
  obtain ⟨h1, h2, h3⟩ := read_f32 h
  have s64 : FloatKind.f64.format.signWeight = 9223372036854775808 := by decide +kernel
  have i64 : FloatKind.f64.format.infRung = 9218868437227405312 := by decide +kernel
  have b64 : FloatKind.f64.format.binade = 4503599627370496 := by decide +kernel
  have l64 : FloatKind.f64.format.leastPlace = -1074 := by decide +kernel
  have f64 : FloatKind.f64.format.fractionBits = 52 := by decide +kernel
  -- a rung below that of infinity
  have key : ∀ (neg : Bool) (r : Nat), r < 9218868437227405312 → (FloatKind.f64.decode (FloatKind.f64.format.word neg r)).isInfinity = false := by
    intro neg r hr
    unfold FloatKind.decode Ieee.Format.read
    have hw : FloatKind.f64.format.word neg r % FloatKind.f64.format.signWeight = r := rung_word _ _ (by rw [s64]; omega)
    dsimp only
    rw [hw, i64, b64]
    split
    · rfl
    · first | rfl | (split <;> first | rfl | omega)
  show (FloatKind.f64.decode (FloatKind.f64.format.nearest s m e)).isInfinity = false
  unfold Ieee.Format.nearest
  split
  · exact key s 0 (by decide)
  · rename_i hm
    have hlog : m.log2 ≤ 23 := by
      have := (Nat.log2_lt hm).2 h1
      omega
    have hmax : max (e + (m.log2 : Int) - (52 : Nat)) (-1074) = e + m.log2 - 52 := by omega
    simp only [f64, l64, i64, b64, hmax]
    have d1 : (e + (m.log2 : Int) - 52 - e).toNat = 0 := by omega
    have d2 : (e - (e + (m.log2 : Int) - 52)).toNat = 52 - m.log2 := by omega
    rw [d1, d2, cut_zero]
    have hk : m <<< (52 - m.log2) < 2 ^ 53 := by
      rw [Nat.shiftLeft_eq]
      have : m < 2 ^ (m.log2 + 1) := Nat.lt_log2_self
      calc m * 2 ^ (52 - m.log2) < 2 ^ (m.log2 + 1) * 2 ^ (52 - m.log2) := Nat.mul_lt_mul_of_pos_right this (Nat.two_pow_pos _)
        _ = 2 ^ 53 := by rw [← Nat.pow_add]; congr 1; omega
    have d3 : (e + (m.log2 : Int) - 52 - -1074).toNat ≤ 1149 := by omega
    exact key s _ (fin_aux d3 hk)
theorem conv_ok (x : Nat) : fops.convOk .f32 .f64 x = true := by
  show ((floatToFloatBits .f32 x .f64).isSome || (FloatKind.f32.decode x).isNaN) = true
  unfold floatToFloatBits
  cases h : (FloatKind.f32.decode x) with
  | nan s t => simp [Ieee.Datum.isNaN]
  | infinity s => simp
  | number s m e => simp [conv_fin h]

end Go.Proofs.Ytaoeigofmfpamaa
end

/- Each operation of the model does what the executor says. Nothing is assumed. -/
section
namespace Go.Proofs.Ytaoeigofmfpamaa
open Go

/-! ### what a run of an operation comes to -/
def NextOK (P : Program) (r : Result Next) (post : Value → World → Prop) : Prop :=
  match r with
  | .ok (.value v) w' => post v w'
  | .ok .skip w' => post undef w'
  | .ok (.enter f args) w' => Calls P f args w' (fun e w'' => ∃ v, e = .returned v ∧ post v w'')
  | _ => False
theorem NextOK.mono {P : Program} {r : Result Next} {post post' : Value → World → Prop} (h : NextOK P r post) (hp : ∀ v w', post v w' → post' v w') : NextOK P r post' := by
  unfold NextOK at *
  split at h
  · exact hp _ _ h
  · exact hp _ _ h
  · exact Calls.mono h fun e w' ⟨v, e', hv⟩ => ⟨v, e', hp _ _ hv⟩
  · exact h.elim
theorem wp_of_next {P : Program} {o : Oper} {a : Act} {w : World} {next : Act → World → Prop} {Q : Exit → Act → World → Prop} {post : Value → World → Prop}
    (h : NextOK P ((execOp a.eval o).run P w) post) (hp : ∀ v w', post v w' → next (a.put o.dst v) w') : o.wp P a w next Q := by
  unfold Oper.wp
  unfold NextOK at h
  split at h
  · rename_i v w' hr; rw [hr]; exact hp _ _ h
  · rename_i w' hr; rw [hr]; exact hp _ _ h
  · rename_i f args w' hr
    rw [hr]
    refine Calls.mono h fun e w'' ⟨v, e', hv⟩ => ?_
    subst e'; exact hp _ _ hv
  · exact h.elim
theorem next_v {P : Program} {w w' : World} {s : Sem Value} {v : Value} {post : Value → World → Prop} (h : s.run P w = .ok v w') (hp : post v w') : NextOK P ((do pure (Next.value (← s)) : Sem Next).run P w) post := by
  simp only [Sem.run_bind, h, Result.andThen_ok, Sem.run_pure, NextOK]
  exact hp
theorem next_u {P : Program} {w w' : World} {s : Sem Unit} {post : Value → World → Prop} (h : s.run P w = .ok () w') (hp : post undef w') : NextOK P ((do s; pure Next.skip : Sem Next).run P w) post := by
  simp only [Sem.run_bind, h, Result.andThen_ok, Sem.run_pure, NextOK]
  exact hp

def updSs (gs : Nat → Option Seg) : List (Nat × Option Seg) → Nat → Option Seg
  | [] => gs
  | (i, v) :: r => updSs (upd gs i v) r
def PostOp (w0 : World) (T0 : Nat → Nat → Prop) (E : EM) (gs : Nat → Option Seg) (next : Nat) (e : Eff) (v : Value) (w' : World) : Prop :=
  ∃ E', Ext E E' ∧ (∀ i, E' i ≠ none → E i ≠ none ∨ (next ≤ i ∧ i < e.next)) ∧ RelV E' e.val v ∧ MemRel w0 T0 E' (updSs gs e.ws) w'

/-! ### small runs -/
section
variable {P : Program} {w : World}
theorem info_of_size {t n : Nat} (h : tsize P t = some n) : ∃ i, P.info? t = some i ∧ i.size = n := by
  unfold tsize at h
  cases hi : P.info? t with
  | none => simp [hi] at h
  | some i => simp only [hi, Option.map_some, Option.some.injEq] at h; exact ⟨i, rfl, h⟩
theorem rSize {t n : Nat} (h : tsize P t = some n) : (sizeOf t).run P w = .ok n w := by
  obtain ⟨i, hi, rfl⟩ := info_of_size h
  simp [sizeOf, typeInfo, hi]
theorem rAgg {t : Nat} {b : Bool} (h : tagg P t = some b) : (isAgg t).run P w = .ok b w := by
  unfold tagg at h
  cases hu : P.underlying t with
  | none => simp [hu] at h
  | some d => cases d <;> simp [hu] at h <;> subst h <;> simp [isAgg, run_underlying hu]
theorem svOfL_ok {E : EM} : ∀ {vs : List Value} {l : List SC}, svOfL vs = some l → RelL E l vs
  | [], l, h => by cases h; trivial
  | v :: vs, l, h => by
    simp only [svOfL] at h
    split at h <;> try (cases h; done)
    split at h <;> try (cases h; done)
    rename_i x hx _ m hm
    cases h
    exact ⟨svOfC_ok hx, svOfL_ok hm⟩
theorem rZero {E : EM} {t : Nat} {z : List SC} (h : tzero P t = some z) : ∃ v, (zeroValue t).run P w = .ok v w ∧ RelL E z v.cells.toList ∧ ∃ i, P.info? t = some i ∧ i.zero = some v := by
  unfold tzero at h
  cases hi : P.info? t with
  | none => simp [hi] at h
  | some i =>
    cases hz : i.zero with
    | none => simp [hi, hz] at h
    | some v =>
      simp only [hi, hz] at h
      exact ⟨v, by simp [zeroValue, typeInfo, hi, hz], svOfL_ok h, i, rfl, hz⟩
theorem svOf_ok {E : EM} {v : Value} {x : SV} (h : svOf v = some x) : RelV E x v := by
  unfold svOf at h
  split at h
  · split at h
    · rename_i l hl; cases h; exact ⟨_, rfl, svOfL_ok hl⟩
    · cases h
  · split at h
    · rename_i x hx; cases h; exact svOfC_ok hx
    · cases h
end

section
variable {E : EM} {gt : Nat → SV} {a : Act}
theorem bindO_some {γ β : Type} {x : Option γ} {f : γ → Option β} {r : β} (h : bindO x f = some r) : ∃ y, x = some y ∧ f y = some r := by
  cases x with
  | none => cases h
  | some y => exact ⟨y, rfl, h⟩
theorem bindC_some {β : Type} {x : Option SV} {f : SC → Option β} {r : β} (h : bindC x f = some r) : ∃ y, x = some (.c y) ∧ f y = some r := by
  cases x with
  | none => cases h
  | some y => cases y <;> first | (cases h; done) | exact ⟨_, rfl, h⟩
theorem ev_ok (hT : ∀ t, RelV E (gt t) (a.tmps.getD t undef)) {x : Operand} {v : SV} (h : ev gt x = some v) : RelV E v (a.eval x) := by
  cases x with
  | tmp t => cases h; exact hT t
  | const c => exact svOf_ok h
  | global g => cases h
  | func f => cases h
theorem evC_ok (hT : ∀ t, RelV E (gt t) (a.tmps.getD t undef)) {x : Operand} {c : SC} (h : ev gt x = some (.c c)) : RelC E c (a.eval x) := ev_ok hT h
theorem cells_ok {v : SV} {u : Value} {l : List SC} (hv : RelV E v u) (h : v.cells = some l) : RelL E l u.cells.toList := by
  cases v <;> simp only [SV.cells] at h <;> try (cases h; done)
  · cases h
    rw [cells_of_one (RelC.one hv)]
    exact ⟨hv, trivial⟩
  · cases h
    obtain ⟨vs, rfl, h⟩ := hv
    exact h
theorem evL_ok (hT : ∀ t, RelV E (gt t) (a.tmps.getD t undef)) {x : Operand} {l : List SC} (h : evL gt x = some l) : RelL E l (a.eval x).cells.toList := by
  unfold evL at h
  cases hx : ev gt x with
  | none => simp [hx] at h
  | some v => simp only [hx] at h; exact cells_ok (ev_ok hT hx) h
theorem ofCells_agg {l : List SC} {v : SV} {vs : List Value} (h : ofCells true l = some v) (hr : RelL E l vs) : RelV E v (.agg vs.toArray) := by
  unfold ofCells at h
  split at h <;> cases h <;> exact ⟨_, rfl, by simpa using hr⟩
theorem ofCells_one {l : List SC} {v : SV} {vs : List Value} (h : ofCells false l = some v) (hr : RelL E l vs) : ∃ u, vs = [u] ∧ RelV E v u := by
  unfold ofCells at h
  split at h
  · cases h
    cases vs with
    | nil => exact hr.elim
    | cons u us => cases us with
      | nil => exact ⟨u, rfl, hr.1⟩
      | cons _ _ => exact hr.2.elim
  · cases h
end

/-! ### the operations -/
section
variable {P : Program} {a : Act} {w0 w : World} {T0 : Nat → Nat → Prop} {E : EM} {gt : Nat → SV} {gs : Nat → Option Seg} {next : Nat}

theorem post_pure (hm : MemRel w0 T0 E gs w) {v : SV} {u : Value} (hv : RelV E v u) {rd : List Nat} {obs : List Bool} : PostOp w0 T0 E gs next ⟨v, [], next, rd, obs⟩ u w :=
  ⟨E, Ext.refl E, fun i h => .inl h, hv, hm⟩
theorem post_pure' (hm : MemRel w0 T0 E gs w) {w' : World} (h1 : w'.heap = w.heap) (h2 : w'.os = w.os) (h3 : w'.output = w.output) {v : SV} {u : Value} (hv : RelV E v u) {rd : List Nat} {obs : List Bool} : PostOp w0 T0 E gs next ⟨v, [], next, rd, obs⟩ u w' :=
  post_pure (hm.congr h1 h2 h3) hv
theorem post_new (hm : MemRel w0 T0 E gs w) (hfr : E next = none) (hn1 : next ≠ 0) {cs : Array Value} {T : TypeId} {body : SBody} (hl : body.len ≤ cs.size) (hc : ∀ k, k < body.len → ∃ v, cs[k]? = some v ∧ RelC E (body.at k) v)
    {p : SC} {u : Value} (hp : RelC (upd E next (some (w.heap.size, 0, cs.size))) p u) {rd : List Nat} {obs : List Bool} :
    PostOp w0 T0 E gs next ⟨.c p, [(next, some ⟨true, true, body⟩)], next + 1, rd, obs⟩ u { w with heap := w.heap.push (.cells cs T) } := by
  refine ⟨_, Ext.upd _ hfr, fun i h => ?_, hp, hm.alloc hfr hl hc⟩
  by_cases e : i = next
  · subst e; exact .inr ⟨Nat.le_refl _, Nat.lt_succ_self _⟩
  · rw [upd_other _ _ e] at h; exact .inl h
theorem cells_hc {l : List SC} {vs : List Value} (hr : RelL E l vs) : (SBody.cells l).len ≤ vs.toArray.size ∧ ∀ k, k < (SBody.cells l).len → ∃ v, vs.toArray[k]? = some v ∧ RelC E ((SBody.cells l).at k) v := by
  refine ⟨by simp [SBody.len, hr.len], fun k hk => ?_⟩
  obtain ⟨v, h1, h2⟩ := hr.getD k hk
  exact ⟨v, by simpa using h1, h2⟩
theorem post_newP (hm : MemRel w0 T0 E gs w) (hfr : E next = none) (hn1 : next ≠ 0) {l : List SC} {v : Value} (hr : RelL E l v.cells.toList) (T : TypeId) :
    PostOp w0 T0 E gs next ⟨.c (.ptr next 0), [(next, some ⟨true, true, .cells l⟩)], next + 1, [], []⟩ (.pointer (some ⟨w.heap.size, 0, none⟩)) { w with heap := w.heap.push (.cells v.cells T) } := by
  have hc := cells_hc hr
  simp only [Array.toArray_toList] at hc
  exact post_new (p := .ptr next 0) hm hfr hn1 hc.1 hc.2 ⟨_, _, _, upd_same _ _ _, rfl⟩

theorem oPick_ok (hm : MemRel w0 T0 E gs w) {c : SC} {x y : Option SV} {e : Eff} (h : oPick next c x y = some e) {vc : Value} (hc : RelC E c vc) {vx vy : Value} (hx : ∀ s, x = some s → RelV E s vx) (hy : ∀ s, y = some s → RelV E s vy) :
    ∃ b, vc = .bool b ∧ PostOp w0 T0 E gs next e (if b then vx else vy) w := by
  unfold oPick at h
  split at h
  · obtain ⟨s, h1, h2⟩ := bindO_some h
    cases h2; cases hc
    exact ⟨true, rfl, post_pure hm (hx s h1)⟩
  · obtain ⟨s, h1, h2⟩ := bindO_some h
    cases h2; cases hc
    exact ⟨false, rfl, post_pure hm (hy s h1)⟩
  · obtain ⟨s, h1, h⟩ := bindO_some h
    obtain ⟨t, h2, h⟩ := bindO_some h
    cases h; cases hc
    refine ⟨_, rfl, post_pure hm (RelV.merge (fun e => ?_) (fun e => ?_))⟩
    · subst e; exact hx s h1
    · subst e; exact hy t h2
  · cases h

theorem fold_set (off : Nat) : ∀ (l : List Value) (n : Nat) (cs : Array Value), ((l.zipIdx n).foldl (fun cs p => cs.setIfInBounds (off + p.2) p.1) cs).size = cs.size ∧
    ∀ k, ((l.zipIdx n).foldl (fun cs p => cs.setIfInBounds (off + p.2) p.1) cs)[k]? = if off + n ≤ k ∧ k < off + n + l.length ∧ k < cs.size then l[k - (off + n)]? else cs[k]?
  | [], n, cs => ⟨rfl, fun k => by rw [if_neg (by simp; omega)]; rfl⟩
  | v :: l, n, cs => by
    have ih := fold_set off l (n + 1) (cs.setIfInBounds (off + n) v)
    simp only [List.zipIdx_cons, List.foldl_cons]
    refine ⟨by rw [ih.1]; simp, fun k => ?_⟩
    rw [ih.2 k]
    simp only [Array.size_setIfInBounds]
    by_cases h1 : off + (n + 1) ≤ k ∧ k < off + (n + 1) + l.length ∧ k < cs.size
    · rw [if_pos h1, if_pos (by simp; omega), show k - (off + n) = (k - (off + (n + 1))) + 1 by omega]; simp
    · rw [if_neg h1]
      by_cases h2 : k = off + n
      · subst h2
        by_cases h3 : off + n < cs.size
        · rw [if_pos (by simp; omega)]; simp [h3]
        · rw [if_neg (by omega)]
          simp [h3]
      · rw [if_neg (by simp; omega)]
        simp [Array.getElem?_setIfInBounds, Ne.symm h2]
theorem fill_ok (hT : ∀ t, RelV E (gt t) (a.tmps.getD t undef)) {pl : Nat → Option (Nat × Nat)} : ∀ {parts : List (Nat × Operand)} {l r : List SC} {cs : Array Value}, fillC pl gt l parts = some r → RelL E l cs.toList →
    ∃ cs', Instr.fill pl cs (parts.map fun (i, x) => (i, a.eval x)) = some cs' ∧ RelL E r cs'.toList
  | [], l, r, cs, h, hl => by cases h; exact ⟨cs, rfl, hl⟩
  | (i, x) :: parts, l, r, cs, h, hl => by
    simp only [fillC] at h
    split at h <;> try (cases h; done)
    rename_i o sz hpl
    split at h <;> try (cases h; done)
    rename_i new hnew
    split at h <;> try (cases h; done)
    rename_i hsz
    split at h <;> try (cases h; done)
    rename_i l' hl'
    have hn := evL_ok hT hnew
    have hlen := hn.len
    have hll := hl.len
    simp only [Bool.and_eq_true, beqN, Nat.ble_eq] at hsz
    obtain ⟨hsz, hroom⟩ := hsz
    simp only [Array.length_toList] at hlen hll
    simp only [List.map_cons, Instr.fill, hpl]
    · rw [if_neg (by simp; omega)]
      have hf := fold_set o (a.eval x).cells.toList 0 cs
      have hrw : (a.eval x).cells.zipIdx.foldl (fun cs p => cs.setIfInBounds (o + p.2) p.1) cs = ((a.eval x).cells.toList.zipIdx 0).foldl (fun cs p => cs.setIfInBounds (o + p.2) p.1) cs := by
        rw [← Array.foldl_toList]; simp
      have hfold : (Array.foldl (fun cs x => match x with | (c, j) => cs.setIfInBounds (o + j) c) cs (a.eval x).cells.zipIdx) = ((a.eval x).cells.toList.zipIdx 0).foldl (fun cs p => cs.setIfInBounds (o + p.2) p.1) cs := hrw
      rw [hfold]
      refine fill_ok hT h (RelL.of_getD (by rw [splice_len hl', hll]; simp [hf.1]) fun k hk => ?_)
      rw [splice_len hl'] at hk
      rw [splice_get hl', Array.getElem?_toList, hf.2 k]
      simp only [Array.length_toList, Nat.add_zero]
      by_cases hc : o ≤ k ∧ k < o + new.length
      · rw [if_pos hc, if_pos (by omega)]
        obtain ⟨u, h1, h2⟩ := hn.getD (k - o) (by omega)
        exact ⟨u, h1, h2⟩
      · rw [if_neg hc, if_neg (by omega)]
        obtain ⟨u, h1, h2⟩ := hl.getD k hk
        exact ⟨u, by simpa using h1, h2⟩
end

end Go.Proofs.Ytaoeigofmfpamaa
end

/- Each operation of the model does what the executor says, second part. Nothing is assumed. -/
section
namespace Go.Proofs.Ytaoeigofmfpamaa
open Go

section
variable {P : Program} {a : Act} {w0 w : World} {T0 : Nat → Nat → Prop} {E : EM} {gt : Nat → SV} {gs : Nat → Option Seg} {next : Nat}

theorem addr_add (b o j : Nat) : (⟨b, o, none⟩ : Addr).add j = ⟨b, o + j, none⟩ := by unfold Addr.add; split <;> simp [*]
theorem repL_len (z : List SC) : ∀ n, (repL z n).length = n * z.length
  | 0 => by simp [repL]
  | n + 1 => by simp [repL, repL_len z n, Nat.add_mul, Nat.add_comm]
theorem repL_get (z : List SC) : ∀ n k, k < n * z.length → (repL z n).getD k .any = z.getD (k % z.length) .any
  | 0, k, h => by simp at h
  | n + 1, k, h => by
    simp only [repL]
    by_cases hk : k < z.length
    · rw [Nat.mod_eq_of_lt hk]; simp [List.getD, List.getElem?_append_left hk]
    · have h0 : 0 < z.length := by
        rcases Nat.eq_zero_or_pos z.length with h0 | h0
        · rw [h0] at h; simp at h
        · exact h0
      have := repL_get z n (k - z.length) (by rw [Nat.add_mul] at h; omega)
      rw [show (z ++ repL z n).getD k .any = (repL z n).getD (k - z.length) .any by simp [List.getD, List.getElem?_append_right (Nat.le_of_not_lt hk)], this]
      rw [← Nat.mod_eq_sub_mod (Nat.le_of_not_lt hk)]
theorem zeros_ok {z : List SC} {vs : Array Value} (hz : RelL E z vs.toList) (n : Nat) : RelL E (repL z n) ((Array.range (n * z.length)).map (vs[· % vs.size]!)).toList := by
  have hlen := hz.len
  simp only [Array.length_toList] at hlen
  refine RelL.of_getD (by simp [repL_len]) fun k hk => ?_
  rw [repL_len] at hk
  rw [repL_get z n k hk]
  have h0 : 0 < z.length := by
    rcases Nat.eq_zero_or_pos z.length with h0 | h0
    · rw [h0] at hk; simp at hk
    · exact h0
  obtain ⟨v, h1, h2⟩ := hz.getD (k % z.length) (Nat.mod_lt _ h0)
  refine ⟨v, ?_, h2⟩
  simp only [Array.toList_map, Array.toList_range, List.getElem?_map, List.getElem?_range hk, Option.map_some, Option.some.injEq]
  rw [← hlen]
  rw [Array.getElem?_toList] at h1
  rw [getElem!_def, h1]

theorem oAlloc_ok (hm : MemRel w0 T0 E gs w) (h1 : next ≠ 0) {t : TypeId} {e : Eff} (h : oAlloc next (tzero P t) (tsize P t) = some e) (hfr : ∀ i, next ≤ i → i < e.next → E i = none) (old : Value) :
    NextOK P ((do pure (Next.value (← Instr.alloc t true old)) : Sem Next).run P w) (PostOp w0 T0 E gs next e) := by
  unfold oAlloc at h
  obtain ⟨z, hz, h⟩ := bindO_some h
  obtain ⟨n, hn, h⟩ := bindO_some h
  split at h <;> cases h
  obtain ⟨v, hv, hr, _⟩ := rZero (P := P) (w := w) (E := E) hz
  refine next_v (v := .pointer (some ⟨w.heap.size, 0, none⟩)) (w' := { w with heap := w.heap.push (.cells v.cells t) }) ?_ (post_newP hm (hfr next (Nat.le_refl _) (Nat.lt_succ_self _)) h1 hr t)
  simp [Instr.alloc, hv, newVar, newRow]

theorem oBox_ok (hm : MemRel w0 T0 E gs w) (h1 : next ≠ 0) {t : TypeId} {v : Value} {l : List SC} (hr : RelL E l v.cells.toList) {e : Eff} (h : newE next (.ptr next 0) l = some e) (hfr : ∀ i, next ≤ i → i < e.next → E i = none) :
    NextOK P ((do pure (Next.value (← Instr.box t v)) : Sem Next).run P w) (PostOp w0 T0 E gs next e) := by
  cases h
  refine next_v (v := .pointer (some ⟨w.heap.size, 0, none⟩)) (w' := { w with heap := w.heap.push (.cells v.cells t) }) ?_ (post_newP hm (hfr next (Nat.le_refl _) (Nat.lt_succ_self _)) h1 hr t)
  simp [Instr.box, newVar, newRow]

theorem oBuild_ok (hm : MemRel w0 T0 E gs w) (hT : ∀ t, RelV E (gt t) (a.tmps.getD t undef)) {t : TypeId} {parts : Array (Nat × Operand)} {z : List SC} (hz : tzero P t = some z) {e : Eff} (h : oBuild P gt next z (P.underlying t) parts.toList = some e) :
    NextOK P ((do pure (Next.value (← Instr.build t (parts.map fun (i, x) => (i, a.eval x)))) : Sem Next).run P w) (PostOp w0 T0 E gs next e) := by
  obtain ⟨v, hv, hr, it, hit, hiz⟩ := rZero (P := P) (w := w) (E := E) hz
  unfold oBuild at h
  split at h
  · rename_i fs hu
    obtain ⟨pl, hpl, h⟩ := bindO_some h
    obtain ⟨l, hl, h⟩ := bindO_some h
    cases h
    obtain ⟨cs, hf, hrc⟩ := fill_ok hT hl hr
    refine next_v (v := .agg cs) (w' := w) (run_build w t _ cs ?_) (post_pure (v := .a l) hm ⟨cs, rfl, hrc⟩)
    unfold Program.built
    simp only [hit, hu, hiz, hpl]
    simpa using hf
  · rename_i n el hu
    obtain ⟨s, hs, h⟩ := bindO_some h
    obtain ⟨l, hl, h⟩ := bindO_some h
    cases h
    obtain ⟨ie, hie, rfl⟩ := info_of_size hs
    obtain ⟨cs, hf, hrc⟩ := fill_ok hT hl hr
    refine next_v (v := .agg cs) (w' := w) (run_build w t _ cs ?_) (post_pure (v := .a l) hm ⟨cs, rfl, hrc⟩)
    unfold Program.built
    simp only [hit, hu, hiz, hie]
    simpa using hf
  · cases h

theorem telem_und {t e : TypeId} (h : telem P t = some e) : P.underlying t = some (.slice e) := by
  unfold telem at h
  split at h
  · rename_i e' hu; cases h; exact hu
  · cases h
theorem new_slice {es n c : Nat} {l : List SC} {cs : Array Value} {T : TypeId} (hm : MemRel w0 T0 E gs w) (hfr : E next = none) (h1 : next ≠ 0) (hl : l.length ≤ cs.size) (hc : ∀ k, k < l.length → ∃ v, cs[k]? = some v ∧ RelC E (l.getD k .any) v) (hn : n ≤ c) (hz : c * es = cs.size) {len : SI} (hlen : len.val = (n : Nat)) {rd : List Nat} {obs : List Bool} :
    PostOp w0 T0 E gs next ⟨.c (.sl next 0 es len true), [(next, some ⟨true, true, .cells l⟩)], next + 1, rd, obs⟩ (.slice (some ⟨w.heap.size, 0, none⟩) n c) { w with heap := w.heap.push (.cells cs T) } :=
  post_new (body := .cells l) (p := .sl next 0 es len true) hm hfr h1 hl hc (by
    refine ⟨some ⟨w.heap.size, 0, none⟩, n, c, rfl, hlen, hn, fun e => (by cases e), fun a ha => ?_⟩
    cases ha
    exact ⟨h1, _, _, _, upd_same _ _ _, fun _ => rfl, fun _ => by rw [Nat.zero_add]; exact hz⟩)
theorem oBuildSlice_ok (hm : MemRel w0 T0 E gs w) (h1 : next ≠ 0) (hT : ∀ t, RelV E (gt t) (a.tmps.getD t undef)) {t el : TypeId} {len : Nat} {parts : Array (Nat × Operand)} (hel : telem P t = some el) {e : Eff} (h : oBuildSlice P gt next el len parts.toList = some e)
    (hfr : ∀ i, next ≤ i → i < e.next → E i = none) :
    NextOK P ((do pure (Next.value (← Instr.buildSlice t len (parts.map fun (i, x) => (i, a.eval x)))) : Sem Next).run P w) (PostOp w0 T0 E gs next e) := by
  unfold oBuildSlice at h
  obtain ⟨s, hs, h⟩ := bindO_some h
  obtain ⟨z, hz, h⟩ := bindO_some h
  split at h <;> try (cases h; done)
  rename_i hb
  obtain ⟨l, hl, h⟩ := bindO_some h
  cases h
  simp only [Bool.and_eq_true, Nat.ble_eq, beqN] at hb
  obtain ⟨⟨hb1, hb2⟩, hb3⟩ := hb
  obtain ⟨v, hv, hr, _⟩ := rZero (P := P) (w := w) (E := E) hz
  have hzr := zeros_ok hr len
  have hvs : v.cells.size = s := by have := hr.len; simp at this; omega
  rw [hb2] at hzr
  obtain ⟨cs, hf, hrc⟩ := fill_ok hT hl hzr
  have hcs := hrc.len
  simp only [Array.length_toList] at hcs
  have hcsz : cs.size = len * s := by
    have h2 := RelL.len hzr
    have hlen : l.length = (repL z len).length := by
      have : ∀ (ps : List (Nat × Operand)) (l0 r0 : List SC), fillC (fun i => some (i * s, s)) gt l0 ps = some r0 → r0.length = l0.length := by
        intro ps
        induction ps with
        | nil => intro l0 r0 h0; cases h0; rfl
        | cons p ps ih =>
          intro l0 r0 h0
          obtain ⟨i, x⟩ := p
          simp only [fillC] at h0
          split at h0 <;> try (cases h0; done)
          split at h0 <;> try (cases h0; done)
          split at h0 <;> try (cases h0; done)
          rename_i l1 hl1
          rw [ih _ _ h0, splice_len hl1]
      exact this _ _ _ hl
    rw [← hcs, hlen, repL_len, hb2]
  refine next_v (v := .slice (some ⟨w.heap.size, 0, none⟩) len len) (w' := { w with heap := w.heap.push (.cells cs el) }) ?_
    (new_slice hm (hfr next (Nat.le_refl _) (Nat.lt_succ_self _)) h1 (by omega) (fun k hk => ?_) (Nat.le_refl _) hcsz.symm rfl)
  · have hle : ¬ 16777216 < len * s := by omega
    have h24 : ¬ len * s > 2 ^ 24 := by simpa using hle
    simp only [Instr.buildSlice, Sem.run_bind, run_underlying (telem_und hel), Result.andThen_ok, rSize hs, h24, if_false]
    have hps : (parts.map fun (i, x) => (i, a.eval x)).toList = parts.toList.map fun (i, x) => (i, a.eval x) := by simp
    by_cases h0 : len * s = 0
    · have e0 : Array.range 0 = #[] := rfl
      have em : ∀ f : Nat → Value, Array.map f #[] = #[] := fun f => by simp
      rw [h0, e0, em] at hf
      simp only [h0, if_true, Sem.run_pure, Result.andThen_ok, hps, e0, em, hf, newRow, Sem.run_bind, run_newObj]
    · rw [if_neg h0]
      simp only [Sem.run_bind, hv, Result.andThen_ok, Sem.run_pure, hps, hf, newRow, run_newObj]
  · obtain ⟨u, g1, g2⟩ := hrc.getD k hk
    exact ⟨u, by simpa using g1, g2⟩

theorem oLoad_ok (hm : MemRel w0 T0 E gs w) {t : TypeId} {p : SC} {v : Value} (hv : RelC E p v) {e : Eff} (h : oLoad P gs next t p = some e) (hob : AllT e.obs) :
    NextOK P ((do pure (Next.value (← Instr.loadAt t v)) : Sem Next).run P w) (PostOp w0 T0 E gs next e) := by
  unfold oLoad at h
  obtain ⟨i, hi, h⟩ := bindO_some h
  obtain ⟨g, hg, h⟩ := bindO_some h
  obtain ⟨n, hn, h⟩ := bindO_some h
  obtain ⟨ag, hag, h⟩ := bindO_some h
  obtain ⟨r, hr, h⟩ := bindO_some h
  obtain ⟨s, hs, h⟩ := bindO_some h
  cases h
  obtain ⟨b, o', rfl, vs, hlen, hrel, hcell⟩ := sLoad_ok hm hg hi hv hr hob
  have hla : (loadCells ⟨b, o', none⟩ n).run P w = .ok vs.toArray w := by
    rw [← hlen]
    exact run_loadCells_list w _ vs fun j u hj => by
      have hjl : j < vs.length := by
        rcases Nat.lt_or_ge j vs.length with h' | h'
        · exact h'
        · rw [List.getElem?_eq_none h'] at hj; cases hj
      rw [addr_add, hcell j (by omega)]; exact hj
  cases ag with
  | true =>
    refine next_v (v := .agg vs.toArray) (w' := w) ?_ (post_pure hm (ofCells_agg hs hrel))
    simp [Instr.loadAt, Instr.sureAddr, loadVar, rAgg hag, rSize hn, hla]
  | false =>
    obtain ⟨u, rfl, hu⟩ := ofCells_one hs hrel
    refine next_v (v := u) (w' := w) ?_ (post_pure hm hu)
    have hc := hcell 0 (by simp at hlen; omega)
    simp only [Nat.add_zero] at hc
    simp [Instr.loadAt, Instr.sureAddr, loadVar, rAgg hag, hc]

theorem updSs_one (i : Nat) (v : Option Seg) : updSs gs [(i, v)] = upd gs i v := rfl
theorem oStore_ok (hm : MemRel w0 T0 E gs w) {t : TypeId} {p : SC} {v : Value} (hv : RelC E p v) {x : Option (List SC)} {u : Value} (hx : ∀ l, x = some l → RelL E l u.cells.toList) {e : Eff} (h : oStore P gs next t p x = some e) (hob : AllT e.obs) :
    NextOK P ((do Instr.storeAt t v u; pure Next.skip : Sem Next).run P w) (PostOp w0 T0 E gs next e) := by
  unfold oStore at h
  obtain ⟨i, hi, h⟩ := bindO_some h
  obtain ⟨g, hg, h⟩ := bindO_some h
  obtain ⟨n, hn, h⟩ := bindO_some h
  obtain ⟨l, hl, h⟩ := bindO_some h
  split at h <;> try (cases h; done)
  rename_i hrw
  unfold oStore2 at h
  split at h <;> try (cases h; done)
  rename_i hln
  obtain ⟨r, hr, h⟩ := bindO_some h
  cases h
  rw [beqN] at hln
  have hul := hx l hl
  have hlen := hul.len
  simp only [Array.length_toList] at hlen
  obtain ⟨b, o', rfl, w', hrun, hm'⟩ := sStore_ok hm hg hrw hi hv hul (show sStore g.body p l = some (r.1, r.2) from hr) hob P
  refine next_u (w' := w') ?_ ⟨E, Ext.refl E, fun i h => .inl h, rfl, hm'⟩
  have hsz : u.cells.size = n := by omega
  simp [Instr.storeAt, Instr.sureAddr, storeVar, rSize hn, hsz, hrun]

theorem oLoadH_some {t : TypeId} {hint : Option (List SC)} {p : SC} {e : Eff} (h : oLoadH P gs next t hint p = some e) (hob : AllT e.obs) : ∃ ob, oLoad P gs next t p = some ⟨e.val, e.ws, e.next, e.rd, ob⟩ ∧ AllT ob := by
  unfold oLoadH at h
  split at h
  · exact ⟨e.obs, h, hob⟩
  · rename_i l
    split at h <;> try (cases h; done)
    rename_i id st idx
    obtain ⟨g, hg, h⟩ := bindO_some h
    obtain ⟨n, hn, h⟩ := bindO_some h
    obtain ⟨ag, hag, h⟩ := bindO_some h
    obtain ⟨b, hb, h⟩ := bindO_some h
    split at h <;> try (cases h; done)
    rename_i hc
    obtain ⟨v, hv, h⟩ := bindO_some h
    cases h
    simp only [Bool.and_eq_true, beqN] at hc
    obtain ⟨c1, c2, c3⟩ := hc
    subst c2
    obtain ⟨grw, gown, body⟩ := g
    cases body with
    | cells _ => cases hb
    | rows st' n' row =>
      cases hb
      simp only at c1
      subst c1
      have h1 := hob.head
      have h2 := hob.tail.head
      have h3 : row idx = l := @of_decide_eq_true _ (Classical.propDecidable _) h2
      refine ⟨[decide (0 ≤ idx ∧ idx < n')], ?_, fun b hb => by simp only [List.mem_singleton] at hb; subst hb; exact h1⟩
      unfold oLoad
      show bindO (gs id) _ = _
      rw [hg]
      show bindO (tsize P t) _ = _
      rw [hn]
      show bindO (tagg P t) _ = _
      rw [hag]
      have hp : part (row idx) 0 st' = some l := by
        rw [h3]
        have : ∀ (l : List SC), takeL l l.length = some l := by
          intro l
          induction l with
          | nil => rfl
          | cons x l ih =>
            show (Option.rec none (fun r => some (x :: r)) (takeL l l.length) : Option (List SC)) = _
            rw [ih]
        show takeL (dropL l 0) st' = some l
        have hd : dropL l 0 = l := by cases l <;> rfl
        rw [hd, ← c3]; exact this l
      have hs : sLoad (.rows st' n' row) (.ptrr id 0 st' idx) st' = some (l, [decide (0 ≤ idx ∧ idx < n')]) := by
        simp only [sLoad]
        have hcc : (Nat.beq st' st' && Nat.ble (0 + st') st') = true := by
          rw [Bool.and_eq_true, beqN, Nat.ble_eq]; omega
        rw [hcc]
        simp only
        rw [hp]
      show bindO (sLoad (.rows st' n' row) (.ptrr id 0 st' idx) st') _ = _
      rw [hs]
      show bindO (ofCells ag l) _ = _
      rw [hv]; rfl
theorem oStoreH_ok (hm : MemRel w0 T0 E gs w) {t : TypeId} {hint : Option (List SC)} {p : SC} {v : Value} (hv : RelC E p v) {x : Option (List SC)} {u : Value} (hx : ∀ l, x = some l → RelL E l u.cells.toList) {e : Eff} (h : oStoreH P gs next t hint p x = some e) (hob : AllT e.obs) :
    NextOK P ((do Instr.storeAt t v u; pure Next.skip : Sem Next).run P w) (PostOp w0 T0 E gs next e) := by
  unfold oStoreH at h
  split at h
  · exact oStore_ok hm hv hx h hob
  · split at h <;> try (cases h; done)
    rename_i id st idx
    obtain ⟨g, hg, h⟩ := bindO_some h
    obtain ⟨n, hn, h⟩ := bindO_some h
    obtain ⟨l, hl, h⟩ := bindO_some h
    split at h <;> try (cases h; done)
    rename_i hrw
    obtain ⟨b, hb, h⟩ := bindO_some h
    split at h <;> try (cases h; done)
    rename_i hc
    cases h
    simp only [Bool.and_eq_true, beqN] at hc
    obtain ⟨c1, c2, c3⟩ := hc
    subst c2
    have hbd := hob.head
    simp only [decide_eq_true_eq] at hbd
    have hul := hx l hl
    have hlen := hul.len
    simp only [Array.length_toList] at hlen
    cases hbody : g.body with
    | cells _ => rw [hbody] at hb; cases hb
    | rows st' n' row =>
      rw [hbody] at hb; cases hb
      simp only at c1
      subst c1
      obtain ⟨b, o', rfl, w', hrun, hm'⟩ := sStoreH_ok hm hg hrw hbody hv hul c3 hbd P
      refine next_u (w' := w') ?_ ⟨E, Ext.refl E, fun i h => .inl h, rfl, hm'⟩
      have hsz : u.cells.size = st' := by omega
      simp [Instr.storeAt, Instr.sureAddr, storeVar, rSize hn, hsz, hrun]

/-! arithmetic -/
theorem eqGuard_ok (op : BinOp) (t : TypeId) (x y : Operand) {u v : Value} (hu : u.oneCell' = true) (hn : u ≠ .nilIface) : (eqGuard op t x y u v).run P w = .ok () w := by
  unfold eqGuard
  cases op <;> first
    | (simp; done)
    | (cases u <;> first
        | (simp [Value.oneCell'] at hu; done)
        | (simp at hn; done)
        | simp)

theorem cmpI_val {op : BinOp} (hc : isCmp op = true) (k : IntKind) (t : TypeId) (m n : Int) : ∃ b, cmpI op m n = some b ∧ (binOp op t (.int k m) (.int k n)).run P w = .ok (.bool b) w := by
  cases op <;> simp [isCmp] at hc <;> simp [cmpI, binOp, Op.intCmp] <;> first | rfl | skip
  all_goals first | (by_cases h : m = n <;> simp [h]; done) | skip
theorem sInt_ok {op : BinOp} {k : IntKind} {x y : SI} {r : SC} {ob : List Bool} (h : sInt op k x y = some (r, ob)) (hs : isShift op = false) (hob : AllT ob) (t : TypeId) :
    ∃ v, (binOp op t (.int k x.val) (.int k y.val)).run P w = .ok v w ∧ RelC E r v := by
  have div : ∀ m n : Int, isCmp op = false → isAri op = false → divS op k m n = some (r, ob) → ∃ v, (binOp op t (.int k m) (.int k n)).run P w = .ok v w ∧ RelC E r v := by
    intro m n h1 h2 hd
    unfold divS at hd
    split at hd <;> cases hd
    · have := hob.head; simp at this
      exact ⟨_, by simp [binOp, Op.intDiv, this, SI.val], rfl⟩
    · have := hob.head; simp at this
      exact ⟨_, by simp [binOp, Op.intDiv, this, SI.val], rfl⟩
    · exact ⟨.int k (andI k m n), by simp [binOp, Op.intBits, andI], rfl⟩
    · exact ⟨.int k (orI k m n), by simp [binOp, Op.intBits, orI], rfl⟩
  have ari : ∀ m n q : Int, ariI op k m n = some q → (binOp op t (.int k m) (.int k n)).run P w = .ok (.int k q) w := by
    intro m n q hq
    unfold ariI at hq
    split at hq <;> cases hq <;> simp [binOp, Op.intArith]
  unfold sInt at h
  split at h
  · rename_i m n
    split at h
    · rename_i hc
      obtain ⟨b, hb, hrun⟩ := cmpI_val (P := P) (w := w) hc k t m n
      rw [hb] at h
      cases b <;> cases h <;> exact ⟨_, hrun, rfl⟩
    · split at h
      · cases hq : ariI op k m n with
        | none => rw [hq] at h; cases h
        | some q => rw [hq] at h; cases h; exact ⟨_, ari _ _ _ hq, rfl⟩
      · rename_i h1 _ h2; exact div _ _ h1 h2 h
  · split at h
    · rename_i hc
      obtain ⟨b, hb, hrun⟩ := cmpI_val (P := P) (w := w) hc k t x.val y.val
      rw [hb] at h
      cases h; exact ⟨_, hrun, rfl⟩
    · split at h
      · cases hq : ariI op k x.val y.val with
        | none => rw [hq] at h; cases h
        | some q => rw [hq] at h; cases h; exact ⟨_, ari _ _ _ hq, rfl⟩
      · rename_i h1 _ h2; exact div _ _ h1 h2 h
theorem sShift_ok {op : BinOp} {k k' : IntKind} {x : SI} {n : Nat} {r : SC} {ob : List Bool} (h : sShift op k x n = some (r, ob)) (hs : isShift op = true) (t : TypeId) :
    ∃ v, (binOp op t (.int k x.val) (.int k' n)).run P w = .ok v w ∧ RelC E r v := by
  have hn : ¬ ((n : Int) < 0) := by omega
  cases op <;> simp [isShift] at hs <;> cases x <;> cases h <;> exact ⟨_, by simp [binOp, Op.shift, hn, SI.val], rfl⟩
theorem run_neq_bool' {t : TypeId} (hu : P.underlying t = some .bool) (b c : Bool) : (binOp .neq t (.bool b) (.bool c)).run P w = .ok (.bool (!(b == c))) w := by
  have h := run_eql_bool w t b c hu
  simp only [binOp, Sem.run_bind] at h ⊢
  cases hr : (Op.equal t (.bool b) (.bool c)).run P w with
  | halt x w' => rw [hr] at h; simp at h
  | ok x w' => rw [hr] at h; simp at h ⊢; obtain ⟨h1, h2⟩ := h; simp [h1, h2]
theorem sBin_ok {op : BinOp} {x y r : SC} {ob : List Bool} {t : TypeId} (h : sBin fops (tbool P t) op x y = some (r, ob)) (hob : AllT ob) {u v : Value} (hu : RelC E x u) (hv : RelC E y v) (ox oy : Operand) :
    ∃ q w', (do eqGuard op t ox oy u v; binOp op t u v : Sem Value).run P w = .ok q w' ∧ RelC E r q ∧ w'.heap = w.heap ∧ w'.os = w.os ∧ w'.output = w.output := by
  have fin : ∀ {q : Value} {w' : World}, u ≠ .nilIface → (binOp op t u v).run P w = .ok q w' → (do eqGuard op t ox oy u v; binOp op t u v : Sem Value).run P w = .ok q w' := by
    intro q w' hn hr
    simp only [Sem.run_bind, eqGuard_ok op t ox oy hu.one hn, Result.andThen_ok]
    exact hr
  cases x <;> cases y <;> first | (cases h; done) | skip
  · -- two truth values
    rename_i b c
    cases hu; cases hv
    have h' : sBool (tbool P t) op b.val c.val = some (r, ob) := h
    unfold sBool at h'
    split at h' <;> try (cases h'; done)
    rename_i htb
    have hu : P.underlying t = some .bool := by
      unfold tbool at htb
      split at htb
      · assumption
      · cases htb
    split at h' <;> cases h'
    · exact ⟨_, w, fin (by simp) (run_eql_bool w t _ _ hu), rfl, rfl, rfl, rfl⟩
    · exact ⟨_, w, fin (by simp) (run_neq_bool' hu _ _), rfl, rfl, rfl, rfl⟩
  · rename_i k m k' n
    cases hu; cases hv
    have h' : sIntK op k k' m n = some (r, ob) := h
    unfold sIntK at h'
    split at h'
    · rename_i hs
      split at h' <;> try (cases h'; done)
      rename_i n'
      obtain ⟨q, hq, hr⟩ := sShift_ok (P := P) (w := w) (E := E) (k' := k') h' hs t
      exact ⟨q, w, fin (by simp) hq, hr, rfl, rfl, rfl⟩
    · rename_i hs
      split at h' <;> try (cases h'; done)
      rename_i hk
      simp only [decide_eq_true_eq] at hk
      subst hk
      obtain ⟨q, hq, hr⟩ := sInt_ok (P := P) (w := w) (E := E) h' hs hob t
      exact ⟨q, w, fin (by simp) hq, hr, rfl, rfl, rfl⟩
  · rename_i k m k' n
    have h' : sFltK fops op k k' m n = some (r, ob) := h
    unfold sFltK at h'
    split at h' <;> try (cases h'; done)
    rename_i hk
    simp only [decide_eq_true_eq] at hk
    subst hk
    have hne : u ≠ .nilIface := by obtain ⟨q, rfl, _⟩ := hu; simp
    unfold sFlt at h'
    split at h'
    · rename_i hop
      cases h'
      obtain ⟨q, w', h1, h2, h3, h4, h5⟩ := FR.bin hop hu hv P t w
      exact ⟨q, w', fin hne h1, h2, h3, h4, h5⟩
    · rename_i hop
      split at h' <;> try (cases h'; done)
      rename_i hc
      cases h'
      exact ⟨_, w, fin hne (FR.cmp hop hc hu hv P t w), rfl, rfl, rfl, rfl⟩
  · rename_i s q
    cases hu; cases hv
    have h' : sStr op s q = some (r, ob) := h
    cases op <;> simp [sStr] at h' <;> obtain ⟨rfl, rfl⟩ := h'
    · have := hob.head
      simp only [decide_eq_true_eq] at this
      refine ⟨.string (s ++ q), w, fin (by simp) ?_, rfl, rfl, rfl, rfl⟩
      have hmax : ¬ ((((s.size + q.size : Nat)) : Int) > IntKind.i64.max) := by
        rw [IntKind.max_i64]; omega
      simp only [binOp, Op.stringOp, hmax, if_false]
      rfl
    · exact ⟨_, w, fin (by simp) (by simp [binOp, Op.stringOp, SB.val]), rfl, rfl, rfl, rfl⟩
    · exact ⟨_, w, fin (by simp) (by simp [binOp, Op.stringOp, SB.val]), rfl, rfl, rfl, rfl⟩
theorem SB.not_val (b : SB) : b.not.val = !b.val := by cases b <;> rfl
theorem sUn_ok {op : UnOp} {x r : SC} (h : sUn fops op x = some r) {u : Value} (hu : RelC E x u) : ∃ q, (Op.unary op u).run P w = .ok q w ∧ RelC E r q := by
  cases x <;> first | (simp [sUn] at h; done) | skip
  · rename_i b
    cases hu
    cases op <;> simp [sUn] at h
    subst h
    exact ⟨.bool (!b.val), by simp [Op.unary], by simp [RelC, SB.not_val]⟩
  · rename_i k n
    cases hu
    cases n <;> rename_i n <;> cases op <;> simp [sUn] at h <;> subst h <;> exact ⟨.int k (k.wrap (0 - n)), by simp [Op.unary, Op.intArith, SI.val], by simp [RelC, SI.val]⟩
  · cases op <;> simp [sUn] at h
    subst h
    obtain ⟨q, h1, h2⟩ := FR.neg hu P w
    exact ⟨q, h1, h2⟩
theorem conv_int_int {s d : TypeId} {su : TypeDesc} {k k' : IntKind} {n : Int} (hs : P.underlying s = some su) (hd : P.underlying d = some (.int k')) : (convert s d (.int k n)).run P w = .ok (.int k' (k'.wrap n)) w := by
  unfold convert
  simp only [Sem.run_bind, run_underlying hs, run_underlying hd, Result.andThen_ok] <;> (cases su <;> rfl)
theorem conv_int_flt {s d : TypeId} {su : TypeDesc} {k : IntKind} {k' : FloatKind} {n : Int} (hs : P.underlying s = some su) (hd : P.underlying d = some (.float k')) : (convert s d (.int k n)).run P w = .ok (.float k' (k'.nearest n)) w := by
  unfold convert
  simp only [Sem.run_bind, run_underlying hs, run_underlying hd, Result.andThen_ok] <;> (cases su <;> rfl)
theorem conv_flt_int {s d : TypeId} {su : TypeDesc} {k : FloatKind} {k' : IntKind} {n : Nat} (hs : P.underlying s = some su) (hd : P.underlying d = some (.int k')) : (convert s d (.float k n)).run P w = (Conv.floatToInt k n k').run P w := by
  unfold convert
  simp only [Sem.run_bind, run_underlying hs, run_underlying hd, Result.andThen_ok] <;> (cases su <;> rfl)
theorem conv_flt_flt {s d : TypeId} {su : TypeDesc} {k k' : FloatKind} {n : Nat} (hs : P.underlying s = some su) (hd : P.underlying d = some (.float k')) : (convert s d (.float k n)).run P w = (Conv.floatToFloat k n k').run P w := by
  unfold convert
  simp only [Sem.run_bind, run_underlying hs, run_underlying hd, Result.andThen_ok] <;> (cases su <;> rfl)
theorem conv_str_str {s d : TypeId} {su : TypeDesc} {n : ByteArray} (hs : P.underlying s = some su) (hd : P.underlying d = some .string) : (convert s d (.string n)).run P w = .ok (.string n) w := by
  unfold convert
  simp only [Sem.run_bind, run_underlying hs, run_underlying hd, Result.andThen_ok] <;> (cases su <;> rfl)
theorem sConv_ok {s d : TypeId} {su du : TypeDesc} (hs : P.underlying s = some su) (hd : P.underlying d = some du) {x r : SC} {ob : List Bool} (h : sConv fops du x = some (r, ob)) (hob : AllT ob) {u : Value} (hu : RelC E x u) :
    ∃ q w', (convert s d u).run P w = .ok q w' ∧ RelC E r q ∧ w'.heap = w.heap ∧ w'.os = w.os ∧ w'.output = w.output := by
  cases x <;> first | (simp [sConv] at h; done) | skip
  · rename_i k n
    cases hu
    cases n <;> cases du <;> simp [sConv] at h <;> obtain ⟨rfl, rfl⟩ := h
    · exact ⟨_, w, conv_int_int hs hd, rfl, rfl, rfl, rfl⟩
    · exact ⟨_, w, conv_int_flt hs hd, FR.ofInt _ _, rfl, rfl, rfl⟩
    · exact ⟨_, w, conv_int_int hs hd, rfl, rfl, rfl, rfl⟩
    · exact ⟨_, w, conv_int_flt hs hd, FR.ofInt _ _, rfl, rfl, rfl⟩
  · rename_i k n
    obtain ⟨q, rfl, hq⟩ := hu
    cases du <;> simp only [sConv] at h <;> try (cases h; done)
    · cases h
      exact ⟨_, w, (conv_flt_int hs hd).trans (FR.toInt ⟨q, rfl, hq⟩ hob.head P w), rfl, rfl, rfl, rfl⟩
    · rename_i k'
      split at h
      · rename_i hk
        cases h
        simp only [decide_eq_true_eq] at hk
        subst hk
        exact ⟨.float k q, w, (conv_flt_flt hs hd).trans (by simp [Conv.floatToFloat]), ⟨q, rfl, hq⟩, rfl, rfl, rfl⟩
      · rename_i hk
        simp only [decide_eq_false_iff_not] at hk
        cases k with
        | f32 =>
          cases h
          have hk64 : k' = .f64 := by cases k' <;> first | rfl | exact absurd rfl hk
          subst hk64
          obtain ⟨r, w', h1, h2, h3, h4, h5⟩ := FR.conv hk ⟨q, rfl, hq⟩ (conv_ok _) P w rfl
          exact ⟨r, w', (conv_flt_flt hs hd).trans h1, h2, h3, h4, h5⟩
        | f64 =>
          cases h
          obtain ⟨r, w', h1, h2, h3, h4, h5⟩ := FR.conv hk ⟨q, rfl, hq⟩ hob.head P w rfl
          exact ⟨r, w', (conv_flt_flt hs hd).trans h1, h2, h3, h4, h5⟩
  · cases hu
    cases du <;> simp [sConv] at h
    obtain ⟨rfl, rfl⟩ := h
    exact ⟨_, w, conv_str_str hs hd, rfl, rfl, rfl, rfl⟩
end

end Go.Proofs.Ytaoeigofmfpamaa
end

/- Each operation of the model does what the executor says, third part. Nothing is assumed. -/
section
namespace Go.Proofs.Ytaoeigofmfpamaa
open Go

section
variable {P : Program} {a : Act} {w0 w : World} {T0 : Nat → Nat → Prop} {E : EM} {gt : Nat → SV} {gs : Nat → Option Seg} {next : Nat}

theorem oFieldAddr_ok (hm : MemRel w0 T0 E gs w) {s : TypeId} {p : SC} {v : Value} (hv : RelC E p v) {f : Nat} {e : Eff} (h : oFieldAddr P next (P.underlying s) p f = some e) :
    NextOK P ((do pure (Next.value (← Instr.fieldAt s v f)) : Sem Next).run P w) (PostOp w0 T0 E gs next e) := by
  unfold oFieldAddr at h
  split at h <;> try (cases h; done)
  rename_i fs hu
  obtain ⟨⟨o, n⟩, hpl, h⟩ := bindO_some h
  split at h <;> try (cases h; done)
  rename_i n' hn
  simp only at hn
  subst hn
  obtain ⟨c, hc, h⟩ := bindO_some h
  cases h
  unfold fieldPl at hpl
  split at hpl <;> try (cases hpl; done)
  rename_i fd hfd
  split at hpl <;> cases hpl
  rename_i hsz
  have run : ∀ b q, v = .pointer (some ⟨b, q, none⟩) → (Instr.fieldAt s v f).run P w = .ok (.pointer (some ⟨b, q + fd.offset, none⟩)) w := by
    intro b q hq
    subst hq
    simp [Instr.fieldAt, run_underlying hu, hfd, Instr.sureAddr, fieldPlace, rSize hsz, addr_add]
  cases p <;> simp only [addOff, Option.some.injEq] at hc <;> try (cases hc; done)
  · subst hc
    obtain ⟨b, q, z, hE, rfl⟩ := hv
    exact next_v (run _ _ rfl) (post_pure hm (v := .c (.ptr _ _)) ⟨b, q, z, hE, by rw [Nat.add_assoc]⟩)
  · subst hc
    obtain ⟨b, q, z, hE, i, hi, hlt, rfl⟩ := hv
    exact next_v (run _ _ rfl) (post_pure hm (v := .c (.ptrx _ _ _ _ _)) ⟨b, q, z, hE, i, hi, hlt, by congr 3; omega⟩)
  · subst hc
    obtain ⟨b, q, z, hE, i, hi, rfl⟩ := hv
    exact next_v (run _ _ rfl) (post_pure hm (v := .c (.ptrr _ _ _ _)) ⟨b, q, z, hE, i, hi, by congr 3; omega⟩)

theorem part_ok {t : TypeId} {n : Nat} {ag : Bool} (hn : tsize P t = some n) (hag : tagg P t = some ag) {l r : List SC} {cs : Array Value} (hr : RelL E l cs.toList) {o : Nat} (hp : Proofs.Ytaoeigofmfpamaa.part l o n = some r) {v : SV} (hv : ofCells ag r = some v) :
    ∃ u, (Go.part t cs o).run P w = .ok u w ∧ RelV E v u := by
  have h := hr.part hp
  cases ag with
  | true =>
    refine ⟨.agg (cs.extract o (o + n)), by simp [Go.part, rAgg hag, rSize hn], ?_⟩
    have e : (cs.extract o (o + n)) = ((cs.toList.drop o).take n).toArray := by
      apply Array.toList_inj.1
      simp [Array.toList_extract, List.extract_eq_take_drop]
    rw [e]; exact ofCells_agg hv h.1
  | false =>
    obtain ⟨u, hu, hvu⟩ := ofCells_one hv h.1
    have hn1 : n = 1 := by
      have := h.1.len; rw [hu] at this; rw [← h.2]; simpa using this
    subst hn1
    have hget : cs[o]? = some u := by
      have : ((cs.toList.drop o).take 1)[0]? = some u := by rw [hu]; rfl
      simpa [List.getElem?_take, List.getElem?_drop] using this
    exact ⟨u, by simp [Go.part, rAgg hag, hget], hvu⟩
theorem oField_ok (hm : MemRel w0 T0 E gs w) {s : TypeId} {x : SV} {v : Value} (hv : RelV E x v) {f : Nat} {e : Eff} (h : oField P next (P.underlying s) x f = some e) :
    NextOK P ((do pure (Next.value (← Instr.field s v f)) : Sem Next).run P w) (PostOp w0 T0 E gs next e) := by
  unfold oField at h
  split at h <;> try (cases h; done)
  rename_i fs hu
  split at h <;> try (cases h; done)
  rename_i l
  obtain ⟨fd, hfd, h⟩ := bindO_some h
  obtain ⟨n, hn, h⟩ := bindO_some h
  obtain ⟨ag, hag, h⟩ := bindO_some h
  obtain ⟨r, hr, h⟩ := bindO_some h
  obtain ⟨q, hq, h⟩ := bindO_some h
  cases h
  obtain ⟨vs, rfl, hl⟩ := hv
  obtain ⟨u, hrun, hu'⟩ := part_ok (P := P) (w := w) hn hag hl hr hq
  refine next_v (v := u) (w' := w) ?_ (post_pure hm hu')
  simp [Instr.field, run_underlying hu, hfd, asAgg, hrun]

theorem run_indexAt {t el : TypeId} {es : Nat} (hes : tsize P el = some es) {x : Value} {a : Addr} {len : Nat} {k : IntKind} {i : Nat} (hi : i < len)
    (hx : (∃ n, P.underlying t = some (.array n el) ∧ n = len ∧ x = .pointer (some a)) ∨ (∃ c, P.underlying t = some (.slice el) ∧ x = .slice (some a) len c)) :
    (Instr.indexAt t x (.int k i)).run P w = .ok (.pointer (some (a.add (i * es)))) w := by
  rcases hx with ⟨n, hu, rfl, rfl⟩ | ⟨c, hu, rfl⟩
  · simp [Instr.indexAt, asIntOf, run_underlying hu, Instr.sureAddr, hi, rSize hes]
  · simp [Instr.indexAt, asIntOf, run_underlying hu, hi, rSize hes]
theorem oIndexAddr_ok (hm : MemRel w0 T0 E gs w) {t : TypeId} {p i : SC} {v u : Value} (hv : RelC E p v) (hu : RelC E i u) {e : Eff} (h : oIndexAddr P gs next (P.underlying t) p i = some e) (hob : AllT e.obs) :
    NextOK P ((do pure (Next.value (← Instr.indexAt t v u)) : Sem Next).run P w) (PostOp w0 T0 E gs next e) := by
  unfold oIndexAddr at h
  split at h <;> try (cases h; done)
  rename_i k n
  cases hu
  split at h
  · rename_i len el hund
    split at h <;> try (cases h; done)
    obtain ⟨es, hes, h⟩ := bindO_some h
    unfold retO at h
    split at h <;> cases h
    rename_i c ob hc
    unfold sIndex at hc
    split at hc
    · rename_i id o m
      split at hc <;> cases hc
      rename_i hlt
      rw [Nat.ble_eq] at hlt
      obtain ⟨b, q, z, hE, rfl⟩ := hv
      refine next_v (run_indexAt hes (by omega : m < len) (.inl ⟨len, hund, rfl, rfl⟩)) (post_pure hm (v := .c (.ptr _ _)) ⟨b, q, z, hE, ?_⟩)
      rw [addr_add, Nat.add_assoc]
    · rename_i id o m
      cases hc
      have hb := hob.head
      simp only [decide_eq_true_eq] at hb
      obtain ⟨b, q, z, hE, rfl⟩ := hv
      obtain ⟨j, rfl⟩ := Int.eq_ofNat_of_zero_le hb.1
      refine next_v (run_indexAt hes (by omega : j < len) (.inl ⟨len, hund, rfl, rfl⟩)) (post_pure hm (v := .c (.ptrx _ _ _ _ _)) ⟨b, q, z, hE, j, rfl, by omega, ?_⟩)
      rw [addr_add]
    · rename_i id o st idx m
      split at hc <;> cases hc
      rename_i hlt
      rw [Nat.ble_eq] at hlt
      obtain ⟨b, q, z, hE, i, rfl, rfl⟩ := hv
      refine next_v (run_indexAt hes (by omega : m < len) (.inl ⟨len, hund, rfl, rfl⟩)) (post_pure hm (v := .c (.ptrr _ _ _ _)) ⟨b, q, z, hE, i, rfl, ?_⟩)
      rw [addr_add, show q + o + i * st + m * es = q + (o + m * es) + i * st by omega]
    · cases hc
  · rename_i el hund
    unfold oIndexAddr2 at h
    split at h <;> try (cases h; done)
    rename_i id o es m full
    have g1 := bindO_some h
    clear h
    obtain ⟨es', hes, g2⟩ := g1
    have g3 := bindO_some g2
    clear g2
    obtain ⟨⟨r, ob⟩, hr, g4⟩ := g3
    cases g4
    obtain ⟨base, nn, cap, rfl, hlen, hcap, hnil, hbase⟩ := hv
    -- the slice is not empty: it has an address
    have key : ∀ j : Nat, j < nn → ∃ b q z, E id = some (b, q, z) ∧ base = some ⟨b, q + o, none⟩ := by
      intro j hj
      cases base with
      | none => have := hnil rfl; omega
      | some a =>
        obtain ⟨_, b, q, z, hE, ha, _⟩ := hbase a rfl
        exact ⟨b, q, z, hE, by rw [ha (by omega)]⟩
    unfold sIndexS at hr
    split at hr
    · rename_i m' n'
      split at hr <;> cases hr
      rename_i hc
      simp only [Bool.and_eq_true, Nat.ble_eq, beqN] at hc
      obtain ⟨hlt, rfl⟩ := hc
      simp only [SI.val, Int.ofNat_eq_natCast] at hlen
      have hj : n' < nn := by omega
      obtain ⟨b, q, z, hE, rfl⟩ := key n' hj
      refine next_v (run_indexAt hes hj (.inr ⟨cap, hund, rfl⟩)) (post_pure hm (v := .c (.ptr _ _)) ⟨b, q, z, hE, ?_⟩)
      rw [addr_add, Nat.add_assoc]
    · rename_i m' n'
      split at hr <;> cases hr
      rename_i hc
      rw [beqN] at hc
      subst hc
      simp only [SI.val, Int.ofNat_eq_natCast] at hlen
      have hb := hob.head
      simp only [decide_eq_true_eq] at hb
      obtain ⟨j, rfl⟩ := Int.eq_ofNat_of_zero_le hb.1
      have hj : j < nn := by omega
      obtain ⟨b, q, z, hE, rfl⟩ := key j hj
      refine next_v (run_indexAt hes hj (.inr ⟨cap, hund, rfl⟩)) (post_pure hm (v := .c (.ptrx _ _ _ _ _)) ⟨b, q, z, hE, j, rfl, by omega, ?_⟩)
      rw [addr_add]
    · rename_i m'
      split at hr <;> try (cases hr; done)
      rename_i hes2 _
      rw [beqN] at hes2
      split at hr
      · cases hr
        rename_i hc
        simp only [Bool.and_eq_true, beqN] at hc
        obtain ⟨rfl, rfl⟩ := hc
        subst hes2
        simp only [SI.val, Int.ofNat_eq_natCast] at hlen
        have hb := hob.head
        simp only [decide_eq_true_eq] at hb
        obtain ⟨j, hj'⟩ := Int.eq_ofNat_of_zero_le hb.1
        have hj : j < nn := by omega
        obtain ⟨b, q, z, hE, rfl⟩ := key j hj
        rw [hj']
        refine next_v (run_indexAt hes hj (.inr ⟨cap, hund, rfl⟩)) (post_pure hm (v := .c (.ptrr _ _ _ _)) ⟨b, q, z, hE, j, rfl, ?_⟩)
        rw [addr_add]
      · split at hr <;> cases hr
        rename_i hc
        simp only [Bool.and_eq_true, beqN, Nat.ble_eq] at hc
        obtain ⟨hmod, rfl, hpos⟩ := hc
        subst hes2
        simp only [SI.val, Int.ofNat_eq_natCast] at hlen
        have hb := hob.head
        simp only [decide_eq_true_eq] at hb
        obtain ⟨j, hj'⟩ := Int.eq_ofNat_of_zero_le hb.1
        have hj : j < nn := by omega
        obtain ⟨b, q, z, hE, rfl⟩ := key j hj
        rw [hj']
        rename_i st _ _ _ _ _ _
        refine next_v (run_indexAt hes hj (.inr ⟨cap, hund, rfl⟩)) (post_pure hm (v := .c (.ptrr _ _ _ _)) ⟨b, q, z, hE, j + o / _, by rw [Int.natCast_add], ?_⟩)
        rw [addr_add, Nat.add_mul, Nat.div_mul_cancel (Nat.dvd_of_mod_eq_zero hmod)]
        congr 3
        omega
    · cases hr
  · cases h

theorem u8s_ok : ∀ {l : List SC} {r : List Int} {vs : List Value}, u8s l = some r → RelL E l vs → vs = r.map (Value.int .u8)
  | [], r, [], h, _ => by cases h; rfl
  | [], r, _ :: _, h, hr => hr.elim
  | x :: l, r, [], h, hr => hr.elim
  | x :: l, r, v :: vs, h, hr => by
    unfold u8s at h
    split at h <;> try (cases h; done)
    · rename_i heq; cases heq
    · rename_i n l' heq
      cases heq
      split at h <;> cases h
      rename_i q hq
      have h1 : v = .int .u8 n.val := hr.1
      rw [u8s_ok hq hr.2, h1]
      rfl
theorem oBytes_ok (hm : MemRel w0 T0 E gs w) {s d : TypeId} {i o es n : Nat} {f : Bool} {v : Value} (hv : RelC E (.sl i o es (.c (.ofNat n)) f) v) {e : Eff} (h : oBytes P gs next s d i o es n = some e) (hob : AllT e.obs) :
    ∃ u, (convert s d v).run P w = .ok u w ∧ PostOp w0 T0 E gs next e u w := by
  unfold oBytes at h
  split at h <;> try (cases h; done)
  rename_i el hs hd
  split at h <;> try (cases h; done)
  rename_i he
  split at h <;> try (cases h; done)
  rename_i h1
  rw [Nat.ble_eq] at h1
  obtain ⟨g, hg, h⟩ := bindO_some h
  obtain ⟨⟨l, ob⟩, hl, h⟩ := bindO_some h
  obtain ⟨r, hr, h⟩ := bindO_some h
  cases h
  obtain ⟨base, nn, cap, rfl, hn, hcap, hnil, hbase⟩ := hv
  have hnn : nn = n := by simp only [SI.val, Int.ofNat_eq_natCast] at hn; omega
  subst hnn
  cases base with
  | none => have := hnil rfl; omega
  | some ad =>
    obtain ⟨_, b, q, z, hE, ha, _⟩ := hbase ad rfl
    have had := ha (by omega)
    subst had
    obtain ⟨b', o', hv', vs, hlen, hrel, hcell⟩ := sLoad_ok hm hg (p := .ptr i o) rfl (v := .pointer (some ⟨b, q + o, none⟩)) ⟨b, q, z, hE, rfl⟩ hl hob
    cases hv'
    have hvs := u8s_ok hr hrel
    refine ⟨.string (bytesL r), ?_, post_pure hm (v := .c (.str _)) rfl⟩
    rw [run_convert_bytes_string w s d el _ _ _ hs he hd]
    refine run_bytesToString w _ _ _ r ?_
    have e := run_loadCells_list (P := P) w ⟨b, q + o, none⟩ vs fun j u hj => by
      have hjl : j < nn := by
        rcases Nat.lt_or_ge j vs.length with h' | h'
        · omega
        · rw [List.getElem?_eq_none h'] at hj; cases hj
      rw [addr_add, hcell j hjl]; exact hj
    rw [hlen, hvs] at e
    exact e
theorem oIndex_ok (hm : MemRel w0 T0 E gs w) {t : TypeId} {x : SV} {i : SC} {v u : Value} (hv : RelV E x v) (hu : RelC E i u) {e : Eff} (h : oIndex P next (P.underlying t) x i = some e) (hob : AllT e.obs) :
    NextOK P ((do pure (Next.value (← Instr.index t v u)) : Sem Next).run P w) (PostOp w0 T0 E gs next e) := by
  unfold oIndex at h
  split at h <;> try (cases h; done)
  rename_i k n
  cases hu
  split at h <;> try (cases h; done)
  rotate_left
  · rename_i s
    cases hv
    unfold oIndexStr at h
    split at h <;> cases h
    rename_i hund
    have hb := hob.head
    simp only [decide_eq_true_eq] at hb
    obtain ⟨j, hj⟩ := Int.eq_ofNat_of_zero_le hb.1
    have hjl : j < s.size := by omega
    refine next_v (v := .int .u8 (byteAt s n.val)) ?_ (post_pure hm (v := .c (.int .u8 (.s _))) rfl)
    have hnat : n.val.toNat = j := by omega
    have hget : s[j]? = some (s.data.toList.getD j 0) := by
      rw [getElem?_pos s j hjl]
      congr 1
      have : j < s.data.toList.length := by simpa using hjl
      rw [List.getD_eq_getElem?_getD, List.getElem?_eq_getElem this]
      simp; rfl
    unfold byteAt
    rw [hnat]
    simp [Instr.index, asIntOf, run_underlying hund, hb.1, hnat, hget]
  rename_i l
  obtain ⟨vs, rfl, hl⟩ := hv
  split at h <;> try (cases h; done)
  rename_i len el hund
  have g1 := bindO_some h
  clear h
  obtain ⟨es, hes, g2⟩ := g1
  have g3 := bindO_some g2
  clear g2
  obtain ⟨ag, hag, h⟩ := g3
  have fin : ∀ (j : Nat) (q : SV), j < len → (∃ y, (Go.part el vs (j * es)).run P w = .ok y w ∧ RelV E q y) → ∃ y, (Instr.index t (.agg vs) (.int k j)).run P w = .ok y w ∧ RelV E q y := by
    intro j q hj ⟨y, h1, h2⟩
    refine ⟨y, ?_, h2⟩
    simp [Instr.index, asIntOf, run_underlying hund, hj, rSize hes, h1]
  unfold oIndex2 at h
  split at h
  · rename_i m
    split at h <;> try (cases h; done)
    rename_i hlt
    rw [Nat.ble_eq] at hlt
    have g1 := bindO_some h
    clear h
    obtain ⟨r, hr, g2⟩ := g1
    obtain ⟨q, hq, g3⟩ := bindO_some g2
    cases g3
    obtain ⟨y, h1, h2⟩ := fin m q (by omega) (part_ok hes hag hl hr hq)
    exact next_v h1 (post_pure hm h2)
  · rename_i m
    obtain ⟨r, hr, h⟩ := bindO_some h
    obtain ⟨q, hq, h⟩ := bindO_some h
    cases h
    have hb := hob.head
    simp only [decide_eq_true_eq] at hb
    obtain ⟨j, rfl⟩ := Int.eq_ofNat_of_zero_le hb.1
    have hj : j < len := by omega
    have hsg := selRow_get hr rfl (Nat.zero_le _) (by omega : j < 0 + len)
    have hsl := selRow_len hr (Nat.zero_le _) (by omega : j < 0 + len)
    have hrel : RelL E r ((vs.toList.drop (j * es)).take es) := by
      refine RelL.of_getD ?_ fun k hk => ?_
      · have hlv := hl.len
        rw [hsg.1]
        rcases Nat.eq_zero_or_pos es with h0 | h0
        · subst h0; simp
        · have := hsl (es - 1) (by omega)
          simp at hlv ⊢; omega
      · rw [hsg.1] at hk
        obtain ⟨y, h1, h2⟩ := hl.getD (0 + j * es + k) (hsl k hk)
        refine ⟨y, ?_, hsg.2 E k y hk h2⟩
        rw [List.getElem?_take_of_lt hk, List.getElem?_drop]
        rw [Nat.zero_add] at h1; exact h1
    have hpart : ∃ y, (Go.part el vs (j * es)).run P w = .ok y w ∧ RelV E q y := by
      cases ag with
      | true =>
        refine ⟨.agg (vs.extract (j * es) (j * es + es)), by simp [Go.part, rAgg hag, rSize hes], ?_⟩
        have e : (vs.extract (j * es) (j * es + es)) = ((vs.toList.drop (j * es)).take es).toArray := by
          apply Array.toList_inj.1
          simp [Array.toList_extract, List.extract_eq_take_drop]
        rw [e]; exact ofCells_agg hq hrel
      | false =>
        obtain ⟨y, hy, hvy⟩ := ofCells_one hq hrel
        have hn1 : es = 1 := by
          have := hrel.len; rw [hy] at this; rw [← hsg.1]; simpa using this
        subst hn1
        have hget : vs[j * 1]? = some y := by
          have : ((vs.toList.drop (j * 1)).take 1)[0]? = some y := by rw [hy]; rfl
          simpa [List.getElem?_take, List.getElem?_drop] using this
        exact ⟨y, by simp only [Go.part, Sem.run_bind, rAgg hag, Result.andThen_ok, hget]; rfl, hvy⟩
    obtain ⟨y, h1, h2⟩ := fin j q hj hpart
    exact next_v h1 (post_pure hm h2)
  · cases h

theorem RelEs.get : ∀ {l : List SE} {vs : List Value}, RelEs E l vs → ∀ {i : Nat} {x : SE}, l[i]? = some x → ∃ v, vs[i]? = some v ∧ RelE E x v
  | [], _, _, _, _, h => by simp at h
  | _ :: _, [], r, _, _, _ => r.elim
  | y :: l, v :: vs, r, 0, x, h => by simp at h; subst h; exact ⟨v, rfl, r.1⟩
  | y :: l, v :: vs, r, i + 1, x, h => by
    obtain ⟨u, h1, h2⟩ := RelEs.get r.2 (show l[i]? = some x by simpa using h)
    exact ⟨u, by simpa using h1, h2⟩
theorem oExtract_ok (hm : MemRel w0 T0 E gs w) {x : SV} {v : Value} (hv : RelV E x v) {i : Nat} {e : Eff} (h : oExtract next x i = some e) :
    NextOK P ((do pure (Next.value (← Instr.extract v i)) : Sem Next).run P w) (PostOp w0 T0 E gs next e) := by
  unfold oExtract at h
  split at h <;> try (cases h; done)
  obtain ⟨vs, rfl, hl⟩ := hv
  split at h <;> cases h
  · rename_i c hc
    obtain ⟨u, h1, h2⟩ := hl.get hc
    refine next_v (v := u) (w' := w) ?_ (post_pure hm (v := .c c) h2)
    simp [Instr.extract] at h1 ⊢
    simp [h1]
  · rename_i m hc
    obtain ⟨u, h1, h2⟩ := hl.get hc
    refine next_v (v := u) (w' := w) ?_ (post_pure hm (v := .a m) h2)
    simp [Instr.extract] at h1 ⊢
    simp [h1]

theorem natOf_ok (hT : ∀ t, RelV E (gt t) (a.tmps.getD t undef)) {x : Option Operand} {d n : Nat} (h : natOf gt x d = some n) : (x = none ∧ n = d) ∨ ∃ y k, x = some y ∧ a.eval y = .int k n := by
  cases x with
  | none => cases h; exact .inl ⟨rfl, rfl⟩
  | some y =>
    simp only [natOf] at h
    split at h <;> cases h
    rename_i k he
    refine .inr ⟨y, k, rfl, ?_⟩
    unfold evC at he
    split at he <;> cases he
    rename_i hx
    exact ev_ok hT hx
theorem run_bounds (hT : ∀ t, RelV E (gt t) (a.tmps.getD t undef)) {lo hi : Option Operand} {len cap l h : Nat} (hl : natOf gt lo 0 = some l) (hh : natOf gt hi len = some h) (h1 : l ≤ h) (h2 : h ≤ cap) (isS : Bool) :
    (Instr.sliceBounds isS len cap (lo.map a.eval) (hi.map a.eval) none).run P w = .ok (l, h, cap) w := by
  rcases natOf_ok hT hl with ⟨rfl, rfl⟩ | ⟨y, k, rfl, hy⟩ <;> rcases natOf_ok hT hh with ⟨rfl, rfl⟩ | ⟨y', k', rfl, hy'⟩
  · simp [Instr.sliceBounds]
  · simp [Instr.sliceBounds, Instr.sliceBound, hy', asIntOf, h2]
  · simp [Instr.sliceBounds, Instr.sliceBound, hy, asIntOf, h1]
  · simp [Instr.sliceBounds, Instr.sliceBound, hy, hy', asIntOf, h1, h2]
theorem oSlice0_ok (hm : MemRel w0 T0 E gs w) (hT : ∀ t, RelV E (gt t) (a.tmps.getD t undef)) {t : TypeId} {p : SC} {v : Value} (hv : RelC E p v) {lo hi : Option Operand} {e : Eff} (h : (bindO (sSlice P t gt p lo hi) fun r => retV next (.c r)) = some e) :
    NextOK P ((do pure (Next.value (← Instr.sliceAt t v (lo.map a.eval) (hi.map a.eval) none)) : Sem Next).run P w) (PostOp w0 T0 E gs next e) := by
  obtain ⟨r, hr, h⟩ := bindO_some h
  cases h
  unfold sSlice at hr
  split at hr
  · rename_i n el i o hund
    split at hr <;> try (cases hr; done)
    rename_i es hes
    split at hr <;> try (cases hr; done)
    rename_i l hh hl hhi
    split at hr <;> cases hr
    rename_i hc
    simp only [Bool.and_eq_true, Nat.ble_eq] at hc
    obtain ⟨b, q, z, hE, rfl⟩ := hv
    have hb := run_bounds (P := P) (w := w) hT hl hhi hc.1.1 hc.1.2 false
    refine next_v (v := .slice (some (if n = l then ⟨b, q + o, none⟩ else (⟨b, q + o, none⟩ : Addr).add (l * es))) (hh - l) (n - l)) (w' := w) ?_ (post_pure hm (v := .c (.sl i _ _ _ _)) ?_)
    · simp [Instr.sliceAt, run_underlying hund, Instr.sureAddr, hb, rSize hes]
    · refine ⟨_, hh - l, n - l, rfl, rfl, by omega, fun e => (by cases e), fun ad had => ?_⟩
      cases had
      refine ⟨?_, b, q, z, hE, fun hne => ?_, fun hf => by cases hf⟩
      · omega
      · rw [if_neg (by omega), addr_add, Nat.add_assoc]
  · rename_i el i o es n f hund
    split at hr <;> try (cases hr; done)
    rename_i es' hes
    split at hr <;> try (cases hr; done)
    rename_i l hh hl hhi
    split at hr <;> cases hr
    rename_i hc
    simp only [Bool.and_eq_true, Nat.ble_eq, beqN] at hc
    obtain ⟨⟨hc1, hc2⟩, rfl⟩ := hc
    obtain ⟨base, nn, cap, rfl, hlen, hcap, hnil, hbase⟩ := hv
    have hn : nn = n := by simp only [SI.val, Int.ofNat_eq_natCast] at hlen; omega
    subst hn
    have hb := run_bounds (P := P) (w := w) (cap := cap) hT hl hhi hc1 (by omega) true
    refine next_v (v := .slice (if cap = l then base else base.map (·.add (l * es))) (hh - l) (cap - l)) (w' := w) ?_ (post_pure hm (v := .c (.sl i _ _ _ _)) ?_)
    · simp [Instr.sliceAt, Instr.slice, run_underlying hund, hb, rSize hes]
    · refine ⟨_, hh - l, cap - l, rfl, rfl, by omega, fun e => ?_, fun ad had => ?_⟩
      · cases base with
        | none => have := hnil rfl; omega
        | some b0 => split at e <;> cases e
      · cases base with
        | none => split at had <;> cases had
        | some b0 =>
          obtain ⟨hi, b, q, z, hE, ha, hf⟩ := hbase b0 rfl
          refine ⟨hi, b, q, z, hE, fun hne => ?_, fun hful => ?_⟩
          · rw [if_neg (by omega)] at had
            cases had
            show b0.add (l * es) = _
            rw [ha (by omega), addr_add, Nat.add_assoc]
          · have := hf hful
            have hlc : l ≤ cap := by omega
            have e1 : (cap - l) * es = cap * es - l * es := Nat.sub_mul ..
            have e2 : l * es ≤ cap * es := Nat.mul_le_mul_right _ hlc
            omega
  · cases hr
theorem siOf_ok (hT : ∀ t, RelV E (gt t) (a.tmps.getD t undef)) {x : Option Operand} {n : SI} (h : siOf gt x = some n) : ∃ y k, x = some y ∧ a.eval y = .int k n.val := by
  cases x with
  | none => cases h
  | some y =>
    simp only [siOf] at h
    split at h <;> cases h
    rename_i k he
    refine ⟨y, k, rfl, ?_⟩
    unfold evC at he
    split at he <;> cases he
    rename_i hx
    exact ev_ok hT hx
theorem oSliceS_ok (hm : MemRel w0 T0 E gs w) (hT : ∀ t, RelV E (gt t) (a.tmps.getD t undef)) {t : TypeId} {i o es : Nat} {n : Int} {f : Bool} {v : Value} (hv : RelC E (.sl i o es (.s n) f) v) {lo hi : Option Operand} {e : Eff} (h : oSliceS P gt next t i o es n f lo hi = some e) (hob : AllT e.obs) :
    NextOK P ((do pure (Next.value (← Instr.sliceAt t v (lo.map a.eval) (hi.map a.eval) none)) : Sem Next).run P w) (PostOp w0 T0 E gs next e) := by
  unfold oSliceS at h
  split at h <;> try (cases h; done)
  rename_i el hund
  obtain ⟨es', hes, h⟩ := bindO_some h
  split at h <;> try (cases h; done)
  have hc : Nat.beq es es' = true := by assumption
  rw [beqN] at hc
  subst hc
  obtain ⟨base, nn, cap, rfl, hlen, hcap, hnil, hbase⟩ := hv
  have hn : n = (nn : Int) := hlen
  split at h
  · -- 'x[:hi]'
    split at h <;> try (cases h; done)
    split at h <;> cases h
    rename_i m hm'
    obtain ⟨y, k, hy, hy'⟩ := siOf_ok hT hm'
    cases hy
    have hb0 := hob.head
    simp only [decide_eq_true_eq] at hb0
    obtain ⟨M, rfl⟩ := Int.eq_ofNat_of_zero_le hb0.1
    have hMc : M ≤ cap := by omega
    refine next_v (v := .slice (if cap = 0 then base else base.map (·.add (0 * es))) (M - 0) (cap - 0)) (w' := w) ?_ (post_pure hm (v := .c (.sl i _ _ _ _)) ?_)
    · have hb' : (Instr.sliceBounds true nn cap none (some (.int k (M : Int))) none).run P w = .ok (0, M, cap) w := by simp [Instr.sliceBounds, Instr.sliceBound, asIntOf, hMc]
      simp only [Option.map_some, Option.map_none, hy', SI.val]
      simp [Instr.sliceAt, Instr.slice, run_underlying hund, hb', rSize hes]
    · refine ⟨_, M - 0, cap - 0, rfl, rfl, by omega, fun e => ?_, fun ad had => ?_⟩
      · cases base with
        | none => exact hnil rfl
        | some b0 => split at e <;> cases e
      · cases base with
        | none => split at had <;> cases had
        | some b0 =>
          obtain ⟨hi, b, q, z, hE, ha, hf⟩ := hbase b0 rfl
          refine ⟨hi, b, q, z, hE, fun hne => ?_, fun hful => hf hful⟩
          rw [if_neg (by omega)] at had
          cases had
          show b0.add (0 * es) = _
          rw [ha (by omega), addr_add, Nat.zero_mul, Nat.add_zero]
  · split at h
    · -- 'x[lo:]' at a place that is not known
      rename_i l hl
      split at h <;> cases h
      have ho : Nat.beq o 0 = true := by assumption
      rw [beqN] at ho
      subst ho
      obtain ⟨y, k, hy, hy'⟩ := siOf_ok hT hl
      cases hy
      have hb0 := hob.head
      simp only [decide_eq_true_eq] at hb0
      obtain ⟨L, rfl⟩ := Int.eq_ofNat_of_zero_le hb0.1
      have hLn : L ≤ nn := by omega
      refine next_v (v := .slice (if cap = L then base else base.map (·.add (L * es))) (nn - L) (cap - L)) (w' := w) ?_ (post_pure hm (v := .c (.slr i _ _ _)) ?_)
      · have hb' : (Instr.sliceBounds true nn cap (some (.int k (L : Int))) none none).run P w = .ok (L, nn, cap) w := by simp [Instr.sliceBounds, Instr.sliceBound, asIntOf, hLn]
        simp only [Option.map_some, Option.map_none, hy', SI.val]
        simp [Instr.sliceAt, Instr.slice, run_underlying hund, hb', rSize hes]
      · refine ⟨_, nn - L, cap - L, rfl, ?_, by omega, fun e => ?_, L, rfl, fun ad had => ?_⟩
        · omega
        · cases base with
          | none => have := hnil rfl; omega
          | some b0 => split at e <;> cases e
        · cases base with
          | none => split at had <;> cases had
          | some b0 =>
            obtain ⟨hi, b, q, z, hE, ha, hf⟩ := hbase b0 rfl
            refine ⟨b, q, z, hE, fun hne => ?_⟩
            rw [if_neg (by omega)] at had
            cases had
            show b0.add (L * es) = _
            rw [ha (by omega), addr_add, Nat.add_zero]
    · obtain ⟨l, hl, h⟩ := bindO_some h
      cases h
      have hb0 := hob.head
      simp only [decide_eq_true_eq] at hb0
      have hln : l ≤ nn := by omega
      have hb := run_bounds (P := P) (w := w) (cap := cap) (len := nn) (hi := none) (h := nn) hT hl rfl hln hcap true
      refine next_v (v := .slice (if cap = l then base else base.map (·.add (l * es))) (nn - l) (cap - l)) (w' := w) ?_ (post_pure hm (v := .c (.sl i _ _ _ _)) ?_)
      · have hb' : (Instr.sliceBounds true nn cap (lo.map a.eval) none none).run P w = .ok (l, nn, cap) w := hb
        simp [Instr.sliceAt, Instr.slice, run_underlying hund, hb', rSize hes]
      · refine ⟨_, nn - l, cap - l, rfl, ?_, by omega, fun e => ?_, fun ad had => ?_⟩
        · show n - (l : Int) = ((nn - l : Nat) : Int)
          omega
        · cases base with
          | none => have := hnil rfl; omega
          | some b0 => split at e <;> cases e
        · cases base with
          | none => split at had <;> cases had
          | some b0 =>
            obtain ⟨hi, b, q, z, hE, ha, hf⟩ := hbase b0 rfl
            refine ⟨hi, b, q, z, hE, fun hne => ?_, fun hful => ?_⟩
            · rw [if_neg (by omega)] at had
              cases had
              show b0.add (l * es) = _
              rw [ha (by omega), addr_add, Nat.add_assoc]
            · have := hf hful
              have hlc : l ≤ cap := by omega
              have e1 : (cap - l) * es = cap * es - l * es := Nat.sub_mul ..
              have e2 : l * es ≤ cap * es := Nat.mul_le_mul_right _ hlc
              omega
theorem oSliceV_ok (hm : MemRel w0 T0 E gs w) {t : TypeId} {i o st : Nat} {idx : Int} {v : Value} (hv : RelC E (.ptrr i o st idx) v) {lo hi : Option Operand} {e : Eff} (h : oSliceV P gs next t i o st idx lo hi = some e) (hne : next ≠ 0) (hfr : ∀ j, next ≤ j → j < e.next → E j = none) (hob : AllT e.obs) :
    NextOK P ((do pure (Next.value (← Instr.sliceAt t v (lo.map a.eval) (hi.map a.eval) none)) : Sem Next).run P w) (PostOp w0 T0 E gs next e) := by
  unfold oSliceV at h
  split at h <;> try (cases h; done)
  split at h <;> try (cases h; done)
  rename_i n el hund
  obtain ⟨es, hes, h⟩ := bindO_some h
  obtain ⟨g, hg, h⟩ := bindO_some h
  split at h <;> try (cases h; done)
  rename_i hrw
  obtain ⟨⟨l, ob⟩, hl, h⟩ := bindO_some h
  split at h <;> cases h
  have h1 : Nat.ble 1 (n * es) = true := by assumption
  rw [Nat.ble_eq] at h1
  have hn1 : E next = none := hfr next (Nat.le_refl _) (Nat.lt_succ_self _)
  obtain ⟨bb, o1, hv1, vs, hlen, hrel, hcell⟩ := sLoad_ok hm hg (p := .ptrr i o st idx) rfl hv hl hob
  obtain ⟨b, q, z, hE, ii, hidx, rfl⟩ := hv
  cases hv1
  obtain ⟨b2, q2, z2, cs, T, fr, hE2, s⟩ := hm.segs i g hg
  rw [hE] at hE2
  cases hE2
  -- where it lies
  have hin : q + o + ii * st + n * es ≤ q + z := by
    have hbody := hl
    cases hb : g.body with
    | cells l' => rw [hb] at hbody; simp only [sLoad] at hbody; cases hbody
    | rows st' N row =>
      rw [hb] at hbody
      simp only [sLoad] at hbody
      split at hbody <;> try (cases hbody; done)
      rename_i hc
      split at hbody <;> cases hbody
      simp only [Bool.and_eq_true, beqN, Nat.ble_eq] at hc
      obtain ⟨rfl, hc⟩ := hc
      have h3 := hob.head
      simp only [decide_eq_true_eq] at h3
      have h4 : st' * N.toNat ≤ z := by
        have := s.le
        rw [hb] at this
        exact this
      have h5 : ii + 1 ≤ N.toNat := by omega
      have h6 : (ii + 1) * st' ≤ N.toNat * st' := Nat.mul_le_mul_right _ h5
      rw [Nat.mul_comm N.toNat st', Nat.succ_mul] at h6
      omega
  have he : Ext E (upd E next (some (bb, q + o + ii * st, n * es))) := Ext.upd _ hn1
  have hll : l.length = n * es := hrel.len.trans hlen
  have hb0 : (Instr.sliceBounds false n n none none none).run P w = .ok (0, n, n) w := by simp [Instr.sliceBounds]
  refine next_v (v := .slice (some ⟨bb, q + o + ii * st, none⟩) n n) (w' := w) ?_ ⟨upd E next (some (bb, q + o + ii * st, n * es)), he, fun j hj => ?_, ?_, ?_⟩
  · have hnz : n ≠ 0 := fun h0 => by rw [h0, Nat.zero_mul] at h1; omega
    simp [Instr.sliceAt, run_underlying hund, Instr.sureAddr, hb0, rSize hes, hnz, addr_add]
  · by_cases ej : j = next
    · subst ej; exact .inr ⟨Nat.le_refl _, Nat.lt_succ_self _⟩
    · rw [upd_other _ _ ej] at hj; exact .inl hj
  · refine ⟨_, n, n, rfl, rfl, Nat.le_refl _, fun h0 => (by cases h0), fun ad had => ?_⟩
    cases had
    exact ⟨hne, bb, q + o + ii * st, n * es, upd_same _ _ _, fun _ => rfl, fun hf => by cases hf⟩
  · show MemRel w0 T0 _ (upd gs next (some ⟨false, false, .cells l⟩)) w
    refine ⟨fun j k hk => ?_, fun j k x y b1 o1 z1 b2 o2 z2 hjk hx hy hr hb1 hb2 => ?_, fun j x b1 o1 z1 hx hr hb1 => ?_, hm.fr, hm.tab⟩
    · by_cases ej : j = next
      · subst ej
        rw [upd_same] at hk; cases hk
        refine ⟨_, _, _, cs, T, fr, upd_same _ _ _, ⟨s.heap, Nat.le_of_eq hll, by have := s.fit; omega, fun h0 => (by cases h0), fun h0 => (by cases h0), fun m hm' => ?_⟩⟩
        have hm2 : m < n * es := by rw [← hll]; exact hm'
        obtain ⟨u, h2, h3⟩ := hrel.getD m hm'
        have h4 := hcell m hm2
        rw [h2] at h4
        refine ⟨u, ?_, h3.mono he⟩
        simpa [World.cell?, s.heap] using h4
      · rw [upd_other _ _ ej] at hk
        obtain ⟨b3, o3, z3, cs3, T3, fr3, e3, s3⟩ := hm.segs j k hk
        exact ⟨b3, o3, z3, cs3, T3, fr3, by rw [upd_other _ _ ej]; exact e3, s3.mono he⟩
    · by_cases ej : j = next
      · subst ej
        rw [upd_same] at hx hb1
        cases hx
        cases hb1
        rw [upd_other _ _ (Ne.symm hjk)] at hy hb2
        rcases hr with hr | hr
        · cases hr
        · have hik : i ≠ k := fun e' => by subst e'; rw [hg] at hy; cases hy; rw [hrw] at hr; cases hr
          have := hm.disj i k g y bb q z b2 o2 z2 hik hg hy (.inr hr) hE hb2
          omega
      · rw [upd_other _ _ ej] at hx hb1
        by_cases ek : k = next
        · subst ek
          rw [upd_same] at hy hb2
          cases hy
          cases hb2
          rcases hr with hr | hr
          · have hik : j ≠ i := fun e' => by subst e'; rw [hg] at hx; cases hx; rw [hrw] at hr; cases hr
            have := hm.disj j i x g b1 o1 z1 bb q z hik hx hg (.inl hr) hb1 hE
            omega
          · cases hr
        · rw [upd_other _ _ ek] at hy hb2
          exact hm.disj j k x y b1 o1 z1 b2 o2 z2 hjk hx hy hr hb1 hb2
    · by_cases ej : j = next
      · subst ej
        rw [upd_same] at hx; cases hx; cases hr
      · rw [upd_other _ _ ej] at hx hb1
        exact hm.tch j x b1 o1 z1 hx hr hb1
theorem oSlice_ok (hm : MemRel w0 T0 E gs w) (hT : ∀ t, RelV E (gt t) (a.tmps.getD t undef)) {t : TypeId} {p : SC} {v : Value} (hv : RelC E p v) {lo hi mx : Option Operand} {e : Eff} (h : oSlice P gt gs next t p lo hi mx = some e) (hne : next ≠ 0) (hfr : ∀ j, next ≤ j → j < e.next → E j = none) (hob : AllT e.obs) :
    NextOK P ((do pure (Next.value (← Instr.sliceAt t v (lo.map a.eval) (hi.map a.eval) (mx.map a.eval))) : Sem Next).run P w) (PostOp w0 T0 E gs next e) := by
  unfold oSlice at h
  split at h <;> try (cases h; done)
  split at h
  · exact oSliceS_ok hm hT hv h hob
  · exact oSliceV_ok hm hv h hne hfr hob
  · exact oSlice0_ok hm hT hv h
end

end Go.Proofs.Ytaoeigofmfpamaa
end
