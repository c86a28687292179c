/- A symbolic executor for the model's code: its values, its memory, its run. Nothing is assumed. -/
import Derived.WalkKit
import Derived.WalkLawsBesides
import Derived.Orders
namespace Go.Proofs.YtaodbpejeglmlaaDoor
open Go
noncomputable section

def qnan : FloatKind → Nat
  | .f32 => 2143289344
  | .f64 => 9221120237041090560
/-- One word for all NaN. -/
def can (k : FloatKind) (b : Nat) : Nat := if (k.decode b).isNaN then qnan k else b

structure FOps where
  bin : BinOp → FloatKind → Nat → Nat → Nat
  cmp : BinOp → FloatKind → Nat → Nat → Bool
  neg : FloatKind → Nat → Nat
  conv : FloatKind → FloatKind → Nat → Nat
  convOk : FloatKind → FloatKind → Nat → Bool
  ofInt : FloatKind → Int → Nat
  toInt : FloatKind → IntKind → Nat → Int
  toIntOk : FloatKind → IntKind → Nat → Bool

inductive SB where
  | t | f
  | s (b : Bool)
def SB.val : SB → Bool
  | .t => true
  | .f => false
  | .s b => b
def SB.not : SB → SB
  | .t => .f
  | .f => .t
  | .s b => .s (!b)
def SB.and : SB → SB → SB
  | .t, x => x
  | .f, _ => .f
  | .s b, .t => .s b
  | .s _, .f => .f
  | .s b, .s c => .s (b && c)

inductive SI where
  | c (n : Int)
  | s (n : Int)
def SI.val : SI → Int
  | .c n => n
  | .s n => n

/-- One cell. -/
inductive SC where
  | any
  | bool (b : SB)
  | int (k : IntKind) (n : SI)
  | flt (k : FloatKind) (x : Nat)
  | str (s : ByteArray)
  | nilp
  | ptr (id off : Nat)
  | ptrx (id off stride cnt : Nat) (idx : Int)
  | ptrr (id off stride : Nat) (idx : Int)
  | sl (id off es : Nat) (len : SI) (full : Bool)
  | slr (id es : Nat) (idx len : Int)
inductive SE where
  | c (x : SC)
  | a (l : List SC)
inductive SV where
  | any
  | undef
  | c (x : SC)
  | a (l : List SC)
  | tup (l : List SE)

inductive SBody where
  | cells (l : List SC)
  | rows (st : Nat) (n : Int) (row : Int → List SC)
structure Seg where
  rw : Bool
  own : Bool
  body : SBody

/-! ### maps -/
inductive Tr (α : Type) where
  | nil
  | node (v : Option α) (l r : Tr α)
variable {α : Type}
def Tr.get (t : Tr α) : Nat → Option α :=
  Tr.rec (motive := fun _ => Nat → Option α) (fun _ => none)
    (fun v _ _ gl gr i => Nat.rec (motive := fun _ => Option α) v (fun j _ => Bool.rec (gr (j / 2)) (gl (j / 2)) (Nat.beq (j % 2) 0)) i) t
/-- The tree that holds 'x' at 'i' alone. -/
def Tr.one (x : α) (f : Nat) : Nat → Tr α :=
  Nat.rec (motive := fun _ => Nat → Tr α) (fun _ => .nil)
    (fun _ ih i => Nat.rec (motive := fun _ => Tr α) (.node (some x) .nil .nil) (fun j _ => Bool.rec (.node none .nil (ih (j / 2))) (.node none (ih (j / 2)) .nil) (Nat.beq (j % 2) 0)) i) f
def Tr.set (x : α) (t : Tr α) : Nat → Tr α :=
  Tr.rec (motive := fun _ => Nat → Tr α) (fun i => Tr.one x (i + 1) i)
    (fun v l r il ir i => Nat.rec (motive := fun _ => Tr α) (.node (some x) l r) (fun j _ => Bool.rec (.node v l (ir (j / 2))) (.node v (il (j / 2)) r) (Nat.beq (j % 2) 0)) i) t
def Tr.oneK {β : Type} (x : α) (f : Nat) : Nat → (Tr α → β) → β :=
  Nat.rec (motive := fun _ => Nat → (Tr α → β) → β) (fun _ k => k .nil)
    (fun _ ih i k => Nat.rec (motive := fun _ => β) (k (.node (some x) .nil .nil)) (fun j _ => Bool.rec (ih (j / 2) (fun r => k (.node none .nil r))) (ih (j / 2) (fun l => k (.node none l .nil))) (Nat.beq (j % 2) 0)) i) f
/-- 'set', done before one goes on. -/
def Tr.setK {β : Type} (x : α) (t : Tr α) : Nat → (Tr α → β) → β :=
  Tr.rec (motive := fun _ => Nat → (Tr α → β) → β) (fun i k => Tr.oneK x (i + 1) i k)
    (fun v l r il ir i k => Nat.rec (motive := fun _ => β) (k (.node (some x) l r)) (fun j _ => Bool.rec (ir (j / 2) (fun r' => k (.node v l r'))) (il (j / 2) (fun l' => k (.node v l' r))) (Nat.beq (j % 2) 0)) i) t
def Tr.keys (t : Tr α) : Nat → Nat → List Nat → List Nat :=
  Tr.rec (motive := fun _ => Nat → Nat → List Nat → List Nat) (fun _ _ acc => acc)
    (fun v _ _ kl kr a b acc => Option.rec (motive := fun _ => List Nat) (kl (2 * a) (a + b) (kr (2 * a) (2 * a + b) acc)) (fun _ => b :: kl (2 * a) (a + b) (kr (2 * a) (2 * a + b) acc)) v) t

/-- What a layer says of a segment: it is gone, it is this, or these cells of it are new. -/
inductive SD where
  | gone
  | full (g : Seg)
  | diff (d : List (Nat × SC))
def setC (l : List SC) : Nat → SC → List SC :=
  List.rec (motive := fun _ => Nat → SC → List SC) (fun _ _ => []) (fun y l ih j x => Nat.rec (motive := fun _ => List SC) (x :: l) (fun j' _ => y :: ih j' x) j) l
/-- The first of 'd' counts. -/
def patch (d : List (Nat × SC)) (l : List SC) : List SC :=
  List.rec (motive := fun _ => List SC) l (fun p _ ih => setC ih p.1 p.2) d
def patchB (d : List (Nat × SC)) : SBody → SBody
  | .cells l => .cells (patch d l)
  | .rows st n row => .rows st n row
def patchS (d : List (Nat × SC)) : Option Seg → Option Seg
  | some g => some ⟨g.rw, g.own, patchB d g.body⟩
  | none => none
def resD (v : SD) (g : Option Seg) : Option Seg :=
  match v with
  | .gone => none
  | .full g' => some g'
  | .diff d => patchS d g
def sdOf : Option Seg → SD
  | none => .gone
  | some g => .full g
def cellsD : Nat → List SC → List (Nat × SC) → List (Nat × SC)
  | _, [], acc => acc
  | o, x :: l, acc => (o, x) :: cellsD (o + 1) l acc
def putD (o : Nat) (new : List SC) (d : Option SD) : SD :=
  match d with
  | none => .diff (cellsD o new [])
  | some .gone => .gone
  | some (.full g) => .full ⟨g.rw, g.own, patchB (cellsD o new []) g.body⟩
  | some (.diff d) => .diff (cellsD o new d)
structure Ly where
  t : Tr SV
  s : Tr SD
structure Top where
  ly : Ly
  next : Nat
def getT (l : List Ly) (k : Nat) : SV :=
  List.rec (motive := fun _ => SV) .undef (fun y _ ih => Option.rec (motive := fun _ => SV) ih (fun v => v) (y.t.get k)) l
def getS (l : List Ly) (k : Nat) : Option Seg :=
  List.rec (motive := fun _ => Option Seg) none (fun y _ ih => Option.rec (motive := fun _ => Option Seg) ih (fun v => resD v ih) (y.s.get k)) l
def Top.empty (n : Nat) : Top := ⟨⟨.nil, .nil⟩, n⟩
def Top.setT (T : Top) (k : Nat) (v : SV) : Top := ⟨⟨T.ly.t.set v k, T.ly.s⟩, T.next⟩
def Top.setD (T : Top) (k : Nat) (v : SD) : Top := ⟨⟨T.ly.t, T.ly.s.set v k⟩, T.next⟩
def Top.setS (T : Top) (k : Nat) (v : Option Seg) : Top := T.setD k (sdOf v)
def Top.setTK {β : Type} (T : Top) (k : Nat) (v : SV) (f : Top → β) : β := T.ly.t.setK v k fun t => f ⟨⟨t, T.ly.s⟩, T.next⟩
def Top.setDK {β : Type} (T : Top) (k : Nat) (v : SD) (f : Top → β) : β := T.ly.s.setK v k fun s => f ⟨⟨T.ly.t, s⟩, T.next⟩
def Top.setSK {β : Type} (T : Top) (k : Nat) (v : Option Seg) (f : Top → β) : β := T.setDK k (sdOf v) f
def Top.setSsK {β : Type} (T : Top) (l : List (Nat × Option Seg)) : (Top → β) → β :=
  List.rec (motive := fun _ => Top → (Top → β) → β) (fun T f => f T) (fun p _ ih T f => T.setSK p.1 p.2 fun T' => ih T' f) l T
def Top.setSs (T : Top) (l : List (Nat × Option Seg)) : Top :=
  List.rec (motive := fun _ => Top → Top) (fun T => T) (fun p _ ih T => ih (T.setS p.1 p.2)) l T

/-! ### the merge of two ways -/
def mergeSB (b : Bool) : SB → SB → SB
  | .t, .t => .t
  | .f, .f => .f
  | x, y => .s (bif b then x.val else y.val)
def mergeSI (b : Bool) : SI → SI → SI
  | .c m, .c n => match decide (m = n) with
    | true => .c m
    | false => .s (bif b then m else n)
  | x, y => .s (bif b then x.val else y.val)
def mergeC (b : Bool) : SC → SC → SC
  | .bool x, .bool y => .bool (mergeSB b x y)
  | .int k x, .int k' y => match decide (k = k') with
    | true => .int k (mergeSI b x y)
    | false => .any
  | .flt k x, .flt k' y => match decide (k = k') with
    | true => .flt k (bif b then x else y)
    | false => .any
  | .str x, .str y => .str (bif b then x else y)
  | .nilp, .nilp => .nilp
  | .ptr i o, .ptr i' o' => match Nat.beq i i' && Nat.beq o o' with
    | true => .ptr i o
    | false => .any
  | .sl i o e n f, .sl i' o' e' n' f' => match Nat.beq i i' && Nat.beq o o' && Nat.beq e e' with
    | true => .sl i o e (mergeSI b n n') (f && f')
    | false => match Nat.beq i 0 with
      | true => .sl i' o' e' (mergeSI b n n') f'
      | false => match Nat.beq i' 0 with
        | true => .sl i o e (mergeSI b n n') f
        | false => .any
  | _, _ => .any
def mergeL (b : Bool) (l : List SC) : List SC → Option (List SC) :=
  List.rec (motive := fun _ => List SC → Option (List SC)) (fun m => List.rec (some []) (fun _ _ _ => none) m)
    (fun x _ ih m => List.rec none (fun y m' _ => Option.rec none (fun r => some (mergeC b x y :: r)) (ih m')) m) l
def mergeE (b : Bool) : SE → SE → Option SE
  | .c x, .c y => some (.c (mergeC b x y))
  | .a l, .a m => match mergeL b l m with
    | some r => some (.a r)
    | none => none
  | _, _ => none
def mergeEs (b : Bool) : List SE → List SE → Option (List SE)
  | [], [] => some []
  | x :: l, y :: m => match mergeE b x y with
    | some z => match mergeEs b l m with
      | some r => some (z :: r)
      | none => none
    | none => none
  | _, _ => none
def mergeV (b : Bool) : SV → SV → SV
  | .undef, .undef => .undef
  | .c x, .c y => .c (mergeC b x y)
  | .a l, .a m => match mergeL b l m with
    | some r => .a r
    | none => .any
  | .tup l, .tup m => match mergeEs b l m with
    | some r => .tup r
    | none => .any
  | _, _ => .any
/-- Two rows, cell by cell. -/
def mergeR (b : Bool) (l m : List SC) : List SC :=
  match mergeL b l m with
  | some r => r
  | none => []
def mergeSeg (b : Bool) : Option Seg → Option Seg → Option Seg
  | some ⟨w, o, .cells l⟩, some ⟨w', o', .cells m⟩ => match mergeL b l m with
    | some r => some ⟨w && w', o && o', .cells r⟩
    | none => none
  | some ⟨w, o, .rows st n row⟩, some ⟨w', o', .rows st' n' row'⟩ => match Nat.beq st st' with
    | true => some ⟨w && w', o && o', .rows st (bif b then n else n') (fun j => mergeR b (row j) (row' j))⟩
    | false => none
  | _, _ => none
def mergeTs (b : Bool) (l1 l2 : List Ly) (ks : List Nat) (T : Top) : Top :=
  List.rec (motive := fun _ => Top → Top) (fun T => T) (fun k _ ih T => ih (T.setT k (mergeV b (getT l1 k) (getT l2 k)))) ks T
def fsts {α : Type} (l : List (Nat × α)) : List Nat :=
  List.rec (motive := fun _ => List Nat) [] (fun p _ ih => p.1 :: ih) l
def inN (n : Nat) (l : List Nat) : Bool :=
  List.rec (motive := fun _ => Bool) false (fun m _ ih => Bool.rec ih true (Nat.beq n m)) l
/-- Each once. -/
def onceN (l : List Nat) : List Nat :=
  List.rec (motive := fun _ => List Nat) [] (fun n _ ih => Bool.rec (n :: ih) ih (inN n ih)) l
def posD : Option SD → Option (List Nat)
  | none => some []
  | some (.diff d) => some (fsts d)
  | _ => none
def mergeAt (b : Bool) (l m : List SC) (ps : List Nat) : List (Nat × SC) :=
  List.rec (motive := fun _ => List (Nat × SC)) [] (fun j _ ih => (j, mergeC b (l.getD j .any) (m.getD j .any)) :: ih) ps
def mergeF (b : Bool) (g1 g2 : Option Seg) : SD := sdOf (mergeSeg b g1 g2)
def mergeD (b : Bool) (d1 d2 : Option SD) (g1 g2 : Option Seg) : SD :=
  match posD d1, posD d2 with
  | some p1, some p2 => match g1, g2 with
    | some ⟨_, _, .cells l⟩, some ⟨_, _, .cells m⟩ => .diff (mergeAt b l m (onceN (p1 ++ p2)))
    | _, _ => .gone
  | _, _ => mergeF b g1 g2
def mergeSs (b : Bool) (y1 y2 : Ly) (R : List Ly) (ks : List Nat) (T : Top) : Top :=
  List.rec (motive := fun _ => Top → Top) (fun T => T) (fun k _ ih T => ih (T.setD k (mergeD b (y1.s.get k) (y2.s.get k) (getS (y1 :: R) k) (getS (y2 :: R) k)))) ks T
/-- Two overlays over one ground become one: 'b' says which. -/
def mergeTop (b : Bool) (R : List Ly) (o1 o2 : Top) : Top :=
  mergeSs b o1.ly o2.ly R (o1.ly.s.keys 1 0 (o2.ly.s.keys 1 0 []))
    (mergeTs b (o1.ly :: R) (o2.ly :: R) (o1.ly.t.keys 1 0 (o2.ly.t.keys 1 0 [])) (Top.empty (max o1.next o2.next)))
def commitT (l : List Ly) (ks : List Nat) (T : Top) : Top :=
  List.rec (motive := fun _ => Top → Top) (fun T => T) (fun k _ ih T => ih (T.setT k (getT l k))) ks T
def commitD (t o : Option SD) : SD :=
  match o with
  | none => match t with
    | some v => v
    | none => .diff []
  | some .gone => .gone
  | some (.full g) => .full g
  | some (.diff d) => match t with
    | none => .diff d
    | some .gone => .gone
    | some (.full g) => .full ⟨g.rw, g.own, patchB d g.body⟩
    | some (.diff d0) => .diff (d ++ d0)
def commitS (y o : Ly) (ks : List Nat) (T : Top) : Top :=
  List.rec (motive := fun _ => Top → Top) (fun T => T) (fun k _ ih T => ih (T.setD k (commitD (y.s.get k) (o.s.get k)))) ks T
/-- An overlay is laid onto its ground's first layer. -/
def commit (T o : Top) : Top := commitS T.ly o.ly (o.ly.s.keys 1 0 []) (commitT [o.ly] (o.ly.t.keys 1 0 []) ⟨T.ly, o.next⟩)

/-! ### one operation -/
structure Eff where
  val : SV
  ws : List (Nat × Option Seg)
  next : Nat
  rd : List Nat
  obs : List Bool

def svOfC : Value → Option SC
  | .bool true => some (.bool .t)
  | .bool false => some (.bool .f)
  | .int k n => some (.int k (.c n))
  | .float k b => match (k.decode b).isNaN || !Nat.ble (b + 1) (2 ^ k.format.width) with
    | true => none
    | false => some (.flt k b)
  | .string s => some (.str s)
  | .pointer none => some .nilp
  | .slice none 0 0 => some (.sl 0 0 0 (.c 0) false)
  | _ => none
def svOfL : List Value → Option (List SC)
  | [] => some []
  | v :: r => match svOfC v with
    | some x => match svOfL r with
      | some l => some (x :: l)
      | none => none
    | none => none
def svOf : Value → Option SV
  | .agg cs => match svOfL cs.toList with
    | some l => some (.a l)
    | none => none
  | v => match svOfC v with
    | some x => some (.c x)
    | none => none
def ev (gt : Nat → SV) (x : Operand) : Option SV :=
  Operand.rec (motive := fun _ => (Nat → SV) → Option SV) (fun t gt => some (gt t)) (fun v _ => svOf v) (fun _ _ => none) (fun _ _ => none) x gt
def SV.cells : SV → Option (List SC)
  | .c x => some [x]
  | .a l => some l
  | _ => none
def evC (gt : Nat → SV) (x : Operand) : Option SC :=
  match ev gt x with
  | some (.c c) => some c
  | _ => none
def evL (gt : Nat → SV) (x : Operand) : Option (List SC) :=
  match ev gt x with
  | some v => v.cells
  | none => none

def tsize (P : Program) (t : TypeId) : Option Nat := (P.info? t).map (·.size)
def tbytes (P : Program) (t : TypeId) : Option Nat := (P.info? t).map (·.bytes)
def tagg (P : Program) (t : TypeId) : Option Bool :=
  match P.underlying t with
  | some (.struct _) => some true
  | some (.array _ _) => some true
  | some _ => some false
  | none => none
def tzero (P : Program) (t : TypeId) : Option (List SC) :=
  match P.info? t with
  | some i => match i.zero with
    | some v => svOfL v.cells.toList
    | none => none
  | none => none
def telem (P : Program) (t : TypeId) : Option TypeId :=
  match P.underlying t with
  | some (.slice e) => some e
  | _ => none

/-- 'l' with the cells from 'o' on turned into 'new'. -/
def splice (l : List SC) : Nat → List SC → Option (List SC) :=
  List.rec (motive := fun _ => Nat → List SC → Option (List SC)) (fun _ new => List.rec (some []) (fun _ _ _ => none) new)
    (fun x l ih o new => List.rec (motive := fun _ => Option (List SC)) (some (x :: l))
      (fun y new' _ => Nat.rec (motive := fun _ => Option (List SC)) (Option.rec none (fun r => some (y :: r)) (ih 0 new')) (fun o' _ => Option.rec none (fun r => some (x :: r)) (ih o' (y :: new'))) o) new) l
def takeL (l : List SC) : Nat → Option (List SC) :=
  List.rec (motive := fun _ => Nat → Option (List SC)) (fun n => Nat.rec (some []) (fun _ _ => none) n)
    (fun x _ ih n => Nat.rec (motive := fun _ => Option (List SC)) (some []) (fun n' _ => Option.rec none (fun r => some (x :: r)) (ih n')) n) l
def dropL (l : List SC) : Nat → List SC :=
  List.rec (motive := fun _ => Nat → List SC) (fun _ => []) (fun x l ih n => Nat.rec (motive := fun _ => List SC) (x :: l) (fun n' _ => ih n') n) l
def part (l : List SC) (o n : Nat) : Option (List SC) := takeL (dropL l o) n
/-- The row that 'idx' names, among 'cnt' rows from 'o' on. -/
def selRow (l : List SC) (o st sz : Nat) (idx : Int) : Nat → Nat → Option (List SC)
  | 0, _ => none
  | 1, j => part l (o + j * st) sz
  | c + 2, j => match part l (o + j * st) sz with
    | some r => match selRow l o st sz idx (c + 1) (j + 1) with
      | some q => mergeL (decide (idx = j)) r q
      | none => none
    | none => none
def putRow (l : List SC) (o st : Nat) (idx : Int) (new : List SC) : Nat → Nat → Option (List SC)
  | 0, _ => some l
  | c + 1, j => match part l (o + j * st) new.length with
    | some r => match mergeL (decide (idx = j)) new r with
      | some q => match splice l (o + j * st) q with
        | some l' => putRow l' o st idx new c (j + 1)
        | none => none
      | none => none
    | none => none

def ofCells (agg : Bool) : List SC → Option SV
  | [x] => match agg with
    | true => some (.a [x])
    | false => some (.c x)
  | l => match agg with
    | true => some (.a l)
    | false => none

def pureE (n : Nat) : Option SV → Option Eff
  | some v => some ⟨v, [], n, [], []⟩
  | none => none

def sLoad (b : SBody) (p : SC) (sz : Nat) : Option (List SC × List Bool) :=
  match b, p with
  | .cells l, .ptr _ o => match part l o sz with
    | some r => some (r, [])
    | none => none
  | .cells l, .ptrx _ o st cnt idx => match selRow l o st sz idx cnt 0 with
    | some r => some (r, [])
    | none => none
  | .rows st n row, .ptrr _ o st' idx => match Nat.beq st st' && Nat.ble (o + sz) st with
    | true => match part (row idx) o sz with
      | some r => some (r, [decide (0 ≤ idx ∧ idx < n)])
      | none => none
    | false => none
  | _, _ => none
/-- Rows, some cells of one of which are new. -/
def putR (row : Int → List SC) (idx : Int) (o : Nat) (new : List SC) (j : Int) : List SC :=
  match part (row j) o new.length with
  | some old => match mergeL (decide (j = idx)) new old with
    | some m => match splice (row j) o m with
      | some r => r
      | none => []
    | none => []
  | none => []
def sStore (b : SBody) (p : SC) (new : List SC) : Option (SBody × List Bool) :=
  match b, p with
  | .cells l, .ptr _ o => match splice l o new with
    | some r => some (.cells r, [])
    | none => none
  | .cells l, .ptrx _ o st cnt idx => match putRow l o st idx new cnt 0 with
    | some r => some (.cells r, [])
    | none => none
  | .rows st n row, .ptrr _ o st' idx => match Nat.beq st st' && Nat.ble (o + new.length) st with
    | true => match splice (row idx) o new with
      | some _ => some (.rows st n (putR row idx o new), [decide (0 ≤ idx ∧ idx < n)])
      | none => none
    | false => none
  | _, _ => none
def ptrId : SC → Option Nat
  | .ptr i _ => some i
  | .ptrx i _ _ _ _ => some i
  | .ptrr i _ _ _ => some i
  | _ => none

def cmpI (op : BinOp) (a b : Int) : Option Bool :=
  match op with
  | .eql => some (decide (a = b))
  | .neq => some (!decide (a = b))
  | .lss => some (decide (a < b))
  | .leq => some (decide (a ≤ b))
  | .gtr => some (decide (b < a))
  | .geq => some (decide (b ≤ a))
  | _ => none
def ariI (op : BinOp) (k : IntKind) (a b : Int) : Option Int :=
  match op with
  | .add => some (k.wrap (a + b))
  | .sub => some (k.wrap (a - b))
  | .mul => some (k.wrap (a * b))
  | _ => none
def isCmp : BinOp → Bool
  | .eql | .neq | .lss | .leq | .gtr | .geq => true
  | _ => false
def isAri : BinOp → Bool
  | .add | .sub | .mul => true
  | _ => false
def isArf : BinOp → Bool
  | .add | .sub | .mul | .quo => true
  | _ => false
def sbOf : Bool → SB
  | true => .t
  | false => .f
def cmpC (r : Option Bool) : Option (SC × List Bool) :=
  match r with
  | some true => some (.bool .t, [])
  | some false => some (.bool .f, [])
  | none => none
def cmpS (r : Option Bool) : Option (SC × List Bool) :=
  match r with
  | some b => some (.bool (.s b), [])
  | none => none
def ariC (k : IntKind) (r : Option Int) : Option (SC × List Bool) :=
  match r with
  | some n => some (.int k (.c n), [])
  | none => none
def ariS (k : IntKind) (r : Option Int) : Option (SC × List Bool) :=
  match r with
  | some n => some (.int k (.s n), [])
  | none => none
def andI (k : IntKind) (m n : Int) : Int := k.wrap ((BitVec.ofInt k.bits m &&& BitVec.ofInt k.bits n).toNat)
def orI (k : IntKind) (m n : Int) : Int := k.wrap ((BitVec.ofInt k.bits m ||| BitVec.ofInt k.bits n).toNat)
def divS (op : BinOp) (k : IntKind) (m n : Int) : Option (SC × List Bool) :=
  match op with
  | .quo => some (.int k (.s (k.wrap (m.tdiv n))), [!decide (n = 0)])
  | .rem => some (.int k (.s (m.tmod n)), [!decide (n = 0)])
  | .and => some (.int k (.s (andI k m n)), [])
  | .or => some (.int k (.s (orI k m n)), [])
  | _ => none
def sInt (op : BinOp) (k : IntKind) : SI → SI → Option (SC × List Bool)
  | .c m, .c n => match isCmp op with
    | true => cmpC (cmpI op m n)
    | false => match isAri op with
      | true => ariC k (ariI op k m n)
      | false => divS op k m n
  | x, y => match isCmp op with
    | true => cmpS (cmpI op x.val y.val)
    | false => match isAri op with
      | true => ariS k (ariI op k x.val y.val)
      | false => divS op k x.val y.val
def sShift (op : BinOp) (k : IntKind) (x : SI) (n : Nat) : Option (SC × List Bool) :=
  match op with
  | .shl => match x with
    | .c m => some (.int k (.c (k.wrap (m * 2 ^ min n k.bits))), [])
    | .s m => some (.int k (.s (k.wrap (m * 2 ^ min n k.bits))), [])
  | _ => match x with
    | .c m => some (.int k (.c (m.fdiv (2 ^ min n k.bits))), [])
    | .s m => some (.int k (.s (m.fdiv (2 ^ min n k.bits))), [])
def isShift : BinOp → Bool
  | .shl | .shr => true
  | _ => false
def sFlt (O : FOps) (op : BinOp) (k : FloatKind) (x y : Nat) : Option (SC × List Bool) :=
  match isArf op with
  | true => some (.flt k (O.bin op k x y), [])
  | false => match isCmp op with
    | true => some (.bool (.s (O.cmp op k x y)), [])
    | false => none
def tbool (P : Program) (t : TypeId) : Bool :=
  match P.underlying t with
  | some .bool => true
  | _ => false
def sBool (tb : Bool) (op : BinOp) (x y : Bool) : Option (SC × List Bool) :=
  match tb with
  | true => match op with
    | .eql => some (.bool (.s (x == y)), [])
    | .neq => some (.bool (.s (!(x == y))), [])
    | _ => none
  | false => none
def sStr (op : BinOp) (x y : ByteArray) : Option (SC × List Bool) :=
  match op with
  | .add => some (.str (x ++ y), [decide (x.size + y.size ≤ 9223372036854775807)])
  | .eql => some (.bool (.s (x.toList == y.toList)), [])
  | .neq => some (.bool (.s (!(x.toList == y.toList))), [])
  | _ => none
def sIntK (op : BinOp) (k k' : IntKind) (x y : SI) : Option (SC × List Bool) :=
  match isShift op with
  | true => match y with
    | .c (.ofNat n) => sShift op k x n
    | _ => none
  | false => match decide (k = k') with
    | false => none
    | true => sInt op k x y
def sFltK (O : FOps) (op : BinOp) (k k' : FloatKind) (x y : Nat) : Option (SC × List Bool) :=
  match decide (k = k') with
  | false => none
  | true => sFlt O op k x y
def sBin (O : FOps) (tb : Bool) (op : BinOp) (a b : SC) : Option (SC × List Bool) :=
  SC.rec (motive := fun _ => FOps → Bool → BinOp → SC → Option (SC × List Bool))
    (any := fun _ _ _ _ => none)
    (bool := fun x _ tb op b => SC.rec (motive := fun _ => Option (SC × List Bool)) none (fun y => sBool tb op x.val y.val) (fun _ _ => none) (fun _ _ => none) (fun _ => none) none (fun _ _ => none) (fun _ _ _ _ _ => none) (fun _ _ _ _ => none) (fun _ _ _ _ _ => none) (fun _ _ _ _ => none) b)
    (int := fun k x _ _ op b => SC.rec (motive := fun _ => Option (SC × List Bool)) none (fun _ => none) (fun k' y => sIntK op k k' x y) (fun _ _ => none) (fun _ => none) none (fun _ _ => none) (fun _ _ _ _ _ => none) (fun _ _ _ _ => none) (fun _ _ _ _ _ => none) (fun _ _ _ _ => none) b)
    (flt := fun k x O _ op b => SC.rec (motive := fun _ => Option (SC × List Bool)) none (fun _ => none) (fun _ _ => none) (fun k' y => sFltK O op k k' x y) (fun _ => none) none (fun _ _ => none) (fun _ _ _ _ _ => none) (fun _ _ _ _ => none) (fun _ _ _ _ _ => none) (fun _ _ _ _ => none) b)
    (str := fun x _ _ op b => SC.rec (motive := fun _ => Option (SC × List Bool)) none (fun _ => none) (fun _ _ => none) (fun _ _ => none) (fun y => sStr op x y) none (fun _ _ => none) (fun _ _ _ _ _ => none) (fun _ _ _ _ => none) (fun _ _ _ _ _ => none) (fun _ _ _ _ => none) b)
    (nilp := fun _ _ _ _ => none)
    (ptr := fun _ _ _ _ _ _ => none)
    (ptrx := fun _ _ _ _ _ _ _ _ _ => none)
    (ptrr := fun _ _ _ _ _ _ _ _ => none)
    (sl := fun _ _ _ _ _ _ _ _ _ => none)
    (slr := fun _ _ _ _ _ _ _ _ => none) a O tb op b
def sUn (O : FOps) (op : UnOp) : SC → Option SC
  | .bool b => match op with
    | .not => some (.bool b.not)
    | _ => none
  | .flt k x => match op with
    | .neg => some (.flt k (O.neg k x))
    | _ => none
  | .int k (.c n) => match op with
    | .neg => some (.int k (.c (k.wrap (0 - n))))
    | _ => none
  | .int k (.s n) => match op with
    | .neg => some (.int k (.s (k.wrap (0 - n))))
    | _ => none
  | _ => none
def sConv (O : FOps) (d : TypeDesc) : SC → Option (SC × List Bool)
  | .int _ (.c n) => match d with
    | .int k => some (.int k (.c (k.wrap n)), [])
    | .float k => some (.flt k (O.ofInt k n), [])
    | _ => none
  | .int _ (.s n) => match d with
    | .int k => some (.int k (.s (k.wrap n)), [])
    | .float k => some (.flt k (O.ofInt k n), [])
    | _ => none
  | .flt s x => match d with
    | .float k => match decide (s = k) with
      | true => some (.flt k x, [])
      | false => match s with
        | .f32 => some (.flt k (O.conv s k x), [])
        | .f64 => some (.flt k (O.conv s k x), [O.convOk s k x])
    | .int k => some (.int k (.s (O.toInt s k x)), [O.toIntOk s k x])
    | _ => none
  | .str s => match d with
    | .string => some (.str s, [])
    | _ => none
  | _ => none

def fillC (pl : Nat → Option (Nat × Nat)) (gt : Nat → SV) : List SC → List (Nat × Operand) → Option (List SC)
  | l, [] => some l
  | l, (i, x) :: r => match pl i with
    | some (o, sz) => match evL gt x with
      | some new => match Nat.beq new.length sz && Nat.ble (o + sz) l.length with
        | true => match splice l o new with
          | some l' => fillC pl gt l' r
          | none => none
        | false => none
      | none => none
    | none => none
def fieldPl (P : Program) (fs : Array Field) (i : Nat) : Option (Nat × Nat) :=
  match fs[i]? with
  | some f => match tsize P f.type with
    | some s => some (f.offset, s)
    | none => none
  | none => none
def repL (z : List SC) : Nat → List SC
  | 0 => []
  | n + 1 => z ++ repL z n

/-- An address of element 'i' behind 'p'. -/
def sIndex (len es : Nat) (p : SC) (i : SI) : Option (SC × List Bool) :=
  match p, i with
  | .ptr id o, .c (.ofNat n) => match Nat.ble (n + 1) len with
    | true => some (.ptr id (o + n * es), [])
    | false => none
  | .ptr id o, .s n => some (.ptrx id o es len n, [decide (0 ≤ n ∧ n < len)])
  | .ptrr id o st idx, .c (.ofNat n) => match Nat.ble (n + 1) len with
    | true => some (.ptrr id (o + n * es) st idx, [])
    | false => none
  | _, _ => none
def sIndexS (P : Program) (id o es es' : Nat) (len : SI) (g : Option Seg) (i : SI) : Option (SC × List Bool) :=
  match len, i with
  | .c (.ofNat m), .c (.ofNat n) => match Nat.ble (n + 1) m && Nat.beq es es' with
    | true => some (.ptr id (o + n * es), [])
    | false => none
  | .c (.ofNat m), .s n => match Nat.beq es es' with
    | true => some (.ptrx id o es m n, [decide (0 ≤ n ∧ n < m)])
    | false => none
  | .s m, n => match Nat.beq es es', g with
    | true, some ⟨_, _, .rows st _ _⟩ => match Nat.beq o 0 && Nat.beq st es with
      | true => some (.ptrr id 0 es n.val, [decide (0 ≤ n.val ∧ n.val < m)])
      | false => match Nat.beq (o % es) 0 && (Nat.beq st es && Nat.ble 1 es) with
        | true => some (.ptrr id 0 es (n.val + ((o / es : Nat) : Int)), [decide (0 ≤ n.val ∧ n.val < m)])
        | false => none
    | _, _ => none
  | _, _ => none

/-! ### calls -/
structure CEff where
  ret : SV
  ws : List (Nat × Option Seg)
  next : Nat
  obs : List Bool
/-- What a call does: the first free id, the arguments, the segments that they lead to. -/
def CS := Nat → List SV → List (Nat × Seg) → Option CEff

def idsC : SC → List Nat → List Nat
  | .ptr i _, acc => i :: acc
  | .ptrx i _ _ _ _, acc => i :: acc
  | .ptrr i _ _ _, acc => i :: acc
  | .sl i _ _ _ _, acc => i :: acc
  | _, acc => acc
def idsL (l : List SC) (acc : List Nat) : List Nat :=
  List.rec (motive := fun _ => List Nat) acc (fun x _ ih => idsC x ih) l
def idsE : List SE → List Nat → List Nat
  | [], acc => acc
  | .c x :: l, acc => idsC x (idsE l acc)
  | .a m :: l, acc => idsL m (idsE l acc)
def idsV : SV → List Nat → List Nat
  | .any, acc => acc
  | .undef, acc => acc
  | .c x, acc => idsC x acc
  | .a l, acc => idsL l acc
  | .tup l, acc => idsE l acc
def idsVs : List SV → List Nat → List Nat
  | [], acc => acc
  | v :: l, acc => idsV v (idsVs l acc)
def memN (n : Nat) (l : List Nat) : Bool :=
  List.rec (motive := fun _ => Bool) false (fun m _ ih => Bool.rec ih true (Nat.beq n m)) l
def hasId {α : Type} (n : Nat) : List (Nat × α) → Bool
  | [] => false
  | (m, _) :: l => match Nat.beq n m with
    | true => true
    | false => hasId n l
/-- The segments of some ids, each once, onto 'acc'. -/
def grab (gs : Nat → Option Seg) : List Nat → List (Nat × Seg) → List (Nat × Seg)
  | [], acc => acc
  | i :: l, acc => match hasId i acc with
    | true => grab gs l acc
    | false => match gs i with
      | some s => grab gs l ((i, s) :: acc)
      | none => grab gs l acc
def idsSegs : List (Nat × Seg) → List Nat → List Nat
  | [], acc => acc
  | (_, ⟨_, _, .cells l⟩) :: r, acc => idsL l (idsSegs r acc)
  | (_, ⟨_, _, .rows _ _ _⟩) :: r, acc => idsSegs r acc
def reach1 (gs : Nat → Option Seg) (args : List SV) : List (Nat × Seg) := grab gs (idsVs args []) []
def reach (gs : Nat → Option Seg) (args : List SV) : List (Nat × Seg) := grab gs (idsSegs (reach1 gs args) []) (reach1 gs args)
/-- All ids that 'reach' looks at. -/
def reachI (gs : Nat → Option Seg) (args : List SV) : List Nat := idsVs args [] ++ idsSegs (reach1 gs args) []
def findS (i : Nat) : List (Nat × Seg) → Option Seg
  | [] => none
  | (j, s) :: l => match Nat.beq i j with
    | true => some s
    | false => findS i l
def fstsN {α : Type} : List (Nat × α) → List Nat
  | [] => []
  | (i, _) :: l => i :: fstsN l
def evs (gt : Nat → SV) : List Operand → Option (List SV)
  | [] => some []
  | x :: l => match ev gt x with
    | some v => match evs gt l with
      | some r => some (v :: r)
      | none => none
    | none => none

structure Cx where
  P : Program
  O : FOps
  orc : Nat → Option CS

def idRd : Option Nat → List Nat
  | some i => [i]
  | none => []
def sLen (P : Program) (t : TypeId) : SC → Option SC
  | .sl _ _ _ n _ => match P.underlying t with
    | some (.slice _) => some (.int .i64 n)
    | _ => none
  | .str s => match P.underlying t with
    | some .string => some (.int .i64 (.s s.size))
    | _ => none
  | _ => none
/-- 'f' behind a cell. -/
def bindC {β : Type} (x : Option SV) (f : SC → Option β) : Option β :=
  Option.rec none (fun v => SV.rec none none f (fun _ => none) (fun _ => none) v) x
def bindO {γ β : Type} (x : Option γ) (f : γ → Option β) : Option β := Option.rec none f x
/-- The cells that 'append' adds. -/
def appNew (gs : Nat → Option Seg) (i2 o2 e2 es m : Nat) : Option (List SC) :=
  match Nat.beq m 0 with
  | true => some []
  | false => match Nat.beq e2 es with
    | true => match gs i2 with
      | some g => match sLoad g.body (.ptr i2 o2) (m * es) with
        | some (l, []) => some l
        | _ => none
      | none => none
    | false => none
def appOwn (gs : Nat → Option Seg) (next i1 i2 n m es : Nat) (new : List SC) : Option Eff :=
  match gs i1 with
  | some ⟨true, true, .cells l1⟩ => match Nat.ble (n * es + m * es) l1.length && (Nat.ble 1 n || Nat.beq m 0) with
    | true => match splice l1 (n * es) new with
      | some r => some ⟨.c (.sl i1 0 es (.c (.ofNat (n + m))) true), [(i1, some ⟨true, true, .cells r⟩)], next, [i1, i2], []⟩
      | none => none
    | false => match Nat.ble (l1.length + 1) (n * es + m * es) with
      | true => match takeL l1 (n * es) with
        | some old => some ⟨.c (.sl next 0 es (.c (.ofNat (n + m))) true), [(i1, none), (next, some ⟨true, true, .cells (old ++ new)⟩)], next + 1, [i1, i2], []⟩
        | none => none
      | false => none
  | _ => none
def sApp (P : Program) (e : TypeId) (gs : Nat → Option Seg) (next i1 o1 e1 n : Nat) (f1 : Bool) (i2 o2 e2 m es by' : Nat) (z : List SC) : Option Eff :=
  match Nat.ble 1 es && Nat.ble (n + m) 1000000 && Nat.ble by' 1000000 && Nat.beq z.length es with
  | false => none
  | true => bindO (appNew gs i2 o2 e2 es m) fun new => match Nat.beq i1 0 with
    | true => match Nat.beq n 0 with
      | true => match Nat.beq m 0 with
        | true => some ⟨.c (.sl 0 0 0 (.c 0) false), [], next, [], []⟩
        | false => some ⟨.c (.sl next 0 es (.c (.ofNat m)) true), [(next, some ⟨true, true, .cells new⟩)], next + 1, [i2], []⟩
      | false => none
    | false => match Nat.beq o1 0 && Nat.beq e1 es && f1 with
      | true => appOwn gs next i1 i2 n m es new
      | false => none
/-- Rows onto an empty slice; a row onto rows. -/
def appR (next i1 i2 es : Nat) (b1 : SBody) (n : SI) (b2 : SBody) (o2 : Nat) (m : SI) : Option Eff :=
  match n with
  | .c (.ofNat k) => match Nat.beq k 0 with
    | true => match b2 with
      | .rows st N row => match m with
        | .s m => match Nat.beq o2 0 && Nat.beq st es with
          | true => some ⟨.c (.sl next 0 es (.s m) true), [(i1, none), (next, some ⟨true, true, .rows es m row⟩)], next + 1, [i1, i2], [decide (0 ≤ m ∧ m ≤ N ∧ m ≤ 1000000)]⟩
          | false => none
        | .c _ => none
      | .cells _ => none
    | false => none
  | .s n => match b1 with
    | .rows st N row => match m with
      | .c (.ofNat k) => match b2 with
        | .cells l => match Nat.beq k 1 && Nat.beq st es with
          | true => match part l o2 es with
            | some r => some ⟨.c (.sl next 0 es (.s (n + 1)) true), [(i1, none), (next, some ⟨true, true, .rows es (n + 1) (fun j => bif decide (j < n) then row j else r)⟩)], next + 1, [i1, i2], [decide (0 ≤ n ∧ n ≤ N ∧ n ≤ 999999)]⟩
            | none => none
          | false => match Nat.beq k 2 && Nat.beq st es with
            | true => match part l o2 es with
              | some r => match part l (o2 + es) es with
                | some r' => some ⟨.c (.sl next 0 es (.s (n + 2)) true), [(i1, none), (next, some ⟨true, true, .rows es (n + 2) (fun j => bif decide (j < n) then row j else bif decide (j = n) then r else r')⟩)], next + 1, [i1, i2], [decide (0 ≤ n ∧ n ≤ N ∧ n ≤ 999998)]⟩
                | none => none
              | none => none
            | false => none
        | .rows _ _ _ => none
      | _ => none
    | .cells _ => none
  | _ => none
/-- Rows onto rows. -/
def sAppRR (gs : Nat → Option Seg) (next i1 o1 e1 : Nat) (n : SI) (f1 : Bool) (i2 e2 : Nat) (idx m : Int) (es by' : Nat) (z : List SC) : Option Eff :=
  match Nat.ble 1 es && Nat.ble by' 1000000 && Nat.beq z.length es && Nat.ble 1 i1 && Nat.beq o1 0 && Nat.beq e1 es && f1 && Nat.beq e2 es with
  | false => none
  | true => match n with
    | .c _ => none
    | .s n => match gs i1 with
      | some ⟨true, true, .rows st N row⟩ => match gs i2 with
        | some ⟨_, _, .rows st2 N2 row2⟩ => match Nat.beq st es && Nat.beq st2 es with
          | true => some ⟨.c (.sl next 0 es (.s (n + m)) true), [(i1, none), (next, some ⟨true, true, .rows es (n + m) (fun j => bif decide (j < n) then row j else row2 (j - n + idx))⟩)], next + 1, [i1, i2], [decide (0 ≤ n ∧ n ≤ N ∧ 0 ≤ m ∧ 0 ≤ idx ∧ idx + m ≤ N2 ∧ n + m ≤ 1000000)]⟩
          | false => none
        | _ => none
      | _ => none
def sAppR (gs : Nat → Option Seg) (next i1 o1 e1 : Nat) (n : SI) (f1 : Bool) (i2 o2 e2 : Nat) (m : SI) (es by' : Nat) (z : List SC) : Option Eff :=
  match Nat.ble 1 es && Nat.ble by' 1000000 && Nat.beq z.length es && Nat.ble 1 i1 && Nat.beq o1 0 && Nat.beq e1 es && f1 && Nat.beq e2 es with
  | false => none
  | true => match gs i1 with
    | some ⟨true, true, b1⟩ => bindO (gs i2) fun g2 => appR next i1 i2 es b1 n g2.body o2 m
    | _ => none
/-- 'append(s, x...)' at known lengths, or of rows. -/
def sAppend (P : Program) (t : TypeId) (gs : Nat → Option Seg) (next : Nat) : SC → SC → Option Eff
  | .sl i1 o1 e1 (.c (.ofNat n)) f1, .sl i2 o2 e2 (.c (.ofNat m)) _ =>
    bindO (telem P t) fun e => bindO (tsize P e) fun es => bindO (tbytes P e) fun by' => bindO (tzero P e) fun z => sApp P e gs next i1 o1 e1 n f1 i2 o2 e2 m es by' z
  | .sl i1 o1 e1 n f1, .sl i2 o2 e2 m _ =>
    bindO (telem P t) fun e => bindO (tsize P e) fun es => bindO (tbytes P e) fun by' => bindO (tzero P e) fun z => sAppR gs next i1 o1 e1 n f1 i2 o2 e2 m es by' z
  | .sl i1 o1 e1 n f1, .slr i2 e2 idx m =>
    bindO (telem P t) fun e => bindO (tsize P e) fun es => bindO (tbytes P e) fun by' => bindO (tzero P e) fun z => sAppRR gs next i1 o1 e1 n f1 i2 e2 idx m es by' z
  | _, _ => none
/-- 'x[lo:hi]' at known places. -/
def natOf (gt : Nat → SV) : Option Operand → Nat → Option Nat
  | none, d => some d
  | some x, _ => match evC gt x with
    | some (.int _ (.c (.ofNat n))) => some n
    | _ => none
def sSlice (P : Program) (t : TypeId) (gt : Nat → SV) (x : SC) (lo hi : Option Operand) : Option SC :=
  match P.underlying t, x with
  | some (.array n e), .ptr i o => match tsize P e with
    | some es => match natOf gt lo 0, natOf gt hi n with
      | some l, some h => match Nat.ble l h && Nat.ble h n && Nat.ble 1 i with
        | true => some (.sl i (o + l * es) es (.c (.ofNat (h - l))) false)
        | false => none
      | _, _ => none
    | none => none
  | some (.slice e), .sl i o es (.c (.ofNat n)) f => match tsize P e with
    | some es' => match natOf gt lo 0, natOf gt hi n with
      | some l, some h => match Nat.ble l h && Nat.ble h n && Nat.beq es es' with
        | true => some (.sl i (o + l * es) es (.c (.ofNat (h - l))) f)
        | false => none
      | _, _ => none
    | none => none
  | _, _ => none
def mkC (next n es : Nat) (z : List SC) : Option Eff :=
  some ⟨.c (.sl next 0 es (.c (.ofNat n)) true), [(next, some ⟨true, true, .cells (repL z n)⟩)], next + 1, [], []⟩
/-- Known whole numbers, told of as if they were not. -/
def softC : SC → SC
  | .int k (.c m) => .int k (.s m)
  | x => x
def softL (l : List SC) : List SC := List.rec (motive := fun _ => List SC) [] (fun x _ ih => softC x :: ih) l
def mkS (next es : Nat) (n m : Int) (z : List SC) : Option Eff :=
  some ⟨.c (.sl next 0 es (.s n) true), [(next, some ⟨true, true, .rows es n (fun _ => softL z)⟩)], next + 1, [], [decide (n = m ∧ 0 ≤ n ∧ n ≤ 100000000)]⟩
def sMake2 (next : Nat) (x y : SI) (es by' : Nat) (z : List SC) : Option Eff :=
  match Nat.ble by' 1000000 && Nat.beq z.length es && Nat.ble 1 es with
  | false => none
  | true => match x, y with
    | .c (.ofNat n), .c (.ofNat m) => match Nat.beq n m && Nat.ble n 1000000 with
      | true => mkC next n es z
      | false => none
    | .s n, .s m => mkS next es n m z
    | _, _ => none
def sMake (P : Program) (t : TypeId) (next : Nat) : SC → SC → Option Eff
  | .int _ x, .int _ y => match telem P t with
    | none => none
    | some e => match tsize P e, tbytes P e, tzero P e with
      | some es, some by', some z => sMake2 next x y es by' z
      | _, _, _ => none
  | _, _ => none
def retV (next : Nat) (v : SV) : Option Eff := some ⟨v, [], next, [], []⟩
def retO (next : Nat) (r : Option (SC × List Bool)) : Option Eff :=
  match r with
  | some (c, ob) => some ⟨.c c, [], next, [], ob⟩
  | none => none
def newE (next : Nat) (v : SC) (l : List SC) : Option Eff := some ⟨.c v, [(next, some ⟨true, true, .cells l⟩)], next + 1, [], []⟩
def oPick (next : Nat) (c : SC) (a b : Option SV) : Option Eff :=
  match c with
  | .bool .t => bindO a (retV next)
  | .bool .f => bindO b (retV next)
  | .bool (.s d) => bindO a fun x => bindO b fun y => retV next (mergeV d x y)
  | _ => none
def oAlloc (next : Nat) (z : Option (List SC)) (n : Option Nat) : Option Eff :=
  bindO z fun z => bindO n fun n => match Nat.beq z.length n with
    | true => newE next (.ptr next 0) z
    | false => none
def oBuild (P : Program) (gt : Nat → SV) (next : Nat) (z : List SC) (d : Option TypeDesc) (parts : List (Nat × Operand)) : Option Eff :=
  match d with
  | some (.struct fs) => bindO (fs.toList.mapM (fun f => (P.info? f.type).map fun i => (f.offset, i.size))) fun pl => bindO (fillC (fun i => pl[i]?) gt z parts) fun l => retV next (.a l)
  | some (.array _ e) => bindO (tsize P e) fun s => bindO (fillC (fun i => some (i * s, s)) gt z parts) fun l => retV next (.a l)
  | _ => none
def oBuildSlice (P : Program) (gt : Nat → SV) (next : Nat) (e : TypeId) (len : Nat) (parts : List (Nat × Operand)) : Option Eff :=
  bindO (tsize P e) fun s => bindO (tzero P e) fun z => match Nat.ble (len * s) 16777216 && Nat.beq z.length s && Nat.ble 1 s with
    | true => bindO (fillC (fun i => some (i * s, s)) gt (repL z len) parts) fun l => newE next (.sl next 0 s (.c (.ofNat len)) true) l
    | false => none
def oLoad (P : Program) (gs : Nat → Option Seg) (next : Nat) (t : TypeId) (p : SC) : Option Eff :=
  bindO (ptrId p) fun i => bindO (gs i) fun g => bindO (tsize P t) fun n => bindO (tagg P t) fun ag => bindO (sLoad g.body p n) fun r =>
    bindO (ofCells ag r.1) fun v => some ⟨v, [], next, [i], r.2⟩
def oStore2 (next i n : Nat) (o : Bool) (b : SBody) (p : SC) (l : List SC) : Option Eff :=
  match Nat.beq l.length n with
  | true => bindO (sStore b p l) fun r => some ⟨.undef, [(i, some ⟨true, o, r.1⟩)], next, [i], r.2⟩
  | false => none
def oStore (P : Program) (gs : Nat → Option Seg) (next : Nat) (t : TypeId) (p : SC) (x : Option (List SC)) : Option Eff :=
  bindO (ptrId p) fun i => bindO (gs i) fun g => bindO (tsize P t) fun n => bindO x fun l => match g.rw with
    | true => oStore2 next i n g.own g.body p l
    | false => none
def oNil (next : Nat) (p : SC) : Option Eff := bindO (ptrId p) fun _ => retV next (.c p)
def oUn (O : FOps) (next : Nat) (op : UnOp) (a : SC) : Option Eff := bindO (sUn O op a) fun r => retV next (.c r)
def oConv (P : Program) (O : FOps) (next : Nat) (s d : TypeId) (a : SC) : Option Eff :=
  bindO (P.underlying s) fun _ => bindO (P.underlying d) fun u => retO next (sConv O u a)
/-- The string of some bytes. -/
def bytesL (l : List Int) : ByteArray := l.foldl (fun r n => r.push (UInt8.ofNat n.toNat)) ByteArray.empty
def u8s : List SC → Option (List Int)
  | [] => some []
  | .int .u8 n :: l => match u8s l with
    | some r => some (n.val :: r)
    | none => none
  | _ :: _ => none
/-- 'string(x)' of known many bytes. -/
def oBytes (P : Program) (gs : Nat → Option Seg) (next : Nat) (s d : TypeId) (i o es n : Nat) : Option Eff :=
  match P.underlying s, P.underlying d with
  | some (.slice e), some .string => match P.underlying e with
    | some (.int .u8) => match Nat.ble 1 n with
      | true => bindO (gs i) fun g => bindO (sLoad g.body (.ptr i o) n) fun r => bindO (u8s r.1) fun l => some ⟨.c (.str (bytesL l)), [], next, [i], r.2⟩
      | false => none
    | _ => none
  | _, _ => none
def oConvB (P : Program) (O : FOps) (gs : Nat → Option Seg) (next : Nat) (s d : TypeId) (a : SC) : Option Eff :=
  match a with
  | .sl i o es (.c (.ofNat n)) _ => oBytes P gs next s d i o es n
  | a => oConv P O next s d a
def addOff (o : Nat) : SC → Option SC
  | .ptr i o' => some (.ptr i (o' + o))
  | .ptrx i o' st cnt idx => some (.ptrx i (o' + o) st cnt idx)
  | .ptrr i o' st idx => some (.ptrr i (o' + o) st idx)
  | _ => none
def oFieldAddr (P : Program) (next : Nat) (d : Option TypeDesc) (p : SC) (f : Nat) : Option Eff :=
  match d with
  | some (.struct fs) => bindO (fieldPl P fs f) fun r => match r.2 with
    | _ + 1 => bindO (addOff r.1 p) fun c => retV next (.c c)
    | 0 => none
  | _ => none
def oField (P : Program) (next : Nat) (d : Option TypeDesc) (x : SV) (f : Nat) : Option Eff :=
  match d with
  | some (.struct fs) => match x with
    | .a l => bindO fs[f]? fun g => bindO (tsize P g.type) fun n => bindO (tagg P g.type) fun ag => bindO (part l g.offset n) fun r => bindO (ofCells ag r) (retV next)
    | _ => none
  | _ => none
def oIndexAddr2 (P : Program) (gs : Nat → Option Seg) (next : Nat) (e : TypeId) (p : SC) (n : SI) : Option Eff :=
  match p with
  | .sl id o es m _ => bindO (tsize P e) fun es' => bindO (sIndexS P id o es es' m (gs id) n) fun r => some ⟨.c r.1, [], next, [id], r.2⟩
  | _ => none
def oIndexAddr (P : Program) (gs : Nat → Option Seg) (next : Nat) (d : Option TypeDesc) (p i : SC) : Option Eff :=
  match i with
  | .int _ n => match d with
    | some (.array len e) => match Nat.ble 2 len with
      | true => bindO (tsize P e) fun es => retO next (sIndex len es p n)
      | false => none
    | some (.slice e) => oIndexAddr2 P gs next e p n
    | _ => none
  | _ => none
def oIndex2 (next : Nat) (l : List SC) (n : SI) (len es : Nat) (ag : Bool) : Option Eff :=
  match n with
  | .c (.ofNat m) => match Nat.ble (m + 1) len with
    | true => bindO (part l (m * es) es) fun r => bindO (ofCells ag r) (retV next)
    | false => none
  | .s m => bindO (selRow l 0 es es m len 0) fun r => bindO (ofCells ag r) fun v => some ⟨v, [], next, [], [decide (0 ≤ m ∧ m < len)]⟩
  | _ => none
/-- A byte of a string. -/
def byteAt (s : ByteArray) (j : Int) : Int := ((s.data.toList.getD j.toNat 0).toNat : Nat)
def oIndexStr (next : Nat) (d : Option TypeDesc) (s : ByteArray) (n : SI) : Option Eff :=
  match d with
  | some .string => some ⟨.c (.int .u8 (.s (byteAt s n.val))), [], next, [], [decide (0 ≤ n.val ∧ n.val < (s.size : Int))]⟩
  | _ => none
def oIndex (P : Program) (next : Nat) (d : Option TypeDesc) (x : SV) (i : SC) : Option Eff :=
  match i with
  | .int _ n => match x with
    | .a l => match d with
      | some (.array len e) => bindO (tsize P e) fun es => bindO (tagg P e) fun ag => oIndex2 next l n len es ag
      | _ => none
    | .c (.str s) => oIndexStr next d s n
    | _ => none
  | _ => none
def oExtract (next : Nat) (x : SV) (i : Nat) : Option Eff :=
  match x with
  | .tup l => match l[i]? with
    | some (.c c) => retV next (.c c)
    | some (.a m) => retV next (.a m)
    | none => none
  | _ => none
def oLen (P : Program) (gt : Nat → SV) (next : Nat) (args : List Operand) (ts : List TypeId) : Option Eff :=
  match args, ts with
  | [x], t :: _ => bindC (ev gt x) fun a => bindO (sLen P t a) fun r => retV next (.c r)
  | _, _ => none
def oAppend (P : Program) (gt : Nat → SV) (gs : Nat → Option Seg) (next : Nat) (args : List Operand) (ts : List TypeId) : Option Eff :=
  match args, ts with
  | [x, y], t :: t' :: _ => bindO (telem P t') fun _ => bindC (ev gt x) fun a => bindC (ev gt y) fun b => sAppend P t gs next a b
  | _, _ => none
/-- What a call writes is new or was handed to it. -/
def wsOk1 (next hi : Nat) (rd : List (Nat × Seg)) (i : Nat) (v : Option Seg) : Bool :=
  match findS i rd with
  | some g => match v with
    | some g' => !g'.rw || g.rw
    | none => true
  | none => Nat.ble next i && Nat.ble (i + 1) hi && (match v with
    | some g' => g'.rw
    | none => true)
def wsOk (next hi : Nat) (rd : List (Nat × Seg)) (l : List (Nat × Option Seg)) : Bool :=
  List.rec (motive := fun _ => Bool) true (fun p _ ih => Bool.rec false ih (wsOk1 next hi rd p.1 p.2)) l
def oFn (gs : Nat → Option Seg) (next : Nat) (S : CS) (vs : List SV) (rd : List (Nat × Seg)) : Option Eff :=
  bindO (S next vs rd) fun e => Bool.rec none (some ⟨e.ret, e.ws, e.next, reachI gs vs, e.obs⟩) (wsOk next e.next rd e.ws && Nat.ble 1 next && Nat.ble next e.next)
def oCall (cx : Cx) (gt : Nat → SV) (gs : Nat → Option Seg) (next : Nat) (c : Call) : Option Eff :=
  match c.callee with
  | .builtin b => match b with
    | .len => oLen cx.P gt next c.args.toList c.argTypes.toList
    | .append => oAppend cx.P gt gs next c.args.toList c.argTypes.toList
    | _ => none
  | .value x => match x with
    | .func f => bindO (cx.orc f) fun S => bindO (evs gt c.args.toList) fun vs => oFn gs next S vs (reach gs vs)
    | _ => none
  | _ => none
def siOf (gt : Nat → SV) : Option Operand → Option SI
  | none => none
  | some x => match evC gt x with
    | some (.int _ n) => some n
    | _ => none
/-- 'x[lo:]' or 'x[:hi]' of a slice whose length is not known. -/
def oSliceS (P : Program) (gt : Nat → SV) (next : Nat) (t : TypeId) (i o es : Nat) (n : Int) (f : Bool) (lo hi : Option Operand) : Option Eff :=
  match P.underlying t with
  | some (.slice e) => bindO (tsize P e) fun es' => match Nat.beq es es' with
    | true => match hi with
      | some _ => match lo with
        | none => match siOf gt hi with
          | some (.s m) => some ⟨.c (.sl i o es (.s m) f), [], next, [], [decide (0 ≤ m ∧ m ≤ n)]⟩
          | _ => none
        | some _ => none
      | none => match siOf gt lo with
        | some (.s l) => match Nat.beq o 0 with
          | true => some ⟨.c (.slr i es l (n - l)), [], next, [], [decide (0 ≤ l ∧ l ≤ n)]⟩
          | false => none
        | _ => bindO (natOf gt lo 0) fun l => some ⟨.c (.sl i (o + l * es) es (.s (n - (l : Int))) f), [], next, [], [decide ((l : Int) ≤ n)]⟩
    | false => none
  | _ => none
/-- 'x[:]' of an array in a row that is only read: a view of it. -/
def oSliceV (P : Program) (gs : Nat → Option Seg) (next : Nat) (t : TypeId) (i o st : Nat) (idx : Int) (lo hi : Option Operand) : Option Eff :=
  match lo, hi with
  | none, none => match P.underlying t with
    | some (.array n e) => bindO (tsize P e) fun es => bindO (gs i) fun g => match g.rw with
      | true => none
      | false => bindO (sLoad g.body (.ptrr i o st idx) (n * es)) fun r => match Nat.ble 1 (n * es) with
        | true => some ⟨.c (.sl next 0 es (.c (.ofNat n)) false), [(next, some ⟨false, false, .cells r.1⟩)], next + 1, [i], r.2⟩
        | false => none
    | _ => none
  | _, _ => none
def oSlice (P : Program) (gt : Nat → SV) (gs : Nat → Option Seg) (next : Nat) (t : TypeId) (a : SC) (lo hi mx : Option Operand) : Option Eff :=
  match mx with
  | some _ => none
  | none => match a with
    | .sl i o es (.s n) f => oSliceS P gt next t i o es n f lo hi
    | .ptrr i o st idx => oSliceV P gs next t i o st idx lo hi
    | a => bindO (sSlice P t gt a lo hi) fun r => retV next (.c r)

def sop (cx : Cx) (gt : Nat → SV) (gs : Nat → Option Seg) (next : Nat) (o : Op) : Option Eff :=
  Op.rec (motive := fun _ => Cx → (Nat → SV) → (Nat → Option Seg) → Nat → Option Eff)
    (move := fun x _ gt _ next => bindO (ev gt x) (retV next))
    (assign := fun x _ gt _ next => bindO (ev gt x) (retV next))
    (pick := fun c a b _ gt _ next => bindC (ev gt c) fun c => oPick next c (ev gt a) (ev gt b))
    (alloc := fun e cx _ _ next => oAlloc next (tzero cx.P e) (tsize cx.P e))
    (box := fun _ x _ gt _ next => bindO (evL gt x) fun l => newE next (.ptr next 0) l)
    (build := fun t parts cx gt _ next => bindO (tzero cx.P t) fun z => oBuild cx.P gt next z (cx.P.underlying t) parts.toList)
    (buildSlice := fun t len parts cx gt _ next => bindO (telem cx.P t) fun e => oBuildSlice cx.P gt next e len parts.toList)
    (insert := fun _ _ _ _ _ _ _ _ => none)
    (load := fun t a cx gt gs next => bindC (ev gt a) fun p => oLoad cx.P gs next t p)
    (store := fun t a x cx gt gs next => bindC (ev gt a) fun p => oStore cx.P gs next t p (evL gt x))
    (ready := fun _ _ _ _ _ => none)
    (waits := fun _ _ _ _ _ => none)
    (nilCheck := fun x _ gt _ next => bindC (ev gt x) fun p => oNil next p)
    (binOp := fun op t x y _ cx gt _ next => bindC (ev gt x) fun a => bindC (ev gt y) fun b => retO next (sBin cx.O (tbool cx.P t) op a b))
    (unOp := fun op _ x cx gt _ next => bindC (ev gt x) fun a => oUn cx.O next op a)
    (convert := fun s d x cx gt gs next => bindC (ev gt x) fun a => oConvB cx.P cx.O gs next s d a)
    (sliceToArrayPointer := fun _ _ _ _ _ _ => none)
    (makeInterface := fun _ _ _ _ _ _ => none)
    (makeFunc := fun _ _ _ _ _ _ _ => none)
    (makeMap := fun _ _ _ _ _ _ => none)
    (makeChan := fun _ _ _ _ _ _ => none)
    (makeSlice := fun t l c cx gt _ next => bindC (ev gt l) fun a => bindC (ev gt c) fun b => sMake cx.P t next a b)
    (slice := fun t x lo hi mx cx gt gs next => bindC (ev gt x) fun a => oSlice cx.P gt gs next t a lo hi mx)
    (fieldAddr := fun s x f cx gt _ next => bindC (ev gt x) fun p => oFieldAddr cx.P next (cx.P.underlying s) p f)
    (field := fun s x f cx gt _ next => bindO (ev gt x) fun v => oField cx.P next (cx.P.underlying s) v f)
    (indexAddr := fun t x i cx gt gs next => bindC (ev gt x) fun p => bindC (ev gt i) fun n => oIndexAddr cx.P gs next (cx.P.underlying t) p n)
    (index := fun t x i cx gt _ next => bindO (ev gt x) fun v => bindC (ev gt i) fun n => oIndex cx.P next (cx.P.underlying t) v n)
    (lookup := fun _ _ _ _ _ _ _ _ => none)
    (mapUpdate := fun _ _ _ _ _ _ _ _ => none)
    (mapEntry := fun _ _ _ _ _ _ _ => none)
    (entryStore := fun _ _ _ _ _ _ _ _ => none)
    (range := fun _ _ _ _ _ _ => none)
    (next := fun _ _ _ _ _ _ => none)
    (entry := fun _ _ _ _ _ => none)
    (typeAssert := fun _ _ _ _ _ _ _ _ => none)
    (extract := fun x i _ gt _ next => bindO (ev gt x) fun v => oExtract next v i)
    (call := fun c cx gt gs next => oCall cx gt gs next c)
    (go := fun _ _ _ _ _ => none)
    (defer := fun _ _ _ _ _ => none)
    (panic := fun _ _ _ _ _ => none)
    (send := fun _ _ _ _ _ _ => none)
    (recv := fun _ _ _ _ _ _ _ => none)
    (select := fun _ _ _ _ _ _ => none) o cx gt gs next

/-! ### a region -/
def tmpsOf : List Operand → List Nat → List Nat
  | [], acc => acc
  | .tmp t :: l, acc => t :: tmpsOf l acc
  | _ :: l, acc => tmpsOf l acc
def looksN (ops : List Oper) (o : Oper) : List Nat :=
  tmpsOf o.op.operands.toList (match o.guard with
    | some (g, _) => match ops[g]? with
      | some q => match q.dst with
        | some d => [d]
        | none => []
      | none => []
    | none => [])
def meets (l m : List Nat) : Bool :=
  List.rec (motive := fun _ => Bool) false (fun x _ ih => Bool.rec ih true (memN x m)) l
/-- The set of the operations that come before, as bits. -/
def ancE : List Edge → List Nat → Nat → Nat
  | [], _, acc => acc
  | e :: l, as, acc => match e.ground with
    | .gcOnly _ => ancE l as acc
    | .textOnly _ => ancE l as acc
    | _ => ancE l as (Nat.lor (Nat.lor acc (2 ^ e.on)) (as.getD e.on 0))
def ancs : List Oper → List Nat → List Nat
  | [], as => as
  | o :: l, as => ancs l (as ++ [ancE o.after.toList as 0])
def isGuard (i : Nat) : List Oper → Bool
  | [] => false
  | o :: l => match o.guard with
    | some (g, _) => match Nat.beq g i with
      | true => true
      | false => isGuard i l
    | none => isGuard i l
/-- Two operations, neither of which waits for the other: they do not meet in a temporary. -/
def apartT (ops : List Oper) (x y : Oper) : Bool :=
  (match x.dst with
   | some d => !memN d (looksN ops y) && (match y.dst with
     | some e => !Nat.beq d e
     | none => true)
   | none => true) &&
  (match y.dst with
   | some d => !memN d (looksN ops x)
   | none => true)
def okPairs (ops : List Oper) (x : Oper) (i : Nat) : List Oper → List Nat → Bool
  | o :: l, a :: as => (Nat.testBit a i || apartT ops x o) && okPairs ops x i l as
  | [], _ => true
  | _ :: _, [] => false
def okAll (ops : List Oper) : Nat → List Oper → List Nat → Bool
  | i, o :: l, _ :: as => okPairs ops o i l as && okAll ops (i + 1) l as
  | _, [], _ => true
  | _, _ :: _, [] => false
def edgesOk : Nat → List Oper → Bool
  | _, [] => true
  | i, o :: l => (o.after.toList.all fun e => match e.ground with
      | .gcOnly _ => true
      | .textOnly _ => true
      | _ => Nat.ble (e.on + 1) i) && edgesOk (i + 1) l
/-- What can be asked of a region that draws its order before it is run. -/
def static (ops : List Oper) : Bool := edgesOk 0 ops && okAll ops 0 ops (ancs ops [])
/-- Two operations, neither of which waits for the other: they do not meet in memory. -/
def apartS (x y : Eff) : Bool :=
  match x.ws, y.ws with
  | [], [] => true
  | _, _ => !meets (fstsN x.ws) y.rd && !meets (fstsN x.ws) (fstsN y.ws) && !meets x.rd (fstsN y.ws)
def okPairsE (x : Eff) (i : Nat) (l : List Eff) : List Nat → Bool :=
  List.rec (motive := fun _ => List Nat → Bool) (fun _ => true)
    (fun o _ ih as => List.rec (motive := fun _ => Bool) false (fun a as' _ => Bool.rec (Bool.rec false (ih as') (Nat.testBit a i)) (ih as') (apartS x o)) as) l
def okAllE (l : List Eff) : Nat → List Nat → Bool :=
  List.rec (motive := fun _ => Nat → List Nat → Bool) (fun _ _ => true)
    (fun o l ih i as => List.rec (motive := fun _ => Bool) false (fun _ as' _ => Bool.rec false (ih (i + 1) as') (okPairsE o i l as')) as) l

def wantedS (ops : List Oper) (gt : Nat → SV) (o : Oper) : Option Bool :=
  match o.guard with
  | none => some true
  | some (j, want) => match ops[j]? with
    | some q => match q.dst with
      | some d => match gt d with
        | .undef => some false
        | .c (.bool .t) => some want
        | .c (.bool .f) => some (!want)
        | _ => none
      | none => none
    | none => none
def applyE (T : Top) (dst : Option Tmp) (e : Eff) : Top :=
  ⟨(Top.setSs (Option.rec (motive := fun _ => Top) T (fun d => T.setT d e.val) dst) e.ws).ly, e.next⟩
def applyK {β : Type} (T : Top) (dst : Option Tmp) (e : Eff) (f : Top → β) : β :=
  Option.rec (motive := fun _ => (Top → β) → β) (fun k => k T) (fun d k => T.setTK d e.val k) dst fun T1 => T1.setSsK e.ws fun T2 => f ⟨T2.ly, e.next⟩
/-- A store at a known place: where, and what. -/
def hintOf (gt : Nat → SV) (o : Op) : Option (Nat × Nat × List SC) :=
  match o with
  | .store _ a x => match evC gt a with
    | some (.ptr i o) => match evL gt x with
      | some l => some (i, o, l)
      | none => none
    | _ => none
  | _ => none
def applyH (T : Top) (dst : Option Tmp) (e : Eff) (h : Option (Nat × Nat × List SC)) : Top :=
  match h with
  | none => applyE T dst e
  | some (i, o, l) => ⟨(Top.setD (Option.rec (motive := fun _ => Top) T (fun d => T.setT d e.val) dst) i (putD o l (T.ly.s.get i))).ly, e.next⟩
def applyHK {β : Type} (T : Top) (dst : Option Tmp) (e : Eff) (h : Option (Nat × Nat × List SC)) (f : Top → β) : β :=
  match h with
  | none => applyK T dst e f
  | some (i, o, l) => Option.rec (motive := fun _ => (Top → β) → β) (fun k => k T) (fun d k => T.setTK d e.val k) dst fun T1 => T1.setDK i (putD o l (T.ly.s.get i)) fun T2 => f ⟨T2.ly, e.next⟩
def dstOk (N : Nat) : Option Tmp → Bool
  | some d => Nat.ble (d + 1) N
  | none => true
def revE (l : List Eff) : List Eff → List Eff :=
  List.rec (motive := fun _ => List Eff → List Eff) (fun acc => acc) (fun x _ ih acc => ih (x :: acc)) l
def forkOf (g : Bool) (v : SV) : Option Bool :=
  match g with
  | false => none
  | true => match v with
    | .c (.bool (.s b)) => some b
    | _ => none

/-- The operations of a region, in the text's order; where a guard is not decided both ways are gone. 'acc': what the operations before have done, the last first. -/
def srgEnd (draw : Bool) (ops : List Oper) (T : Top) (acc : List Eff) : Option (Top × List Bool) :=
  match draw with
  | false => some (T, [])
  | true => match okAllE (revE acc []) 0 (ancs ops []) with
    | true => some (T, [])
    | false => none
def addObs (l : List Bool) (r : Option (Top × List Bool)) : Option (Top × List Bool) :=
  match r with
  | some (T2, ob) => some (T2, l ++ ob)
  | none => none
def forkEnd (b : Bool) (R : List Ly) (T : Top) (obs : List Bool) (r1 r2 : Option (Top × List Bool)) : Option (Top × List Bool) :=
  match r1, r2 with
  | some (V1, ob1), some (V2, ob2) => some (commit T (mergeTop b (T.ly :: R) V1 V2), obs ++ (ob1.map (!b || ·)) ++ (ob2.map (b || ·)))
  | _, _ => none
def withVal (e : Eff) (v : SV) : Eff := ⟨v, e.ws, e.next, e.rd, e.obs⟩
def srgOp (ih : List Ly → Nat → Top → List Eff → Option (Top × List Bool)) (g : Bool) (dst : Option Tmp) (R : List Ly) (i : Nat) (T : Top) (acc : List Eff) (hint : Option (Nat × Nat × List SC)) (e : Eff) : Option (Top × List Bool) :=
  match forkOf g e.val with
  | none => applyHK T dst e hint fun T' => addObs e.obs (ih R (i + 1) T' (e :: acc))
  | some b => forkEnd b R T e.obs
    (applyK (Top.empty T.next) dst (withVal e (.c (.bool .t))) fun T' => ih (T.ly :: R) (i + 1) T' (withVal e (.c (.bool .t)) :: acc))
    (applyK (Top.empty T.next) dst (withVal e (.c (.bool .f))) fun T' => ih (T.ly :: R) (i + 1) T' (withVal e (.c (.bool .f)) :: acc))
def srg1 (cx : Cx) (N : Nat) (ops rest : List Oper) (o : Oper) (ih : List Ly → Nat → Top → List Eff → Option (Top × List Bool)) (R : List Ly) (i : Nat) (T : Top) (acc : List Eff) : Option (Top × List Bool) :=
  match dstOk N o.dst with
  | false => none
  | true => match wantedS ops (getT (T.ly :: R)) o with
    | none => none
    | some false => applyK T o.dst ⟨.undef, [], T.next, [], []⟩ fun T' => ih R (i + 1) T' (⟨.undef, [], T.next, [], []⟩ :: acc)
    | some true => bindO (sop cx (getT (T.ly :: R)) (getS (T.ly :: R)) T.next o.op) (srgOp ih (isGuard i rest) o.dst R i T acc (hintOf (getT (T.ly :: R)) o.op))
/-- The operations of a region, in the text's order; where a guard is not decided both ways are gone. 'acc': what the operations before have done, the last first. -/
def srg (cx : Cx) (N : Nat) (draw : Bool) (ops : List Oper) (l : List Oper) : List Ly → Nat → Top → List Eff → Option (Top × List Bool) :=
  List.rec (motive := fun _ => List Ly → Nat → Top → List Eff → Option (Top × List Bool))
    (fun _ _ T acc => srgEnd draw ops T acc)
    (fun o rest ih R i T acc => srg1 cx N ops rest o ih R i T acc) l

/-! ### code -/
inductive XK where
  | ret
  | exit (id : Nat)
structure Outs where
  abr : List (SB × XK × Top)
  nrm : Option Top
  obs : List Bool
def orAny : List (SB × XK × Top) → Bool → Bool
  | [], b => b
  | (c, _, _) :: l, b => c.val || orAny l b
def guardObs (l : List (SB × XK × Top)) (obs : List Bool) : List Bool :=
  match l with
  | [] => obs
  | _ => obs.map (orAny l ·)
def seqO (oa : Outs) (ob : Outs) : Outs := ⟨oa.abr ++ ob.abr, ob.nrm, oa.obs ++ guardObs oa.abr ob.obs⟩
def lift (T : Top) (b : SB) : List (SB × XK × Top) → List (SB × XK × Top)
  | [] => []
  | (c, k, o) :: l => (b.and c, k, commit T o) :: lift T b l
def mergeN (b : Bool) (R : List Ly) (T : Top) : Option Top → Option Top → Option Top
  | some o1, some o2 => some (commit T (mergeTop b (T.ly :: R) o1 o2))
  | some o, none => some (commit T o)
  | none, some o => some (commit T o)
  | none, none => none
def andNot (c : SB) : List (SB × XK × Top) → List (SB × XK × Top)
  | [] => []
  | (d, k, T) :: l => (c.not.and d, k, T) :: andNot c l
def isX (id : Nat) : XK → Bool
  | .exit j => Nat.beq j id
  | .ret => false
/-- The exits to block 'id' join the normal way. -/
def joinX (R : List Ly) (id : Nat) : List (SB × XK × Top) → Option Top → List (SB × XK × Top) × Option Top
  | [], n => ([], n)
  | (c, k, T) :: l, n => match joinX R id l n with
    | (l', n') => match isX id k with
      | true => match n' with
        | none => match c with
          | .t => ([], some T)
          | _ => (andNot c l', some T)
        | some T' => match c with
          | .t => ([], some T)
          | .f => (l', some T')
          | .s b => (andNot c l', some (mergeTop b R T T'))
      | false => ((c, k, T) :: l', n')
def commitAll (T : Top) : List (SB × XK × Top) → List (SB × XK × Top)
  | [] => []
  | (c, k, o) :: l => (c, k, commit T o) :: commitAll T l
def commitO (T : Top) : Option Top → Option Top
  | none => none
  | some o => some (commit T o)
def iter (body : List Ly → Top → Option Outs) (R : List Ly) (n : Nat) : Top → Option Outs :=
  Nat.rec (motive := fun _ => Top → Option Outs) (fun _ => none)
    (fun _ ih T => match body R T with
      | none => none
      | some oa => match oa.nrm with
        | none => some oa
        | some T1 => match ih T1 with
          | some ob => some (seqO oa ob)
          | none => none) n
def regId : Code → Nat
  | .region i _ _ => i
  | .seq a _ => regId a
  | .block _ b => regId b
  | .loop b => regId b
  | _ => 0
/-- What is told of a function's own text: tests that are assumed, loops that are known. -/
structure Hn where
  tests : Nat → Option Bool
  loops : Nat → Option (List Ly → Top → Option Outs)
def sCond (h : Hn) (T : Top) (R : List Ly) (c : Operand) (x y : List Ly → Top → Option Outs) : Option Outs :=
  match evC (getT (T.ly :: R)) c with
  | some (.bool .t) => x R T
  | some (.bool .f) => y R T
  | some (.bool (.s b)) => match (match c with
      | .tmp t => h.tests t
      | _ => none) with
    | some true => match x R T with
      | some o => some ⟨o.abr, o.nrm, b :: o.obs⟩
      | none => none
    | some false => match y R T with
      | some o => some ⟨o.abr, o.nrm, (!b) :: o.obs⟩
      | none => none
    | none => match x (T.ly :: R) (Top.empty T.next), y (T.ly :: R) (Top.empty T.next) with
      | some ox, some oy => some ⟨lift T (.s b) ox.abr ++ lift T (.s (!b)) oy.abr, mergeN b R T ox.nrm oy.nrm, ox.obs.map (!b || ·) ++ oy.obs.map (b || ·)⟩
      | _, _ => none
  | _ => none
def sSeq (R : List Ly) (T : Top) (a b : List Ly → Top → Option Outs) : Option Outs :=
  match a R T with
  | none => none
  | some oa => match oa.nrm with
    | none => some oa
    | some T1 => match b R T1 with
      | some ob => some (seqO oa ob)
      | none => none
def sBlock (id : Nat) (R : List Ly) (T : Top) (body : List Ly → Top → Option Outs) : Option Outs :=
  match body (T.ly :: R) (Top.empty T.next) with
  | none => none
  | some ob => match joinX (T.ly :: R) id ob.abr ob.nrm with
    | (l, n) => some ⟨commitAll T l, commitO T n, ob.obs⟩
def sReg (cx : Cx) (N : Nat) (ops : Array Oper) (draw : Bool) (R : List Ly) (T : Top) : Option Outs :=
  match (match draw with
    | true => static ops.toList
    | false => true) with
  | false => none
  | true => match srg cx N draw ops.toList ops.toList R 0 T [] with
    | some (T', ob) => some ⟨[], some T', ob⟩
    | none => none
def sLoop (h : Hn) (id : Nat) (body : List Ly → Top → Option Outs) (R : List Ly) (T : Top) : Option Outs :=
  match h.loops id with
  | some L => L R T
  | none => iter body R 60 T
def sx (cx : Cx) (N : Nat) (h : Hn) (c : Code) : List Ly → Top → Option Outs :=
  Code.rec (motive := fun _ => List Ly → Top → Option Outs)
    (skip := fun _ T => some ⟨[], some T, []⟩)
    (region := fun _ ops draw R T => sReg cx N ops draw R T)
    (seq := fun _ _ ia ib R T => sSeq R T ia ib)
    (cond := fun c _ _ ix iy R T => sCond h T R c ix iy)
    (block := fun id _ ib R T => sBlock id R T ib)
    (loop := fun b ib R T => sLoop h (regId b) ib R T)
    (rangeFunc := fun _ _ _ _ _ _ _ _ => none)
    (exit := fun id _ T => some ⟨[(.t, .exit id, T)], none, []⟩)
    (scope := fun _ ib R T => ib R T)
    (label := fun _ _ _ => none)
    (goto := fun _ _ _ => none)
    (ret := fun _ T => some ⟨[(.t, .ret, T)], none, []⟩)
    (refuse := fun _ _ _ => none) c

/-! ### a function -/
def argsT (l : List SV) : Nat → Top → Top :=
  List.rec (motive := fun _ => Nat → Top → Top) (fun _ T => T) (fun v _ ih i T => ih (i + 1) (T.setT i v)) l
def rdT (l : List (Nat × Seg)) (T : Top) : Top :=
  List.rec (motive := fun _ => Top) T (fun p _ ih => ih.setS p.1 (some p.2)) l
def sRes1 (P : Program) (l : List Ly) : ResultVar → Option (SV × List Bool)
  | .tmp t => some (getT l t, [])
  | .cell a t => match getT l a with
    | .c p => match ptrId p with
      | some i => match getS l i with
        | some g => match tsize P t, tagg P t with
          | some n, some ag => match sLoad g.body p n with
            | some (cs, ob) => match ofCells ag cs with
              | some v => some (v, ob)
              | none => none
            | none => none
          | _, _ => none
        | none => none
      | none => none
    | _ => none
def sResE (P : Program) (l : List Ly) : List ResultVar → Option (List SE × List Bool)
  | [] => some ([], [])
  | r :: rs => match sRes1 P l r with
    | some (.c x, ob) => match sResE P l rs with
      | some (es, ob') => some (.c x :: es, ob ++ ob')
      | none => none
    | some (.a m, ob) => match sResE P l rs with
      | some (es, ob') => some (.a m :: es, ob ++ ob')
      | none => none
    | _ => none
def sRes (P : Program) (l : List Ly) : List ResultVar → Option (SV × List Bool)
  | [] => some (.undef, [])
  | [r] => sRes1 P l r
  | rs => match sResE P l rs with
    | some (es, ob) => some (.tup es, ob)
    | none => none
/-- One way out of a function: its result, its segments. -/
structure FOut where
  c : SB
  v : SV
  ly : Ly
  next : Nat
  obs : List Bool
def fOuts (P : Program) (rs : List ResultVar) (R : List Ly) : List (SB × XK × Top) → Option (List FOut)
  | [] => some []
  | (c, .ret, T) :: l => match sRes P (T.ly :: R) rs with
    | some (v, ob) => match fOuts P rs R l with
      | some r => some (⟨c, v, T.ly, T.next, ob⟩ :: r)
      | none => none
    | none => none
  | (_, .exit _, _) :: _ => none
def keepIds (rd : List (Nat × Seg)) (l : List Ly) (v : SV) : List Nat :=
  let one := idsV v (fstsN rd)
  idsSegs (grab (getS l) one []) one
/-- Those that 'y' tells of. -/
def touched (y : Ly) : List Nat → List Nat
  | [] => []
  | i :: r => match y.s.get i with
    | some _ => i :: touched y r
    | none => touched y r
def wsOf (l : List Ly) : List Nat → List (Nat × Option Seg)
  | [] => []
  | i :: r => (i, getS l i) :: wsOf l r
def mergeWs (b : Bool) (R : List Ly) (y : Ly) (m : List (Nat × Option Seg)) : List Nat → List (Nat × Option Seg)
  | [] => []
  | i :: r => (i, mergeSeg b (getS (y :: R) i) (match hasId i m with
      | true => (match m.find? (fun p => Nat.beq p.1 i) with
        | some p => p.2
        | none => none)
      | false => getS R i)) :: mergeWs b R y m r
/-- All ways out become one. -/
def joinF (rd : List (Nat × Seg)) (R : List Ly) : List FOut → Option CEff
  | [] => none
  | [o] => some ⟨o.v, wsOf (o.ly :: R) (touched o.ly (keepIds rd (o.ly :: R) o.v)), o.next, o.obs⟩
  | o :: l => match joinF rd R l with
    | some e => match o.c with
      | .t => some ⟨o.v, wsOf (o.ly :: R) (touched o.ly (keepIds rd (o.ly :: R) o.v)), o.next, o.obs⟩
      | .f => some e
      | .s b => some ⟨mergeV b o.v e.ret, mergeWs b R o.ly e.ws (touched o.ly (keepIds rd (o.ly :: R) o.v) ++ fstsN e.ws), max o.next e.next, o.obs.map (!b || ·) ++ e.obs.map (b || ·)⟩
    | none => none
/-- The call of a function whose text is 'fn', run through. -/
def inl (cx : Cx) (fn : Func) (h : Hn) : CS := fun base args rd =>
  match fn.body with
  | none => none
  | some code =>
    let R := [(rdT rd (argsT args 0 (Top.empty base))).ly]
    match Nat.ble args.length fn.ntmps with
    | false => none
    | true => match sx cx fn.ntmps h code R (Top.empty base) with
    | none => none
    | some o => match fOuts cx.P fn.results.toList R (match o.nrm with
        | some T => o.abr ++ [(.t, .ret, T)]
        | none => o.abr) with
      | none => none
      | some fs => match joinF rd R fs with
        | some e => some ⟨e.ret, e.ws, e.next, o.obs ++ e.obs⟩
        | none => none

end
end Go.Proofs.YtaodbpejeglmlaaDoor
