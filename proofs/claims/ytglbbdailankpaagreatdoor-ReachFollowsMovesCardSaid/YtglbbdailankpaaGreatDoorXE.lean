/- An executor of the model's code over abstract values: a block is a label; a heap is a tree of labels; what Go leaves open (orders, capacities) is not asked. Plain Lean: its soundness stands in the texts behind it. -/
import GoSem.Claims
import Derived.Calls
namespace Go.Proofs.Bc
open Go

/-- A value whose addresses bear labels. 'slice l off len es cap': es cells an element; cap none: not known. 'eslice': empty, not nil, where it lies is not known. -/
inductive AV where
  | bool (b : Bool)
  | int (k : IntKind) (n : Int)
  | str (s : ByteArray)
  | ptr (l off : Nat)
  | nilPtr
  | slice (l off len es : Nat) (cap : Option Nat)
  | eslice
  | nilSlice
  | map (l : Nat)
  | nilMap
  | func (f : Fn) (first cap : List AV)
  | nilFunc
  | iface (t : TypeId) (v : AV)
  | nilIface
  | agg (cs : List AV)
  | tuple (vs : List AV)
  deriving Inhabited

inductive Tr (α : Type) where
  | nil
  | node (v : Option α) (l r : Tr α)

def Tr.get {α : Type} : Tr α → Nat → Option α
  | .nil, _ => none
  | .node v l r, k => match Nat.beq k 0 with
    | true => v
    | false => match Nat.beq (Nat.mod k 2) 1 with
      | true => l.get (Nat.div k 2)
      | false => r.get (Nat.sub (Nat.div k 2) 1)

def mkL {α : Type} (u : Option α) (r : Tr α) : Option (Tr α) → Option (Tr α)
  | some l => some (.node u l r)
  | none => none
def mkR {α : Type} (u : Option α) (l : Tr α) : Option (Tr α) → Option (Tr α)
  | some r => some (.node u l r)
  | none => none
def Tr.rt {α : Type} : Tr α → Option α
  | .nil => none
  | .node v _ _ => v
def Tr.lt {α : Type} : Tr α → Tr α
  | .nil => .nil
  | .node _ l _ => l
def Tr.gt {α : Type} : Tr α → Tr α
  | .nil => .nil
  | .node _ _ r => r
/-- The tree with v at k (none: nothing there). None: the key is too great for the fuel. -/
def Tr.put {α : Type} : Nat → Tr α → Nat → Option α → Option (Tr α)
  | 0, _, _, _ => none
  | n + 1, t, k, v => match Nat.beq k 0 with
    | true => some (.node v t.lt t.gt)
    | false => match Nat.beq (Nat.mod k 2) 1 with
      | true => mkL t.rt t.gt (Tr.put n t.lt (Nat.div k 2) v)
      | false => mkR t.rt t.lt (Tr.put n t.gt (Nat.sub (Nat.div k 2) 1) v)

/-! ### Small lists, each step forced -/
def takeX {α : Type} : Nat → List α → Option (List α)
  | 0, _ => some []
  | _ + 1, [] => none
  | n + 1, x :: xs => match takeX n xs with
    | some r => some (x :: r)
    | none => none
def dropX {α : Type} : Nat → List α → Option (List α)
  | 0, xs => some xs
  | _ + 1, [] => none
  | n + 1, _ :: xs => dropX n xs
def nthX {α : Type} : Nat → List α → Option α
  | _, [] => none
  | 0, x :: _ => some x
  | n + 1, _ :: xs => nthX n xs
/-- vs laid over xs from place n on. -/
def layX {α : Type} : Nat → List α → List α → Option (List α)
  | _, [], xs => some xs
  | 0, v :: vs, x :: xs => match layX 0 vs xs with
    | some r => some (v :: r)
    | none => (fun (_ : α) => none) x
  | n + 1, v :: vs, x :: xs => match layX n (v :: vs) xs with
    | some r => some (x :: r)
    | none => none
  | _, _ :: _, [] => none
def appX {α : Type} : List α → List α → Option (List α)
  | [], ys => some ys
  | x :: xs, ys => match appX xs ys with
    | some r => some (x :: r)
    | none => none
def repX {α : Type} : Nat → List α → Option (List α)
  | 0, _ => some []
  | n + 1, x => match repX n x with
    | some r => appX x r
    | none => none
def mapX {α β : Type} (f : α → Option β) : List α → Option (List β)
  | [] => some []
  | x :: xs => match f x with
    | some y => match mapX f xs with
      | some ys => some (y :: ys)
      | none => none
    | none => none

/-- A natural number, laid bare before the rest. -/
def forceN {β : Type} (n : Nat) (f : Nat → β) : β := match n with
  | 0 => f 0
  | m + 1 => f (m + 1)
def forceV {β : Type} (v : AV) (f : AV → β) : β := match v with
  | .int k (.ofNat n) => forceN n fun m => f (.int k (.ofNat m))
  | .int k (.negSucc n) => forceN n fun m => f (.int k (.negSucc m))
  | .bool true => f (.bool true)
  | .bool false => f (.bool false)
  | v => f v

/-! ### Values without addresses -/
def plainFn : Fn → Bool
  | .yield _ => false
  | _ => true
def AV.of : Nat → Value → Option AV
  | 0, _ => none
  | n + 1, v => match v with
    | .bool b => some (.bool b)
    | .int k i => some (.int k i)
    | .string s => some (.str s)
    | .pointer none => some .nilPtr
    | .slice none 0 0 => some .nilSlice
    | .map none => some .nilMap
    | .func f ⟨xs⟩ ⟨ys⟩ => match plainFn f, mapX (AV.of n) xs, mapX (AV.of n) ys with
      | true, some xs, some ys => some (.func f xs ys)
      | _, _, _ => none
    | .nilFunc => some .nilFunc
    | .iface t x => match AV.of n x with
      | some x => some (.iface t x)
      | none => none
    | .nilIface => some .nilIface
    | .agg ⟨xs⟩ => match mapX (AV.of n) xs with
      | some xs => some (.agg xs)
      | none => none
    | .tuple ⟨xs⟩ => match mapX (AV.of n) xs with
      | some xs => some (.tuple xs)
      | none => none
    | _ => none

mutual
def AV.val : AV → Option Value
  | .bool b => some (.bool b)
  | .int k i => some (.int k i)
  | .str s => some (.string s)
  | .nilPtr => some (.pointer none)
  | .nilSlice => some (.slice none 0 0)
  | .nilMap => some (.map none)
  | .nilFunc => some .nilFunc
  | .nilIface => some .nilIface
  | .agg xs => match AV.vals xs with
    | some l => some (.agg ⟨l⟩)
    | none => none
  | .tuple xs => match AV.vals xs with
    | some l => some (.tuple ⟨l⟩)
    | none => none
  | _ => none
def AV.vals : List AV → Option (List Value)
  | [] => some []
  | x :: xs => match AV.val x with
    | some v => match AV.vals xs with
      | some vs => some (v :: vs)
      | none => none
    | none => none
end

mutual
def AV.same : AV → AV → Bool
  | .bool a, .bool b => a == b
  | .int k a, .int j b => decide (k = j) && decide (a = b)
  | .str a, .str b => decide (a.data.toList = b.data.toList)
  | .ptr l o, .ptr m p => Nat.beq l m && Nat.beq o p
  | .nilPtr, .nilPtr => true
  | .slice l o n e c, .slice m p k f d => Nat.beq l m && Nat.beq o p && Nat.beq n k && Nat.beq e f && decide (c = d)
  | .nilSlice, .nilSlice => true
  | .eslice, .eslice => true
  | .map l, .map m => Nat.beq l m
  | .nilMap, .nilMap => true
  | .func f xs ys, .func g us vs => decide (f = g) && AV.sames xs us && AV.sames ys vs
  | .nilFunc, .nilFunc => true
  | .iface t x, .iface u y => Nat.beq t u && AV.same x y
  | .nilIface, .nilIface => true
  | .agg xs, .agg ys => AV.sames xs ys
  | .tuple xs, .tuple ys => AV.sames xs ys
  | _, _ => false
def AV.sames : List AV → List AV → Bool
  | [], [] => true
  | x :: xs, y :: ys => AV.same x y && AV.sames xs ys
  | _, _ => false
end

def AV.cells : AV → List AV
  | .agg cs => cs
  | v => [v]
/-- What one cell may hold. -/
def AV.isCell : AV → Bool
  | .agg _ => false
  | .tuple _ => false
  | _ => true

/-! ### The heap and the frame -/
inductive ADef where
  | fn (f : Fn) (cap args : List AV)
  | coll (l : Nat)

inductive AObj where
  | cells (cs : List AV) (t : TypeId)
  | map (es : List (AV × AV × Nat)) (clock : Nat)
  | iter (s : ByteArray) (pos : Nat)
  | miter (m : Nat) (since : Nat) (seen : List Nat) (stepped : Nat)
  | nmiter
  | deferred
  | loop (state : LoopState) (pending : Option Code) (fn : FuncId) (tm : Tr AV) (nt : Nat) (ps : List Tmp) (assign body : Code) (defers : Nat)

structure St where
  h : Tr AObj
  /-- The next label. -/
  c : Nat
  /-- Labels below it are not written. -/
  lo : Nat

structure Fr where
  tm : Tr AV
  nt : Nat
  ds : List ADef

def fuelT : Nat := 32

def St.new (st : St) (o : AObj) : Option (Nat × St) := match Tr.put fuelT st.h st.c (some o) with
  | some h => forceN (st.c + 1) fun c => some (st.c, { h := h, c := c, lo := st.lo })
  | none => none
/-- A turn of what lies at l: not below 'lo'. -/
def St.turn (st : St) (l : Nat) (o : Option AObj) : Option St := match Nat.ble st.lo l with
  | true => match Tr.put fuelT st.h l o with
    | some h => some { h := h, c := st.c, lo := st.lo }
    | none => none
  | false => none
def Fr.put (fr : Fr) (d : Option Tmp) (v : AV) : Option Fr := match d with
  | none => some fr
  | some d => match Nat.blt d fr.nt with
    | true => match Tr.put fuelT fr.tm d (some v) with
      | some tm => some { tm := tm, nt := fr.nt, ds := fr.ds }
      | none => none
    | false => none

def undefA : AV := .tuple []

section
variable (P : Program)

def constX : Value → Option AV
  | .int k n => some (.int k n)
  | .bool b => some (.bool b)
  | .string s => some (.str s)
  | v => AV.of 8 v
def Fr.eval (fr : Fr) : Operand → Option AV
  | .tmp t => fr.tm.get t
  | .const v => constX v
  | .global g => match Nat.blt g P.globals.size with
    | true => some (.ptr g 0)
    | false => none
  | .func f => some (.func (.func f) [] [])

def sizeX (t : TypeId) : Option Nat := match P.info? t with
  | some i => some i.size
  | none => none
def zeroX (t : TypeId) : Option AV := match P.info? t with
  | some i => match i.zero with
    | some v => AV.of 8 v
    | none => none
  | none => none
def aggX (t : TypeId) : Option Bool := match P.underlying t with
  | some (.struct _) => some true
  | some (.array _ _) => some true
  | some _ => some false
  | none => none

/-- A program of the model that asks no memory. -/
def pureX {α : Type} : Sem α → Option α
  | .pure a => some a
  | .program k => pureX (k P)
  | _ => none

def readX (st : St) (l off n : Nat) : Option (List AV) := match st.h.get l with
  | some (.cells cs _) => match dropX off cs with
    | some r => takeX n r
    | none => none
  | _ => none
def loadX (t : TypeId) (st : St) (l off : Nat) : Option AV := match aggX P t with
  | some true => match sizeX P t with
    | some n => match readX st l off n with
      | some cs => some (.agg cs)
      | none => none
    | none => none
  | some false => match readX st l off 1 with
    | some [v] => some v
    | _ => none
  | none => none
def writeX (st : St) (l off : Nat) (vs : List AV) : Option St := match vs.all AV.isCell with
  | true => match st.h.get l with
    | some (.cells cs t) => match layX off vs cs with
      | some cs' => st.turn l (some (.cells cs' t))
      | none => none
    | _ => none
  | false => none
def newRowX (st : St) (t : TypeId) (cs : List AV) : Option (Nat × St) := match cs.all AV.isCell with
  | true => st.new (.cells cs t)
  | false => none

def natOf : AV → Option Nat
  | .int _ (.ofNat n) => some n
  | _ => none

/-- The place of part i, and its size. -/
def fillX (place : Nat → Option (Nat × Nat)) : List (Nat × AV) → List AV → Option (List AV)
  | [], cs => some cs
  | (i, v) :: ps, cs => match place i with
    | some (off, n) => match v.cells with
      | vs => match Nat.beq vs.length n, Nat.ble (Nat.add off n) cs.length, layX off vs cs with
        | true, true, some cs' => fillX place ps cs'
        | _, _, _ => none
    | none => none

def partsX (ρ : Operand → Option AV) (ps : Array (Nat × Operand)) : Option (List (Nat × AV)) :=
  mapX (fun p => match ρ p.2 with
    | some v => some (p.1, v)
    | none => none) ps.toList

def placesX (fs : List Field) : Option (List (Nat × Nat)) := mapX (fun f => match sizeX P f.type with
  | some n => some (f.offset, n)
  | none => none) fs

def buildX (t : TypeId) (ps : List (Nat × AV)) : Option AV := match zeroX P t with
  | some z => match P.underlying t with
    | some (.struct fs) => match placesX P fs.toList with
      | some pl => match fillX (fun i => nthX i pl) ps z.cells with
        | some cs => some (.agg cs)
        | none => none
      | none => none
    | some (.array _ e) => match sizeX P e with
      | some n => match fillX (fun i => some (i * n, n)) ps z.cells with
        | some cs => some (.agg cs)
        | none => none
      | none => none
    | _ => none
  | none => none

def partX (t : TypeId) (cs : List AV) (off : Nat) : Option AV := match aggX P t with
  | some true => match sizeX P t with
    | some n => match dropX off cs with
      | some r => match takeX n r with
        | some vs => some (.agg vs)
        | none => none
      | none => none
    | none => none
  | some false => nthX off cs
  | none => none

/-- The three bounds of a slice expression over a row of 'len' whose capacity is at least 'cap'. -/
def boundsX (len cap : Nat) (lo hi mx : Option AV) : Option (Nat × Nat × Option Nat) :=
  match (match mx with
    | some v => (match natOf v with
      | some m => (match Nat.ble m cap with | true => some (m, some m) | false => none)
      | none => none)
    | none => some (cap, none) : Option (Nat × Option Nat)) with
  | some (c, m) => match (match hi with
      | some v => (match natOf v with
        | some h => (match Nat.ble h c with | true => some h | false => none)
        | none => none)
      | none => (match mx with | none => some len | some _ => none) : Option Nat) with
    | some h => match (match lo with
        | some v => (match natOf v with
          | some l => (match Nat.ble l h with | true => some l | false => none)
          | none => none)
        | none => some 0 : Option Nat) with
      | some l => some (l, h, m)
      | none => none
    | none => none
  | none => none

def optX (ρ : Operand → Option AV) : Option Operand → Option (Option AV)
  | none => some none
  | some x => match ρ x with
    | some v => some (some v)
    | none => none

def sliceX (t : TypeId) (x : AV) (st : St) (lo hi mx : Option AV) : Option AV := match P.underlying t, x with
  | some (.array n e), .ptr l off => match sizeX P e with
    | some s => match boundsX n n lo hi mx with
      | some (a, h, m) => match m.getD n with
        | c => match st.h.get l with
          | some (.cells cs _) => match Nat.ble (off + n * s) cs.length with
            | true => some (.slice l (match Nat.beq c a with | true => off | false => off + a * s) (h - a) s (some (c - a)))
            | false => none
          | _ => none
      | none => none
    | none => none
  | some (.slice e), .slice l off len es cap => match sizeX P e with
    | some s => match Nat.beq s es with
      | true => match cap with
        | some c => match boundsX len c lo hi mx with
          | some (a, h, m) => match m.getD c with
            | c' => some (.slice l (match Nat.beq c' a with | true => off | false => off + a * s) (h - a) s (some (c' - a)))
          | none => none
        | none => match boundsX len len lo hi mx with
          | some (a, h, some c') => some (.slice l (match Nat.beq c' a with | true => off | false => off + a * s) (h - a) s (some (c' - a)))
          | some (a, h, none) => match Nat.beq a 0 with
            | true => some (.slice l off h s none)
            | false => match Nat.blt a len with
              | true => some (.slice l (off + a * s) (h - a) s none)
              | false => some .eslice
          | none => none
      | false => none
    | none => none
  | _, _ => none

/-- The cells of a slice's or a string's first n elements. -/
def rowX (st : St) (es n : Nat) : AV → Option (List AV)
  | .slice l off len s _ => match Nat.beq s es, Nat.ble n len with
    | true, true => readX st l off (n * es)
    | _, _ => none
  | .nilSlice => match Nat.beq n 0 with | true => some [] | false => none
  | .eslice => match Nat.beq n 0 with | true => some [] | false => none
  | .str s => match Nat.beq es 1 with
    | true => takeX n (s.data.toList.map fun b => .int .u8 b.toNat)
    | false => none
  | _ => none
def lenX : AV → Option Nat
  | .slice _ _ n _ _ => some n
  | .nilSlice => some 0
  | .eslice => some 0
  | .str s => some s.size
  | _ => none

def smallX : Nat := 1000000

def isIntD : TypeDesc → Bool
  | .slice _ => false
  | .string => false
  | _ => true
def growX (e es len n : Nat) (old new : List AV) (st : St) : Option (AV × St) := match appX old new with
  | some cs => match st.new (.cells cs e) with
    | some (l', st') => some (.slice l' 0 (len + n) es none, st')
    | none => none
  | none => none
def tightX (cap : Option Nat) (need : Nat) : Bool := match cap with
  | some c => Nat.blt c need
  | none => false
def cellsOfX (st : St) (l e : Nat) : Bool := match st.h.get l with
  | some (.cells _ t) => Nat.beq t e
  | _ => false
def appendOnX (e es n : Nat) (s : AV) (new : List AV) (st : St) : Option (AV × St) := match s with
  | .nilSlice => match n with
    | 0 => some (.nilSlice, st)
    | m + 1 => growX e es 0 (m + 1) [] new st
  | .slice l off len es' cap => match Nat.beq es es' && Nat.ble len smallX, rowX st es len s with
    | true, some old => match tightX cap (len + n) with
      | true => growX e es len n old new st
      | false => match Nat.beq off 0 && cellsOfX st l e, st.turn l none with
        | true, some st1 => growX e es len n old new st1
        | _, _ => none
    | _, _ => none
  | _ => none
def appendX (t u : TypeId) (s x : AV) (st : St) : Option (AV × St) := match P.underlying t, P.underlying u with
  | some (.slice e), some d => match isIntD d, P.info? e, zeroX P e, lenX x with
    | false, some i, some z, some n => match Nat.ble i.bytes 10000 && Nat.beq z.cells.length i.size && Nat.ble n smallX, rowX st i.size n x with
      | true, some new => match new.all AV.isCell with
        | true => appendOnX e i.size n s new st
        | false => none
      | _, _ => none
    | _, _, _, _ => none
  | _, _ => none

def copyOnX (d : AV) (k : Nat) (cs : List AV) (st : St) : Option (AV × St) := match d with
  | .slice l off _ _ _ => match writeX st l off cs with
    | some st' => some (.int .i64 (.ofNat k), st')
    | none => none
  | _ => none
def copyX (t : TypeId) (d x : AV) (st : St) : Option (AV × St) := match P.underlying t with
  | some (.slice e) => match sizeX P e, lenX d, lenX x with
    | some es, some n, some m => match rowX st es (Nat.min m n) x with
      | some cs => copyOnX d (Nat.min m n) cs st
      | none => none
    | _, _, _ => none
  | _ => none

def keyEq : TypeDesc → AV → AV → Option Bool
  | .int _, .int k a, .int j b => match decide (k = j) with
    | true => some (decide (a = b))
    | false => none
  | .bool, .bool a, .bool b => some (a == b)
  | _, _, _ => none
/-- The key's place and value: some none: it is not there. -/
def findX (d : TypeDesc) (k : AV) : List (AV × AV × Nat) → Nat → Option (Option (Nat × AV))
  | [], _ => some none
  | e :: es, i => match keyEq d k e.1 with
    | some true => some (some (i, e.2.1))
    | some false => findX d k es (i + 1)
    | none => none
def keyDesc (t : TypeId) : Option TypeDesc := match P.underlying t with
  | some (.int k) => some (.int k)
  | some .string => some .string
  | some .bool => some .bool
  | _ => none
def mapsAt (t : TypeId) : Option (TypeDesc × TypeId) := match P.underlying t with
  | some (.map k e) => match keyDesc P k with
    | some d => some (d, e)
    | none => none
  | _ => none
def entriesX (st : St) : AV → Option (List (AV × AV × Nat))
  | .nilMap => some []
  | .map l => match st.h.get l with
    | some (.map es _) => some es
    | _ => none
  | _ => none
def lookedX (ok : Bool) (v : AV) (there : Bool) : AV := match ok with
  | true => .tuple [v, .bool there]
  | false => v
def lookupX (t : TypeId) (m k : AV) (ok : Bool) (st : St) : Option AV := match mapsAt P t, entriesX st m with
  | some (d, e), some es => match findX d k es 0 with
    | some (some (_, v)) => some (lookedX ok v true)
    | some none => match zeroX P e with
      | some z => some (lookedX ok z false)
      | none => none
    | none => none
  | _, _ => none
/-- A key that was not there. -/
def updateX (t : TypeId) (m k v : AV) (st : St) : Option St := match mapsAt P t, m with
  | some (d, _), .map l => match st.h.get l with
    | some (.map es clock) => match findX d k es 0, appX es [(k, v, clock)] with
      | some none, some es' => st.turn l (some (.map es' (clock + 1)))
      | _, _ => none
    | _ => none
  | _, _ => none

def rangeX (t : TypeId) (x : AV) (st : St) : Option (AV × St) :=
  match (match P.underlying t, x with
    | some .string, .str s => some (.iter s 0)
    | some (.map _ _), .nilMap => some .nmiter
    | some (.map _ _), .map l => (match st.h.get l with
      | some (.map _ clock) => some (.miter l clock [] clock)
      | _ => none)
    | _, _ => none : Option AObj) with
  | some o => match st.new o with
    | some (l, st') => some (.ptr l 0, st')
    | none => none
  | none => none
/-- One entry at most: more leave the order open. -/
def nextX (it : AV) (isString : Bool) (st : St) : Option (AV × St) := match it with
  | .ptr r 0 => match st.h.get r, isString with
    | some (.iter s pos), true => match Nat.blt pos s.size with
      | true => match Utf8.decode s pos with
        | (c, width) => forceN (pos + width) fun pos' => match st.turn r (some (.iter s pos')) with
          | some st' => forceN pos fun p => forceN c fun c => some (.tuple [.bool true, .int .i64 (.ofNat p), .int .i32 (.ofNat c)], st')
          | none => none
      | false => some (.tuple [.bool false], st)
    | some .nmiter, false => some (.tuple [.bool false], st)
    | some (.miter m since seen last), false => match st.h.get m with
      | some (.map [] _) => some (.tuple [.bool false], st)
      | some (.map [(k, v, born)] clock) => match seen with
        | [] => match Nat.blt born since with
          | true => match st.turn r (some (.miter m since [born] clock)) with
            | some st' => some (.tuple [.bool true, k, v], st')
            | none => none
          | false => none
        | [b] => match Nat.beq b born, Nat.blt born last with
          | true, true => some (.tuple [.bool false], st)
          | _, _ => none
        | _ => none
      | _ => none
    | _, _ => none
  | _ => none
def entryX (it : AV) (st : St) : Option AV := match it with
  | .ptr r 0 => match st.h.get r with
    | some (.miter m _ [b] stepped) => match st.h.get m with
      | some (.map [(k, v, born)] clock) => match Nat.beq b born, Nat.beq clock stepped with
        | true, true => some (.tuple [k, v])
        | _, _ => none
      | _ => none
    | _ => none
  | _ => none

def bytesX : List AV → Option (List UInt8)
  | [] => some []
  | .int .u8 (.ofNat n) :: r => match Nat.blt n 256, bytesX r with
    | true, some bs => some (UInt8.ofNat n :: bs)
    | _, _ => none
  | _ => none
def isByteSlice (t : TypeId) : Bool := match P.underlying t with
  | some (.slice e) => match P.underlying e with
    | some (.int .u8) => true
    | _ => false
  | _ => false
def isStr (t : TypeId) : Bool := match P.underlying t with
  | some .string => true
  | _ => false

def convX (src dst : TypeId) (x : AV) (st : St) : Option (AV × St) := match x with
  | .str s => match isStr P src, isByteSlice P dst with
    | true, true => match P.underlying dst with
      | some (.slice e) => match Nat.ble s.size smallX with
        | true => match st.new (.cells (s.data.toList.map fun b => .int .u8 b.toNat) e) with
          | some (l, st') => forceN s.size fun n => some (.slice l 0 n 1 none, st')
          | none => none
        | false => none
      | _ => none
    | _, _ => none
  | .slice l off len es _ => match isByteSlice P src, isStr P dst, Nat.beq es 1 with
    | true, true, true => match readX st l off len with
      | some cs => match bytesX cs with
        | some bs => some (.str ⟨⟨bs⟩⟩, st)
        | none => none
      | none => none
    | _, _, _ => none
  | _ => none

/-- Both address-free: asked of the model itself. -/
def stand (ρ : Operand → Option AV) (x : Operand) : Value := match ρ x with
  | some a => (match a.val with | some v => v | none => .tuple #[.bool true])
  | none => .tuple #[.bool true]
def purely (o : Oper) (ρ : Operand → Option AV) : Option AV :=
  match pureX P (execOp (stand ρ) o) with
  | some (.value v) => AV.of 8 v
  | _ => none

def hasVal (ρ : Operand → Option AV) (x : Operand) : Bool := match ρ x with
  | some a => (match a.val with | some _ => true | none => false)
  | none => false

def eqSlice : AV → AV → Option Bool
  | .slice _ _ _ _ _, .nilSlice => some false
  | .eslice, .nilSlice => some false
  | .nilSlice, .slice _ _ _ _ _ => some false
  | .nilSlice, .eslice => some false
  | _, _ => none
def isSliceT (t : TypeId) : Bool := match P.underlying t with
  | some (.slice _) => true
  | _ => false

/-- What an operation leaves. -/
inductive ORes where
  | val (v : AV) (st : St)
  | defer (d : ADef)

structure Tools where
  loop : Nat → Code → Fr → St → Option (Exit × Fr × St)
  call : FuncId → List AV → St → Option (AV × St)
  round : Nat → List AV → St → Option (AV × St)

def valX (v : Option AV) (st : St) : Option ORes := match v with
  | some v => some (.val v st)
  | none => none
def pairX (v : Option (AV × St)) : Option ORes := match v with
  | some (v, st) => some (.val v st)
  | none => none
def stX (v : Option St) : Option ORes := match v with
  | some st => some (.val undefA st)
  | none => none
def ptrX (l k : Nat) (st : St) : Option ORes := forceN k fun k => some (.val (.ptr l k) st)
def rowResX (r : Option (Nat × St)) (f : Nat → AV) : Option ORes := match r with
  | some (l, st') => some (.val (f l) st')
  | none => none

def opPick (c a b : Option AV) (st : St) : Option ORes := match c with
  | some (.bool true) => valX a st
  | some (.bool false) => valX b st
  | _ => none
def opLoad (t : TypeId) (a : Option AV) (st : St) : Option ORes := match a with
  | some (.ptr l off) => valX (loadX P t st l off) st
  | _ => none
def opStore (t : TypeId) (a x : Option AV) (st : St) : Option ORes := match a, x with
  | some (.ptr l off), some v => match sizeX P t with
    | some n => match Nat.beq v.cells.length n with
      | true => stX (writeX st l off v.cells)
      | false => none
    | none => none
  | _, _ => none
def opAlloc (e : TypeId) (st : St) : Option ORes := match zeroX P e with
  | some z => rowResX (newRowX st e z.cells) fun l => .ptr l 0
  | none => none
def opBox (e : TypeId) (x : Option AV) (st : St) : Option ORes := match x with
  | some v => rowResX (newRowX st e v.cells) fun l => .ptr l 0
  | none => none
def opBuild (t : TypeId) (ps : Option (List (Nat × AV))) (st : St) : Option ORes := match ps with
  | some ps => valX (buildX P t ps) st
  | none => none
def opBuildSlice (t : TypeId) (len : Nat) (ps : Option (List (Nat × AV))) (st : St) : Option ORes := match ps, P.underlying t with
  | some ps, some (.slice e) => match sizeX P e, zeroX P e with
    | some n, some z => match Nat.ble (Nat.mul len n) 100000, Nat.beq z.cells.length n, repX len z.cells with
      | true, true, some zs => match fillX (fun i => some (Nat.mul i n, n)) ps zs with
        | some cs => rowResX (newRowX st e cs) fun l => .slice l 0 len n (some len)
        | none => none
      | _, _, _ => none
    | _, _ => none
  | _, _ => none
def opFieldAddr (s : TypeId) (x : Option AV) (f : Nat) (st : St) : Option ORes := match x, P.underlying s with
  | some (.ptr l off), some (.struct fs) => match fs[f]? with
    | some fd => match sizeX P fd.type with
      | some (_ + 1) => ptrX l (Nat.add off fd.offset) st
      | _ => none
    | none => none
  | _, _ => none
def opIndexAddr (t : TypeId) (x ix : Option AV) (st : St) : Option ORes := match x, ix, P.underlying t with
  | some (.ptr l off), some (.int _ (.ofNat i)), some (.array n e) => match Nat.blt i n, sizeX P e with
    | true, some s => ptrX l (Nat.add off (Nat.mul i s)) st
    | _, _ => none
  | some (.slice l off len _ _), some (.int _ (.ofNat i)), some (.slice e) => match Nat.blt i len, sizeX P e with
    | true, some s => ptrX l (Nat.add off (Nat.mul i s)) st
    | _, _ => none
  | _, _, _ => none
def optVal (ρ : Operand → Option AV) : Option Operand → Bool
  | none => true
  | some x => hasVal ρ x
def opSlice (o : Oper) (ρ : Operand → Option AV) (t : TypeId) (x : Operand) (lo hi mx : Option Operand) (st : St) : Option ORes := match ρ x with
  | some (.str _) => match optVal ρ lo, optVal ρ hi, optVal ρ mx with
    | true, true, true => valX (purely P o ρ) st
    | _, _, _ => none
  | some v => match optX ρ lo, optX ρ hi, optX ρ mx with
    | some lo, some hi, some mx => valX (sliceX P t v st lo hi mx) st
    | _, _, _ => none
  | none => none
def opMakeSlice (t : TypeId) (l c : Option AV) (st : St) : Option ORes := match l, c, P.underlying t with
  | some (.int .i64 (.ofNat n)), some (.int .i64 (.ofNat m)), some (.slice e) => match P.info? e, Nat.ble n m, zeroX P e with
    | some i, true, some z => match Nat.ble i.bytes 10000, Nat.ble m smallX, Nat.beq z.cells.length i.size, repX m z.cells with
      | true, true, true, some cs => rowResX (newRowX st e cs) fun l => .slice l 0 n i.size (some m)
      | _, _, _, _ => none
    | _, _, _ => none
  | _, _, _ => none
def opMakeFunc (f : Fn) (first cap : Option (List AV)) (st : St) : Option ORes := match plainFn f, first, cap with
  | true, some xs, some ys => some (.val (.func f xs ys) st)
  | _, _, _ => none
def opMakeMap (r : Option Operand) (st : St) : Option ORes := match r with
  | none => rowResX (st.new (.map [] 0)) fun l => .map l
  | some _ => none
def opLookup (t : TypeId) (x k : Option AV) (ok : Bool) (st : St) : Option ORes := match x, k with
  | some m, some k => valX (lookupX P t m k ok st) st
  | _, _ => none
def opUpdate (t : TypeId) (x k v : Option AV) (st : St) : Option ORes := match x, k, v with
  | some m, some k, some v => stX (updateX P t m k v st)
  | _, _, _ => none
def opRange (t : TypeId) (x : Option AV) (st : St) : Option ORes := match x with
  | some v => pairX (rangeX P t v st)
  | none => none
def opNext (it : Option AV) (isString : Bool) (st : St) : Option ORes := match it with
  | some v => pairX (nextX v isString st)
  | none => none
def opEntry (it : Option AV) (st : St) : Option ORes := match it with
  | some v => valX (entryX v st) st
  | none => none
def opExtract (t : Option AV) (i : Nat) (st : St) : Option ORes := match t with
  | some (.tuple vs) => valX (nthX i vs) st
  | _ => none
def opField (t : TypeId) (x : Option AV) (f : Nat) (st : St) : Option ORes := match x, P.underlying t with
  | some (.agg cs), some (.struct fs) => match fs[f]? with
    | some fd => valX (partX P fd.type cs fd.offset) st
    | none => none
  | _, _ => none
def opNilCheck (x : Option AV) (st : St) : Option ORes := match x with
  | some (.ptr l off) => some (.val (.ptr l off) st)
  | some (.func (.func f) xs ys) => some (.val (.func (.func f) xs ys) st)
  | _ => none

/-! Small whole numbers, reckoned without the model's own words. -/
def kix : IntKind → Nat
  | .i8 => 0 | .i16 => 1 | .i32 => 2 | .i64 => 3 | .u8 => 4 | .u16 => 5 | .u32 => 6 | .u64 => 7
/-- 2 ^ bits. -/
def kmod : IntKind → Nat
  | .i8 => 256 | .u8 => 256 | .i16 => 65536 | .u16 => 65536 | .i32 => 4294967296 | .u32 => 4294967296 | .i64 => 18446744073709551616 | .u64 => 18446744073709551616
/-- Below it a number is itself. -/
def klim : IntKind → Nat
  | .i8 => 128 | .u8 => 256 | .i16 => 32768 | .u16 => 65536 | .i32 => 2147483648 | .u32 => 4294967296 | .i64 => 9223372036854775808 | .u64 => 18446744073709551616
def ksig : IntKind → Bool
  | .i8 => true | .i16 => true | .i32 => true | .i64 => true | _ => false
def fitX (k : IntKind) (n : Nat) : Option AV := match Nat.blt n (klim k) with
  | true => some (.int k (.ofNat n))
  | false => match ksig k with
    | true => none
    | false => some (.int k (.ofNat (Nat.mod n (kmod k))))
def natBin (op : BinOp) (k : IntKind) (m n : Nat) : Option AV := match op with
  | .add => fitX k (Nat.add m n)
  | .sub => match Nat.ble n m with
    | true => fitX k (Nat.sub m n)
    | false => none
  | .lss => some (.bool (Nat.blt m n))
  | .leq => some (.bool (Nat.ble m n))
  | .gtr => some (.bool (Nat.blt n m))
  | .geq => some (.bool (Nat.ble n m))
  | .eql => some (.bool (Nat.beq m n))
  | .and => match Nat.blt m (klim k), Nat.blt n (klim k) with
    | true, true => fitX k (Nat.land m n)
    | _, _ => none
  | .or => match Nat.blt m (klim k), Nat.blt n (klim k) with
    | true, true => fitX k (Nat.lor m n)
    | _, _ => none
  | .xor => match Nat.blt m (klim k), Nat.blt n (klim k) with
    | true, true => fitX k (Nat.xor m n)
    | _, _ => none
  | _ => none
def natShift (op : BinOp) (k : IntKind) (m n : Nat) : Option AV := match op with
  | .shr => match Nat.blt n 64, Nat.blt m (klim k) with
    | true, true => some (.int k (.ofNat (Nat.div m (Nat.pow 2 n))))
    | _, _ => none
  | .shl => match Nat.blt n 8, ksig k with
    | true, false => fitX k (Nat.mul m (Nat.pow 2 n))
    | _, _ => match Nat.blt n 32, Nat.beq (kix k) 6 with
      | true, true => fitX k (Nat.mul m (Nat.pow 2 n))
      | _, _ => none
  | _ => none
def isShift : BinOp → Bool
  | .shl => true
  | .shr => true
  | _ => false
def quickBin (op : BinOp) (a b : AV) : Option AV := match a, b with
  | .int k (.ofNat m), .int j (.ofNat n) => match isShift op with
    | true => natShift op k m n
    | false => match Nat.beq (kix k) (kix j) with
      | true => natBin op k m n
      | false => none
  | _, _ => none
def slowBin (o : Oper) (ρ : Operand → Option AV) (op : BinOp) (t : TypeId) (x y : Operand) (a b : AV) (st : St) : Option ORes := match op, isSliceT P t with
  | .eql, true => match eqSlice a b with
    | some r => some (.val (.bool r) st)
    | none => match hasVal ρ x, hasVal ρ y with
      | true, true => valX (purely P o ρ) st
      | _, _ => none
  | _, _ => match hasVal ρ x, hasVal ρ y with
    | true, true => valX (purely P o ρ) st
    | _, _ => none
def opBin (o : Oper) (ρ : Operand → Option AV) (op : BinOp) (t : TypeId) (x y : Operand) (st : St) : Option ORes := match ρ x, ρ y with
  | some a, some b => match quickBin op a b with
    | some v => some (.val v st)
    | none => slowBin P o ρ op t x y a b st
  | _, _ => none
def quickUn (op : UnOp) (a : AV) : Option AV := match op, a with
  | .neg, .int .i64 (.ofNat (n + 1)) => match Nat.blt n 9223372036854775807 with
    | true => some (.int .i64 (.negSucc n))
    | false => none
  | .xor, .int .u32 (.ofNat n) => match Nat.blt n 4294967296 with
    | true => some (.int .u32 (.ofNat (Nat.sub 4294967295 n)))
    | false => none
  | .not, .bool true => some (.bool false)
  | .not, .bool false => some (.bool true)
  | _, _ => none
def opUn (o : Oper) (ρ : Operand → Option AV) (op : UnOp) (x : Operand) (st : St) : Option ORes := match ρ x with
  | some a => match quickUn op a with
    | some v => some (.val v st)
    | none => match hasVal ρ x with
      | true => valX (purely P o ρ) st
      | false => none
  | none => none
def opPure1 (o : Oper) (ρ : Operand → Option AV) (x : Operand) (st : St) : Option ORes := match hasVal ρ x with
  | true => valX (purely P o ρ) st
  | false => none
def quickConv (dst : TypeId) (a : AV) : Option AV := match a, P.underlying dst with
  | .int _ (.ofNat n), some (.int k) => fitX k n
  | .int _ (.negSucc n), some (.int .u64) => match Nat.blt n 18446744073709551616 with
    | true => some (.int .u64 (.ofNat (Nat.sub 18446744073709551615 n)))
    | false => none
  | _, _ => none
def opConvert (o : Oper) (ρ : Operand → Option AV) (src dst : TypeId) (x : Operand) (st : St) : Option ORes := match ρ x, P.underlying src with
  | some (.int k n), some _ => match quickConv P dst (.int k n) with
    | some v => some (.val v st)
    | none => opPure1 P o ρ x st
  | some (.str s), some _ => pairX (convX P src dst (.str s) st)
  | some (.slice l off len es c), some _ => pairX (convX P src dst (.slice l off len es c) st)
  | _, _ => none
def opS2AP (t : TypeId) (x : Option AV) (st : St) : Option ORes := match x, P.underlying t with
  | some (.slice l off len _ _), some (.array n _) => match Nat.ble n len with
    | true => some (.val (.ptr l off) st)
    | false => none
  | _, _ => none
def opPure2 (o : Oper) (ρ : Operand → Option AV) (x y : Operand) (st : St) : Option ORes := match hasVal ρ x, hasVal ρ y with
  | true, true => valX (purely P o ρ) st
  | _, _ => none
def allVal (ρ : Operand → Option AV) : List Operand → Bool
  | [] => true
  | x :: xs => match hasVal ρ x with
    | true => allVal ρ xs
    | false => false
def opPureL (o : Oper) (ρ : Operand → Option AV) (xs : List Operand) (st : St) : Option ORes := match allVal ρ xs with
  | true => valX (purely P o ρ) st
  | false => none
def opDefer (mode : Nat) (ρ : Operand → Option AV) (c : Call) : Option ORes := match mode, c.callee with
  | 0, .value f => match ρ f, mapX ρ c.args.toList with
    | some (.func fn first cap), some args => match plainFn fn, appX first args with
      | true, some as => some (.defer (.fn fn cap as))
      | _, _ => none
    | _, _ => none
  | _, _ => none

variable (T : Tools)

def callValX (f : AV) (args : List AV) (st : St) : Option ORes := match f with
  | .func (.func g) first cap => match appX args cap with
    | some as => match appX first as with
      | some as => pairX (T.call g as st)
      | none => none
    | none => none
  | .func (.yield l) [] [] => pairX (T.round l args st)
  | _ => none
def opCallVal (mode : Nat) (f : Option AV) (args : Option (List AV)) (st : St) : Option ORes := match mode, f, args with
  | 2, _, _ => none
  | _, some f, some args => callValX T f args st
  | _, _, _ => none
def opLen (o : Oper) (ρ : Operand → Option AV) (x : Operand) (t : TypeId) (st : St) : Option ORes := match ρ x, P.underlying t with
  | some (.slice _ _ n _ _), some (.slice _) => forceN n fun n => some (.val (.int .i64 (.ofNat n)) st)
  | some .eslice, some (.slice _) => some (.val (.int .i64 (.ofNat 0)) st)
  | some (.map l), some (.map _ _) => match st.h.get l with
    | some (.map es _) => some (.val (.int .i64 (.ofNat es.length)) st)
    | _ => none
  | _, _ => opPure1 P o ρ x st
def opBuiltin (mode : Nat) (o : Oper) (ρ : Operand → Option AV) (b : Builtin) (args : List Operand) (ts : List TypeId) (st : St) : Option ORes := match b, args, ts with
  | .append, [s, x], [t, u] => match ρ s, ρ x with
    | some s, some x => pairX (appendX P t u s x st)
    | _, _ => none
  | .copy, [d, x], [t, _] => match ρ d, ρ x with
    | some d, some x => pairX (copyX P t d x st)
    | _, _ => none
  | .len, [x], [t] => opLen P o ρ x t st
  | .recover, [], [] => match mode with
    | 2 => some (.val .nilIface st)
    | _ => none
  | .min, xs, _ => opPureL P o ρ xs st
  | .max, xs, _ => opPureL P o ρ xs st
  | _, _, _ => none
def opCall (mode : Nat) (o : Oper) (ρ : Operand → Option AV) (c : Call) (st : St) : Option ORes := match c.callee with
  | .value f => opCallVal T mode (ρ f) (mapX ρ c.args.toList) st
  | .builtin b => opBuiltin P mode o ρ b c.args.toList c.argTypes.toList st
  | .invoke _ _ => none

/-- mode 0: a plain frame; 1: a round's; 2: a deferred call's. -/
def opX (mode : Nat) (o : Oper) (ρ : Operand → Option AV) (st : St) : Option ORes := match o.op with
  | .move x => valX (ρ x) st
  | .assign x => valX (ρ x) st
  | .pick c a b => opPick (ρ c) (ρ a) (ρ b) st
  | .load t a => opLoad P t (ρ a) st
  | .store t a x => opStore P t (ρ a) (ρ x) st
  | .alloc e => opAlloc P e st
  | .box e x => opBox e (ρ x) st
  | .build t ps => opBuild P t (partsX ρ ps) st
  | .buildSlice t len ps => opBuildSlice P t len (partsX ρ ps) st
  | .fieldAddr s x f => opFieldAddr P s (ρ x) f st
  | .indexAddr t x ix => opIndexAddr P t (ρ x) (ρ ix) st
  | .slice t x lo hi mx => opSlice P o ρ t x lo hi mx st
  | .makeSlice t l c => opMakeSlice P t (ρ l) (ρ c) st
  | .makeFunc f first cap => opMakeFunc f (mapX ρ first.toList) (mapX ρ cap.toList) st
  | .makeMap _ r => opMakeMap r st
  | .lookup t x k ok => opLookup P t (ρ x) (ρ k) ok st
  | .mapUpdate t x k v => opUpdate P t (ρ x) (ρ k) (ρ v) st
  | .range t x => opRange P t (ρ x) st
  | .next it isString => opNext (ρ it) isString st
  | .entry it => opEntry (ρ it) st
  | .extract t i => opExtract (ρ t) i st
  | .field t x f => opField P t (ρ x) f st
  | .nilCheck x => opNilCheck (ρ x) st
  | .convert src dst x => opConvert P o ρ src dst x st
  | .sliceToArrayPointer t x => opS2AP P t (ρ x) st
  | .binOp op t x y _ => opBin P o ρ op t x y st
  | .unOp op _ x => opUn P o ρ op x st
  | .index _ x i => opPure2 P o ρ x i st
  | .typeAssert x _ _ _ => opPure1 P o ρ x st
  | .defer c => opDefer mode ρ c
  | .call c => opCall P T mode o ρ c st
  | _ => none

/-- Is the operation wanted? 'ops': the region's. -/
def wantedX (ops : List Oper) (o : Oper) (fr : Fr) : Option Bool := match o.guard with
  | none => some true
  | some (j, want) => match nthX j ops with
    | some p => match p.dst with
      | some d => match fr.tm.get d with
        | some (.bool b) => some (b == want)
        | some (.tuple []) => some false
        | _ => none
      | none => none
    | none => none

def putV (fr : Fr) (d : Option Tmp) (v : AV) (st : St) : Option (Fr × St) := forceV v fun v => match fr.put d v with
  | some fr' => some (fr', st)
  | none => none
def isDefer (o : Oper) : Bool := match o.op with
  | .defer _ => true
  | _ => false
def stepResX (o : Oper) (fr : Fr) (st : St) (r : Option ORes) : Option (Fr × St) := match r with
  | some (.val v st') => putV fr o.dst v st'
  | some (.defer e) => match isDefer o with
    | true => putV { tm := fr.tm, nt := fr.nt, ds := e :: fr.ds } o.dst undefA st
    | false => none
  | none => none
/-- One operation on the frame. -/
def stepX (mode : Nat) (ops : List Oper) (o : Oper) (fr : Fr) (st : St) : Option (Fr × St) := match wantedX ops o fr with
  | some true => stepResX o fr st (opX P T mode o (fr.eval P) st)
  | some false => putV fr o.dst undefA st
  | none => none

def opsX (mode : Nat) (ops : List Oper) : List Oper → Fr → St → Option (Fr × St)
  | [], fr, st => some (fr, st)
  | o :: l, fr, st => match stepX P T mode ops o fr st with
    | some (fr', st') => opsX mode ops l fr' st'
    | none => none

/-! ### A region that draws its order -/
/-- What each operation waits for, itself or through others (as bits). -/
def maskStep (acc : List Nat) (s : Nat) (e : Edge) : Nat := match Region.binds .any e with
  | true => s ||| (2 ^ e.on) ||| ((nthX e.on acc).getD 0)
  | false => s
def maskOf (o : Oper) (acc : List Nat) : Nat := o.after.toList.foldl (maskStep acc) 0
def masksX : List Oper → List Nat → List Nat
  | [], acc => acc
  | o :: l, acc => masksX l (acc ++ [maskOf o acc])
def fullX (ms : List Nat) : Nat → Nat
  | 0 => 0
  | k + 1 => match Nat.beq ((nthX k ms).getD 0 + 1) (2 ^ k) with
    | true => fullX ms k
    | false => k + 1

/-- The operands that an operation names, and its guard's slot. -/
def readsX (ops : List Oper) (o : Oper) : List Tmp :=
  (o.op.operands.toList.filterMap fun | .tmp t => some t | _ => none) ++
  (match o.guard with
    | some (j, _) => (match nthX j ops with | some p => p.dst.toList | none => [])
    | none => [])

/-- Asked once of a region's text: edges lead back; each operation of the head waits for whoever else lays what it reads; the slots are apart. -/
def regionOk (ops : List Oper) (ms : List Nat) (k : Nat) : Bool :=
  ops.zipIdx.all (fun x => x.1.after.toList.all fun e => !Region.binds .any e || Nat.blt e.on x.2) &&
  (ops.take k).zipIdx.all (fun x => (match x.1.guard with | some (j, _) => ((nthX x.2 ms).getD 0).testBit j | none => true) &&
    (readsX ops x.1).all fun t => (ops.take k).zipIdx.all fun y => !(decide (y.1.dst = some t)) || ((nthX x.2 ms).getD 0).testBit y.2) &&
  decide ((ops.take k).filterMap (·.dst)).Nodup

/-- What an operation has laid: its number; labels with what lies there. -/
abbrev Laid := Nat × List (Nat × AObj)
def laidX (h : Tr AObj) (c : Nat) : Nat → List (Nat × AObj)
  | 0 => []
  | n + 1 => match h.get c with
    | some o => (c, o) :: laidX h (c + 1) n
    | none => laidX h (c + 1) n
def putsX : List (Nat × AObj) → Tr AObj → Option (Tr AObj)
  | [], h => some h
  | (l, o) :: r, h => match Tr.put fuelT h l (some o) with
    | some h' => putsX r h'
    | none => none
/-- The heap with what those of the mask have laid. -/
def withX (m : Nat) : List Laid → Tr AObj → Option (Tr AObj)
  | [], h => some h
  | d :: ds, h => match m.testBit d.1 with
    | true => match putsX d.2 h with
      | some h' => withX m ds h'
      | none => none
    | false => withX m ds h
def moreLaid (i : Nat) (ns : List (Nat × AObj)) (as : List Laid) : List Laid := match ns with
  | [] => as
  | _ => (i, ns) :: as

/-- What an operation of the head leaves: the frame, what is laid, the next label. -/
def headResX (i c : Nat) (as : List Laid) (fr : Fr) (d : Option Tmp) (r : Option ORes) : Option (Fr × List Laid × Nat) := match r with
  | some (.val v st') => match putV fr d v st' with
    | some (fr', st'') => match Nat.beq st''.c c, Nat.blt c st''.c with
      | true, _ => some (fr', as, c)
      | false, true => some (fr', moreLaid i (laidX st''.h c (Nat.sub st''.c c)) as, st''.c)
      | false, false => none
    | none => none
  | _ => none
def headOneX (mode : Nat) (ops : List Oper) (core : Tr AObj) (o : Oper) (i m c : Nat) (as : List Laid) (fr : Fr) : Option (Fr × List Laid × Nat) := match wantedX ops o fr with
  | some false => headResX i c as fr o.dst (some (.val undefA { h := core, c := c, lo := c }))
  | some true => match withX m as core with
    | some h => headResX i c as fr o.dst (opX P T mode o (fr.eval P) { h := h, c := c, lo := c })
    | none => none
  | none => none
/-- The head: each operation on what it waits for; nothing that lay before is turned. -/
def headX (mode : Nat) (ops : List Oper) (core : Tr AObj) : List Oper → List Nat → Nat → Nat → List Laid → Fr → Option (Fr × List Laid × Nat)
  | o :: l, m :: ms, i, c, as, fr => match headOneX P T mode ops core o i m c as fr with
    | some (fr', as', c') => headX mode ops core l ms (i + 1) c' as' fr'
    | none => none
  | [], _, _, c, as, fr => some (fr, as, c)
  | _ :: _, [], _, _, _, _ => none

/-- Laid nothing, and handed back what stands in the frame. -/
def sameResX (st : St) (fr : Fr) (d : Option Tmp) (r : Option ORes) : Bool := match r with
  | some (.val v st') => match Nat.beq st'.c st.c with
    | true => (match d with
      | none => true
      | some t => match fr.tm.get t with
        | some u => AV.same v u
        | none => false)
    | false => false
  | _ => false
/-- Those that need not wait for the pivot: nothing laid; the same value behind it. -/
def againX (mode : Nat) (ops : List Oper) (fr : Fr) (st : St) (m : Nat) : List Oper → Nat → Bool
  | o :: l, i => match (match m.testBit i with
    | true => true
    | false => match wantedX ops o fr with
        | some false => true
        | some true => sameResX st fr o.dst (opX P T mode o (fr.eval P) { h := st.h, c := st.c, lo := st.c })
        | none => false) with
    | true => againX mode ops fr st m l (i + 1)
    | false => false
  | [], _ => true

def isPivot (o : Oper) : Bool := match o.op with
  | .store _ _ _ => true
  | .call c => (match c.callee with | .builtin .append => true | _ => false)
  | _ => false

/-- No pivot: the head, then the tail in its order. -/
def plainDrawX (mode : Nat) (ops : List Oper) (ms : List Nat) (k : Nat) (fr : Fr) (st : St) : Option (Fr × St) :=
  match headX P T mode ops st.h (ops.take k) ms 0 st.c [] fr with
  | some (fr', as, c) => match withX (Nat.sub (Nat.pow 2 k) 1) as st.h with
    | some h => opsX P T mode ops (ops.drop k) fr' { h := h, c := c, lo := st.lo }
    | none => none
  | none => none
/-- The pivot waits for whoever has laid anything; who does not wait is asked again behind it. -/
def pivotResX (mode : Nat) (ops : List Oper) (m p : Nat) (as : List Laid) (o : Oper) (fr : Fr) (r : Option ORes) : Option (Fr × St) := match r with
  | some (.val v st') => match as.all (fun d => m.testBit d.1), againX P T mode ops fr st' m (ops.take p) 0 with
    | true, true => match putV fr o.dst v st' with
      | some (fr2, st2) => opsX P T mode ops (ops.drop (p + 1)) fr2 st2
      | none => none
    | _, _ => none
  | _ => none
def pivotDrawX (mode : Nat) (ops : List Oper) (ms : List Nat) (p : Nat) (o : Oper) (fr : Fr) (st : St) : Option (Fr × St) :=
  match headX P T mode ops st.h (ops.take p) ms 0 st.c [] fr with
  | some (fr', as, c) => match withX (Nat.sub (Nat.pow 2 p) 1) as st.h, wantedX ops o fr' with
    | some h, some true => pivotResX P T mode ops ((nthX p ms).getD 0) p as o fr' (opX P T mode o (fr'.eval P) { h := h, c := c, lo := st.lo })
    | _, _ => none
  | none => none

/-- Head, pivot, tail. -/
def drawOkX (mode : Nat) (ops : List Oper) (ms : List Nat) (k : Nat) (fr : Fr) (st : St) : Option (Fr × St) := match k with
  | 0 => opsX P T mode ops ops fr st
  | p + 1 => match nthX p ops with
    | none => none
    | some o => match isPivot o with
      | false => plainDrawX P T mode ops ms (p + 1) fr st
      | true => pivotDrawX P T mode ops ms p o fr st
def drawX (mode : Nat) (ops : List Oper) (fr : Fr) (st : St) : Option (Fr × St) :=
  match regionOk ops (masksX ops []) (fullX (masksX ops []) ops.length) with
  | true => drawOkX P T mode ops (masksX ops []) (fullX (masksX ops []) ops.length) fr st
  | false => none

/-! ### Code -/
/-- Within a block, a loop, a region that draws, nothing is recovered. -/
def m0 (mode : Nat) : Nat := match mode with
  | 1 => 1
  | _ => 0
def normX (r : Option (Fr × St)) : Option (Exit × Fr × St) := match r with
  | some (fr, st) => some (.normal, fr, st)
  | none => none
def hasBody (g : FuncId) : Bool := match P.funcs[g]? with
  | some f => match f.name == "runtime.NumGoroutine" with
    | true => false
    | false => f.body.isSome
  | none => false
/-- Behind a range over a function: the jump that a round has left. -/
def jumpX (fr : Fr) (r : Nat) (st : St) (pend : Option Code) : Option (Exit × Fr × St) := match pend with
  | none => some (.normal, { tm := fr.tm, nt := fr.nt, ds := .coll r :: fr.ds }, st)
  | some .ret => some (.ret, { tm := fr.tm, nt := fr.nt, ds := .coll r :: fr.ds }, st)
  | some (.exit id) => some (.exit id, { tm := fr.tm, nt := fr.nt, ds := .coll r :: fr.ds }, st)
  | _ => none
def isBusy : LoopState → Bool
  | .busy => true
  | _ => false
def rangedX (fr : Fr) (r l : Nat) (res : Option (AV × St)) : Option (Exit × Fr × St) := match res with
  | some (_, st3) => match st3.h.get l with
    | some (.loop s pend _ _ _ _ _ _ _) => match isBusy s, st3.turn l none with
      | false, some st4 => jumpX fr r st4 pend
      | _, _ => none
    | _ => none
  | none => none
def rangeFuncX (fn : FuncId) (g : Option AV) (ps : List Tmp) (assign body : Code) (fr : Fr) (st : St) : Option (Exit × Fr × St) := match g with
  | some (.func (.func gf) first cap) => match hasBody P gf, st.new .deferred with
    | true, some (r, st1) => match st1.new (.loop .ready none fn fr.tm fr.nt ps assign body r) with
      | some (l, st2) => match appX first (.func (.yield l) [] [] :: cap) with
        | some as => rangedX fr r l (T.call gf as st2)
        | none => none
      | none => none
    | _, _ => none
  | _ => none
def blockX (id : Nat) (r : Option (Exit × Fr × St)) : Option (Exit × Fr × St) := match r with
  | some (.exit i, fr', st') => match Nat.beq i id with
    | true => some (.normal, fr', st')
    | false => some (.exit i, fr', st')
  | r => r
def loopX (m : Nat) (c : Code) (r : Option (Exit × Fr × St)) : Option (Exit × Fr × St) := match r with
  | some (.normal, fr', st') => T.loop m c fr' st'
  | r => r
def scopeX (r : Option (Exit × Fr × St)) : Option (Exit × Fr × St) := match r with
  | some (.goto _, _, _) => none
  | r => r
def seqX (r : Option (Exit × Fr × St)) (f : Fr → St → Option (Exit × Fr × St)) : Option (Exit × Fr × St) := match r with
  | some (.normal, fr', st') => f fr' st'
  | r => r
def condX {β : Type} (v : Option AV) (a b : Unit → Option β) : Option β := match v with
  | some (.bool true) => a ()
  | some (.bool false) => b ()
  | _ => none
/-- mode 0: a plain frame; 1: a round's; 2: a deferred call's. fn: the frame's function. -/
def codeX (mode : Nat) (fn : FuncId) : Code → Fr → St → Option (Exit × Fr × St)
  | .skip, fr, st => some (.normal, fr, st)
  | .label _, fr, st => some (.normal, fr, st)
  | .region _ ops false, fr, st => normX (opsX P T mode ops.toList ops.toList fr st)
  | .region _ ops true, fr, st => normX (drawX P T (m0 mode) ops.toList fr st)
  | .seq a b, fr, st => seqX (codeX mode fn a fr st) (codeX mode fn b)
  | .cond c a b, fr, st => condX (fr.eval P c) (fun _ => codeX mode fn a fr st) (fun _ => codeX mode fn b fr st)
  | .block id c, fr, st => blockX id (codeX (m0 mode) fn c fr st)
  | .loop c, fr, st => loopX T (m0 mode + 2 * fn) c (codeX (m0 mode) fn c fr st)
  | .exit id, fr, st => some (.exit id, fr, st)
  | .scope c, fr, st => scopeX (codeX (m0 mode) fn c fr st)
  | .ret, fr, st => some (.ret, fr, st)
  | .rangeFunc g ps assign body, fr, st => match mode with
    | 0 => rangeFuncX P T fn (fr.eval P g) ps.toList assign body fr st
    | _ => none
  | .goto _, _, _ => none
  | .refuse _, _, _ => none

def argsX : List AV → Nat → Tr AV → Option (Tr AV)
  | [], _, t => some t
  | v :: vs, i, t => match Tr.put fuelT t i (some v) with
    | some t' => argsX vs (i + 1) t'
    | none => none

def resultX (fr : Fr) (st : St) : ResultVar → Option AV
  | .tmp t => fr.tm.get t
  | .cell a t => match fr.tm.get a with
    | some (.ptr l off) => loadX P t st l off
    | _ => none

def resultsX (f : Func) (fr : Fr) (st : St) : Option AV := match mapX (resultX P fr st) f.results.toList with
  | some [v] => some v
  | some vs => some (.tuple vs)
  | none => none

/-- A body's end: fell off, or returned. -/
def overX : Exit → Bool
  | .normal => true
  | .ret => true
  | _ => false

def deferredX (d : ADef) (st : St) : Option St := match d with
  | .coll l => match st.h.get l with
    | some .deferred => st.turn l none
    | _ => none
  | .fn (.func g) cap args => match P.funcs[g]?, hasBody P g with
    | some f, true => match f.body with
      | some body => match appX args cap with
        | some as => match argsX as 0 .nil with
          | some tm => match Nat.ble as.length f.ntmps with
            | true => match codeX P T 2 g body { tm := tm, nt := f.ntmps, ds := [] } st with
              | some (e, fr, st') => match overX e, fr.ds, resultsX P f fr st' with
                | true, [], some _ => some st'
                | _, _, _ => none
              | none => none
            | false => none
          | none => none
        | none => none
      | none => none
    | _, _ => none
  | _ => none
def defersX : List ADef → St → Option St
  | [], st => some st
  | d :: ds, st => match deferredX P T d st with
    | some st' => defersX ds st'
    | none => none

def sizeOfSt (st : St) (lo : Nat) : St := { h := st.h, c := st.c, lo := lo }

def enterX (g : FuncId) (f : Func) (body : Code) (args : List AV) (st : St) : Option (AV × St) := match argsX args 0 .nil with
  | some tm => match Nat.ble args.length f.ntmps with
    | true => match codeX P T 0 g body { tm := tm, nt := f.ntmps, ds := [] } st with
      | some (e, fr, st') => match overX e with
        | true => match defersX P T fr.ds st' with
          | some st2 => match resultsX P f fr st2 with
            | some v => forceV v fun v => some (v, st2)
            | none => none
          | none => none
        | false => none
      | none => none
    | false => none
  | none => none

def cmpX : List UInt8 → List UInt8 → Int
  | [], [] => 0
  | [], _ :: _ => -1
  | _ :: _, [] => 1
  | a :: x, b :: y => match decide (a = b) with
    | true => cmpX x y
    | false => match decide (a < b) with
      | true => -1
      | false => 1

def byteRow (st : St) : AV → Option (List UInt8)
  | .slice l off len es _ => match Nat.beq es 1 with
    | true => match readX st l off len with
      | some cs => bytesX cs
      | none => none
    | false => none
  | .nilSlice => some []
  | _ => none

/-- What is known of calls: the function, the arguments, the state; what it hands back (it turns nothing). -/
abbrev Known := FuncId → List AV → St → Option AV

def callX (K : Known) (g : FuncId) (args : List AV) (st : St) : Option (AV × St) := match K g args st with
  | some v => some (v, st)
  | none => match P.funcs[g]?, hasBody P g with
    | some f, true => match f.body with
      | some body => enterX P T g f body args st
      | none => none
    | _, _ => none

def psX : List Tmp → List AV → Nat → Tr AV → Option (Tr AV)
  | [], [], _, t => some t
  | p :: ps, v :: vs, nt, t => match Nat.blt p nt with
    | true => match Tr.put fuelT t p (some v) with
      | some t' => psX ps vs nt t'
      | none => none
    | false => none
  | _, _, _, _ => none

/-- A round is over: the record is ready again, or done with a jump pending. -/
def endRoundX (l : Nat) (e : Exit) (st : St) : Option (AV × St) := match st.h.get l with
  | some (.loop _ _ fn tm nt ps assign body defers) => match e with
    | .normal => (match st.turn l (some (.loop .ready none fn tm nt ps assign body defers)) with
      | some st' => some (.bool true, st')
      | none => none)
    | .ret => (match st.turn l (some (.loop .done (some .ret) fn tm nt ps assign body defers)) with
      | some st' => some (.bool false, st')
      | none => none)
    | .exit id => (match st.turn l (some (.loop .done (some (.exit id)) fn tm nt ps assign body defers)) with
      | some st' => some (.bool false, st')
      | none => none)
    | _ => none
  | _ => none
def beginRoundX (l : Nat) (st : St) : Option St := match st.h.get l with
  | some (.loop .ready pend fn tm nt ps assign body defers) => st.turn l (some (.loop .busy pend fn tm nt ps assign body defers))
  | _ => none
def bodyRoundX (l : Nat) (fn : FuncId) (body : Code) (r : Option (Exit × Fr × St)) : Option (AV × St) := match r with
  | some (.normal, fr1, st1) => match beginRoundX l st1 with
    | some st2 => match codeX P T 1 fn body fr1 st2 with
      | some (e, _, st3) => endRoundX l e st3
      | none => none
    | none => none
  | _ => none
def roundX (l : Nat) (args : List AV) (st : St) : Option (AV × St) := match st.h.get l with
  | some (.loop _ _ fn tm nt ps assign body _) => match psX ps args nt tm with
    | some tm1 => bodyRoundX P T l fn body (codeX P T 1 fn assign { tm := tm1, nt := nt, ds := [] } st)
    | none => none
  | _ => none
end

def tools (P : Program) (K : Known) : Nat → Tools
  | 0 => ⟨fun _ _ _ _ => none, fun _ _ _ => none, fun _ _ _ => none⟩
  | n + 1 => ⟨fun m c fr st => match codeX P (tools P K n) (m % 2) (m / 2) c fr st with
      | some (.normal, fr', st') => (tools P K n).loop m c fr' st'
      | r => r,
    fun g args st => callX P (tools P K n) K g args st,
    fun l args st => roundX P (tools P K n) l args st⟩
end Go.Proofs.Bc
