/- The abstract machine: regions that draw their order. Each operation is reckoned from what stands ahead of it by the region's edges alone; so any order gives the same. No program's law is stated here. No conditions. -/
import Derived.Test.YtfonmnodjmeigaaAv13
namespace Go.Proofs.Ytfonmnodjmeigaa.Av
open Go Go.RowKit
set_option linter.unusedVariables false
set_option linter.unusedSimpArgs false

/-- the slots that an operation names -/
def namesO : List Operand → List Nat
  | [] => []
  | .tmp t :: l => t :: namesO l
  | _ :: l => namesO l
def restr (sl : Sl) : List Nat → Sl
  | [] => []
  | t :: l => (t, slotOf sl t) :: restr sl l
/-- the operations ahead, as bits -/
def hasBit (m j : Nat) : Bool := Nat.beq (Nat.land (Nat.shiftRight m j) 1) 1
/-- what stands ahead: the blocks that turned by operations ahead, newest first -/
def viewOf (mask : Nat) : List (Nat × Hp) → Hp → Hp
  | [], h => h
  | (j, d) :: l, h => match hasBit mask j with
    | true => d ++ viewOf mask l h
    | false => viewOf mask l h
def joinD : List (Nat × Hp) → Hp → Hp
  | [], h => h
  | (_, d) :: l, h => d ++ joinD l h
/-- the blocks of the call's own that a value names -/
def idsC : AV → List Nat
  | .ptr r _ => [r]
  | .sl r _ => [r]
  | _ => []
def idsL : List AV → List Nat
  | [] => []
  | v :: l => idsC v ++ idsL l
def idsLive (sl : Sl) : List Nat → List Nat
  | [] => []
  | t :: l => idsL (slotOf sl t).cells ++ idsLive sl l
/-- what an operation looks into: the blocks that its operands name -/
def fpO (sl : Sl) (o : Oper) : List Nat := idsLive sl (namesO o.op.operands.toList)
def memN (t : Nat) : List Nat → Bool
  | [] => false
  | q :: l => Nat.beq q t || memN t l
def meets : List Nat → List Nat → Bool
  | [], _ => false
  | t :: l, k => memN t k || meets l k
/-- the blocks that turn -/
def keysN : Hp → List Nat
  | [] => []
  | (r, _) :: d => r :: keysN d
/-- the rows of what was reckoned: a number, the blocks that it looks into or turns, those that it turns: those that matter stand ahead -/
def rowsOk1 (mask : Nat) (fp w : List Nat) : List (Nat × List Nat × List Nat) → Bool
  | [] => true
  | (j, tj, wj) :: l => match meets w tj || meets fp wj with
    | true => hasBit mask j && rowsOk1 mask fp w l
    | false => rowsOk1 mask fp w l
def rowsOk (mask : Nat) (fp w : List Nat) (l : List (Nat × List Nat × List Nat)) : Bool := match fp, w with
  | [], [] => true
  | _, _ => rowsOk1 mask fp w l
def restrH (h : Hp) : List Nat → Hp
  | [] => []
  | r :: l => match look h r with
    | some b => (r, b) :: restrH h l
    | none => restrH h l
def heapFor (fp : List Nat) (mask : Nat) (ds : List (Nat × Hp)) (h0 : Hp) : Hp := restrH (viewOf mask ds h0) fp
/-- nothing is pushed where nothing turned -/
def pushD (i : Nat) (d : Hp) (ds : List (Nat × Hp)) : List (Nat × Hp) := match d with
  | [] => ds
  | x :: d => (i, x :: d) :: ds
section
variable (P : Program) (Snd : FuncId → List AV → AV → Prop) (ops : Array Oper) (m : Nat) (h0 : Hp)
/-- Operations in the text's order, each from what stands ahead of it. -/
def aopsD : List Oper → List Nat → Nat → Sl → List (Nat × Hp) → List (Nat × List Nat × List Nat) → Nat → (Sl → Hp → Nat → Prop) → Prop
  | [], _, _, sl, ds, _, nx, K => K sl (joinD ds h0) nx
  | _ :: _, [], _, _, _, _, _, _ => False
  | o :: l, mask :: ms, i, sl, ds, rows, nx, K => match o.guard with
    | none => forceL (fpO sl o) fun fp => aop P Snd o (restr sl (namesO o.op.operands.toList)) (heapFor fp mask ds h0) nx fun v d n => forceL (keysN d) fun ks =>
        match rowsOk mask fp ks rows with
        | true => putK m o.dst v sl fun sl' => stepN nx n fun nx => aopsD l ms (i + 1) sl' (pushD i d ds) ((i, fp ++ ks, ks) :: rows) nx K
        | false => False
    | some (j, want) => match guardSlot ops j, hasBit mask j with
      | some g, true => match slotOf sl g with
        | .ex (.bool b) => (b = want → forceL (fpO ((g, .ex (.bool want)) :: sl) o) fun fp => aop P Snd o (restr ((g, .ex (.bool want)) :: sl) (namesO o.op.operands.toList)) (heapFor fp mask ds h0) nx fun v d n => forceL (keysN d) fun ks =>
              match rowsOk mask fp ks rows with
              | true => putK m o.dst v ((g, .ex (.bool want)) :: sl) fun sl' => stepN nx n fun nx => aopsD l ms (i + 1) sl' (pushD i d ds) ((i, fp ++ ks, ks) :: rows) nx K
              | false => False) ∧
            (b = (!want) → putK m o.dst (.ex undef) ((g, .ex (.bool (!want))) :: sl) fun sl => aopsD l ms (i + 1) sl (pushD i [] ds) ((i, [], []) :: rows) nx K)
        | .ex (.tuple _) => putK m o.dst (.ex undef) sl fun sl => aopsD l ms (i + 1) sl (pushD i [] ds) ((i, [], []) :: rows) nx K
        | _ => False
      | _, _ => False
end
/-- bit j of an operation's mask is told by an edge of it -/
def told (ms : List Nat) (j : Nat) : List Edge → Bool
  | [] => false
  | e :: l => (Region.binds .any e && (Nat.beq e.on j || hasBit (ms.getD e.on 0) j)) || told ms j l
def bitsOk (ms : List Nat) (mask : Nat) (es : List Edge) : Nat → Bool
  | 0 => true
  | j + 1 => (!hasBit mask j || told ms j es) && bitsOk ms mask es j
/-- edges lead back -/
def edgesOk (i : Nat) : List Edge → Bool
  | [] => true
  | e :: l => (!Region.binds .any e || Nat.blt e.on i) && edgesOk i l
def guardNames (ops : Array Oper) (o : Oper) : List Nat := match o.guard with
  | some (j, _) => match guardSlot ops j with
    | some g => [g]
    | none => []
  | none => []
def dstNames (o : Oper) : List Nat := match o.dst with
  | some d => [d]
  | none => []
def allNames (ops : Array Oper) (o : Oper) : List Nat := dstNames o ++ (guardNames ops o ++ namesO o.op.operands.toList)
/-- those ahead in the text with which it shares a slot that one of both writes stand ahead by the edges -/
def sharesOk (ops : Array Oper) (mask : Nat) (o : Oper) : Nat → List Oper → Bool
  | _, [] => true
  | j, q :: l => (!(meets (dstNames q) (allNames ops o) || meets (dstNames o) (allNames ops q)) || hasBit mask j) && sharesOk ops mask o (j + 1) l
def drawFrom (ops : Array Oper) (all : List Oper) (ms : List Nat) : Nat → List Oper → List Nat → Bool
  | _, [], [] => true
  | i, o :: l, mask :: k => Nat.blt mask (Nat.shiftLeft 1 i) && bitsOk ms mask o.after.toList i && edgesOk i o.after.toList && sharesOk ops mask o 0 (all.take i) && drawFrom ops all ms (i + 1) l k
  | _, _, _ => false
def drawOk (ops : Array Oper) (ms : List Nat) : Bool := drawFrom ops ops.toList ms 0 ops.toList ms
/-- A region that draws its order: first some blocks may be frozen. -/
def aregD (P : Program) (Snd : FuncId → List AV → AV → Prop) (ops : Array Oper) (m : Nat) (sl : Sl) (h : Hp) (nx : Nat) (K : Sl → Hp → Nat → Prop) : Prop :=
  ∃ (pre ms : List Nat), drawOk ops ms = true ∧ aopsD P Snd ops m (freezes h pre ++ h) ops.toList ms 0 sl [] [] nx K
end Go.Proofs.Ytfonmnodjmeigaa.Av
