/- The abstract machine's operations: what each asks, what it gives, and what it makes of the call's own blocks. No program's law is stated here. No conditions. -/
import Derived.Test.YtfonmnodjmeigaaAv1
namespace Go.Proofs.Ytfonmnodjmeigaa.Av
open Go Go.RowKit
set_option linter.unusedVariables false
set_option linter.unusedSimpArgs false

abbrev Sl := List (Nat × AV)
abbrev Hp := List (Nat × Option ABlk)
def slotOf (sl : Sl) (t : Nat) : AV := match look sl t with
  | some v => v
  | none => .unk
def ev (sl : Sl) : Operand → AV
  | .tmp t => slotOf sl t
  | .const v => .ex v
  | .global _ => .unk
  | .func f => .ex (.func (.func f) #[] #[])
def blkOf (h : Hp) (r : Nat) : Option ABlk := match look h r with
  | some (some b) => some b
  | _ => none
def exAll : List AV → Option (List Value)
  | [] => some []
  | .ex v :: l => match exAll l with
    | some vs => some (v :: vs)
    | none => none
  | _ :: _ => none
def mkAgg (cs : List AV) : AV := match exAll cs with
  | some vs => .ex (.agg vs.toArray)
  | none => .agg cs
/-- a cell that names no block of the call's own -/
def pureC : AV → Bool
  | .ex _ => true
  | .unk => true
  | .vs _ _ => true
  | .vp _ _ => true
  | .vq _ _ => true
  | _ => false
def pureV : AV → Bool
  | .agg cs => cs.all pureC
  | v => pureC v
/-- a value of one cell -/
def one1 : AV → Bool
  | .ex (.agg _) => false
  | .ex (.tuple _) => false
  | .ex _ => true
  | .vs _ _ => true
  | .vp _ _ => true
  | .vq _ _ => true
  | .ptr _ _ => true
  | .sl _ _ => true
  | _ => false
def isUnk : AV → Bool
  | .unk => true
  | _ => false
def known (v : AV) (k : Prop) : Prop := match isUnk v with
  | true => False
  | false => k

/-- what a computation without memory comes to -/
def semPure {α : Type} (P : Program) : Sem α → Option α
  | .pure a => some a
  | .program k => semPure P (k P)
  | .mark _ k => semPure P k
  | _ => none
def rho (sl : Sl) (o : Operand) : Value := match ev sl o with
  | .ex v => v
  | _ => undef
def exOnly (sl : Sl) : List Operand → Bool
  | [] => true
  | o :: l => match ev sl o with
    | .ex _ => exOnly sl l
    | _ => false

abbrev inR (n : Int) : Prop := -9223372036854775808 ≤ n ∧ n ≤ 9223372036854775807
def mulS (i : Nat) : Nat → Nat
  | 1 => i
  | n => i * n
theorem mulS_eq (i n : Nat) : mulS i n = i * n := by
  unfold mulS
  split <;> simp

def setL (cs : List AV) (off : Nat) : List AV → List AV
  | [] => cs
  | v :: vs => setL (cs.set off v) (off + 1) vs
def takeL (cs : List AV) (off k : Nat) : List AV := (cs.drop off).take k

variable (P : Program)
/-- is it a struct or an array? -/
def kindT (t : TypeId) : Option Bool := match P.underlying t with
  | some (.struct _) => some true
  | some (.array _ _) => some true
  | some _ => some false
  | none => none
/-- a variable of type t that begins at cell off -/
def loadA (t : TypeId) (cs : List AV) (off : Nat) (k : AV → Prop) : Prop := match kindT P t with
  | some true => off + sizeT P t ≤ cs.length ∧ k (mkAgg (takeL cs off (sizeT P t)))
  | some false => match cs[off]? with
    | some v => k v
    | none => False
  | none => False
/-- .. where the cells are not spelled out: they are given -/
def loadE (t : TypeId) (cs : List AV) (off : Nat) (k : AV → Prop) : Prop := match kindT P t with
  | some true => ∃ vs : List AV, (vs.length = sizeT P t ∧ ∀ j v, vs[j]? = some v → cs[off + j]? = some v) ∧ k (mkAgg vs)
  | some false => ∃ v, cs[off]? = some v ∧ k v
  | none => False

def packC (h : Hp) : AV → Option (AV × List Nat)
  | .ex v => some (.ex v, [])
  | .unk => some (.unk, [])
  | .vs n cs => some (.vs n cs, [])
  | .vp cs o => some (.vp cs o, [])
  | .vq cs o => some (.vq cs o, [])
  | .sl r n => match blkOf h r with
    | some ⟨cs, _, _, true⟩ => some (.vs n cs, [r])
    | _ => none
  | .ptr r 0 => match blkOf h r with
    | some ⟨cs, _, _, true⟩ => some (.vp cs 0, [r])
    | _ => none
  | _ => none
def packL (h : Hp) : List AV → Option (List AV × List Nat)
  | [] => some ([], [])
  | v :: l => match packC h v with
    | some (v', f) => match packL h l with
      | some (l', f') => some (v' :: l', f ++ f')
      | none => none
    | none => none
def packV (h : Hp) : AV → Option (AV × List Nat)
  | .agg cs => match packL h cs with
    | some (cs', f) => some (.agg cs', f)
    | none => none
  | v => packC h v
def packVs (h : Hp) : List AV → Option (List AV × List Nat)
  | [] => some ([], [])
  | v :: l => match packV h v with
    | some (v', f) => match packVs h l with
      | some (l', f') => some (v' :: l', f ++ f')
      | none => none
    | none => none
/-- the blocks that are frozen now -/
def freezes (h : Hp) : List Nat → Hp
  | [] => []
  | r :: l => match blkOf h r with
    | some ⟨cs, el, true, pu⟩ => freezes h l
    | some ⟨cs, el, false, pu⟩ => (r, some ⟨cs, el, true, pu⟩) :: freezes h l
    | none => freezes h l

def fieldOff (t : TypeId) (f : Nat) : Option (Nat × TypeId) := match P.underlying t with
  | some (.struct fs) => match fs[f]? with
    | some fd => match Nat.blt 0 (sizeT P fd.type) with
      | true => some (fd.offset, fd.type)
      | false => none
    | none => none
  | _ => none
/-- the results of a call: what is handed over becomes a block of the call's own -/
def unpackV (nx : Nat) : AV → AV × Hp × Nat
  | .own e n cs => (.sl nx n, [(nx, some ⟨cs, some e, true, true⟩)], 1)
  | v => (v, [], 0)
def unpackL (nx : Nat) : List AV → List AV × Hp × Nat
  | [] => ([], [], 0)
  | .own e n cs :: l => (.sl nx n :: l, [(nx, some ⟨cs, some e, true, true⟩)], 1)
  | v :: l => match unpackL nx l with
    | (l', h, n) => (v :: l', h, n)
def unpack (nx : Nat) : AV → AV × Hp × Nat
  | .tup vs => match unpackL nx vs with
    | (vs', h, n) => (.tup vs', h, n)
  | v => unpackV nx v

def byteA (b : UInt8) : AV := .ex (.int .u8 b.toNat)
def bytesA (l : List UInt8) : List AV := l.map byteA

/-- A slice's elements, as they are read: how many, the cells, what is frozen by it. nil is a slice. -/
def readS (h : Hp) : AV → Option (Nat × List AV × Bool)
  | .vs n cs => some (n, cs, true)
  | .sl r n => match blkOf h r with
    | some ⟨cs, _, _, pu⟩ => some (n, cs, pu)
    | none => none
  | .ex (.slice none 0 0) => some (0, [], true)
  | _ => none

abbrev Kt := AV → Hp → Nat → Prop
variable (Sound : FuncId → List AV → AV → Prop)

def opPick (sl : Sl) (c a b : Operand) (k : Kt) : Prop := match ev sl c with
  | .ex (.bool c) => match c with
    | true => k (ev sl a) [] 0
    | false => k (ev sl b) [] 0
  | _ => False
def opAlloc (nx : Nat) (t : TypeId) (k : Kt) : Prop := match zeroT P t with
  | some z => k (.ptr nx 0) [(nx, some ⟨(AV.ex z).cells, none, false, true⟩)] 1
  | none => False
def opBox (sl : Sl) (nx : Nat) (x : Operand) (k : Kt) : Prop :=
  known (ev sl x) (k (.ptr nx 0) [(nx, some ⟨(ev sl x).cells, none, false, pureV (ev sl x)⟩)] 1)
def opLoad (sl : Sl) (h : Hp) (t : TypeId) (a : Operand) (k : Kt) : Prop := match ev sl a with
  | .ptr r off => match blkOf h r with
    | some ⟨cs, none, _, _⟩ => loadA P t cs off fun v => k v [] 0
    | some ⟨cs, some _, _, _⟩ => loadE P t cs off fun v => k v [] 0
    | none => False
  | .vp cs off => loadA P t cs off fun v => k v [] 0
  | .vq cs off => loadE P t cs off fun v => k v [] 0
  | _ => False
def opStore (sl : Sl) (h : Hp) (t : TypeId) (a x : Operand) (k : Kt) : Prop := match ev sl a with
  | .ptr r off => match blkOf h r with
    | some ⟨cs, el, false, pu⟩ => known (ev sl x) (match (ev sl x).cells.all one1, Nat.beq (ev sl x).cells.length (sizeT P t), Nat.blt 0 (sizeT P t) with
      | true, true, true => off + (ev sl x).cells.length ≤ cs.length ∧ k (.ex undef) [(r, some ⟨setL cs off (ev sl x).cells, el, false, pu && pureV (ev sl x)⟩)] 0
      | _, _, _ => False)
    | _ => False
  | _ => False
def opFieldAddr (sl : Sl) (t : TypeId) (x : Operand) (f : Nat) (k : Kt) : Prop := match fieldOff P t f with
  | some (d, _) => match ev sl x with
    | .ptr r off => k (.ptr r (off + d)) [] 0
    | .vp cs off => k (.vp cs (off + d)) [] 0
    | .vq cs off => k (.vq cs (off + d)) [] 0
    | _ => False
  | none => False
def opNilCheck (sl : Sl) (x : Operand) (k : Kt) : Prop := match ev sl x with
  | .ptr r off => k (.ptr r off) [] 0
  | .vp cs off => k (.vp cs off) [] 0
  | .vq cs off => k (.vq cs off) [] 0
  | _ => False
def opIndexAddr (sl : Sl) (h : Hp) (t : TypeId) (x i : Operand) (k : Kt) : Prop := match P.underlying t with
  | some (.slice e) => match Nat.blt 0 (sizeT P e) with
    | true => match ev sl x, ev sl i with
      | .sl r n, .ex (.int _ i) => match blkOf h r with
        | some _ => (0 ≤ i ∧ i < n) ∧ k (.ptr r (mulS i.toNat (sizeT P e))) [] 0
        | none => False
      | .vs n cs, .ex (.int _ i) => (0 ≤ i ∧ i < n) ∧ k (.vq cs (mulS i.toNat (sizeT P e))) [] 0
      | _, _ => False
    | false => False
  | some (.array n e) => match Nat.blt 0 (sizeT P e) with
    | true => match ev sl x, ev sl i with
      | .ptr r off, .ex (.int _ i) => (0 ≤ i ∧ i < n) ∧ k (.ptr r (off + mulS i.toNat (sizeT P e))) [] 0
      | _, _ => False
    | false => False
  | _ => False
def opExtract (sl : Sl) (t : Operand) (i : Nat) (k : Kt) : Prop := match ev sl t with
  | .tup vs => match vs[i]? with
    | some v => k v [] 0
    | none => False
  | .ex (.tuple vs) => match vs[i]? with
    | some v => k (.ex v) [] 0
    | none => False
  | _ => False
/-- parts in order, each of the size of an element -/
def partsOk (size : Nat) : Nat → List (Nat × AV) → Bool
  | _, [] => true
  | i, (j, v) :: l => match isUnk v with
    | true => false
    | false => match Nat.beq i j, Nat.beq v.cells.length size with
      | true, true => partsOk size (i + 1) l
      | _, _ => false
def partCells : List (Nat × AV) → List AV
  | [] => []
  | (_, v) :: l => v.cells ++ partCells l
def partsPure : List (Nat × AV) → Bool
  | [] => true
  | (_, v) :: l => pureV v && partsPure l
def evParts (sl : Sl) : List (Nat × Operand) → List (Nat × AV)
  | [] => []
  | (i, x) :: l => (i, ev sl x) :: evParts sl l
def opBuildSlice (sl : Sl) (nx : Nat) (t : TypeId) (n : Nat) (parts : List (Nat × Operand)) (k : Kt) : Prop := match P.underlying t with
  | some (.slice e) => match partsOk (sizeT P e) 0 (evParts sl parts), Nat.beq parts.length n, Nat.ble n 1000, Nat.ble (sizeT P e) 1000, Nat.blt 0 (sizeT P e), zeroT P e with
    | true, true, true, true, true, some _ => ∃ fz : Bool, k (.sl nx n) [(nx, some ⟨partCells (evParts sl parts), some e, fz, partsPure (evParts sl parts)⟩)] 1
    | _, _, _, _, _, _ => False
  | _ => False
/-- a struct's parts -/
def fillL (fs : Array Field) (cs : List AV) : List (Nat × AV) → Option (List AV)
  | [] => some cs
  | (i, v) :: l => match fs[i]? with
    | some f => match isUnk v with
      | true => none
      | false => match Nat.beq v.cells.length (sizeT P f.type), Nat.ble (f.offset + v.cells.length) cs.length with
        | true, true => fillL fs (setL cs f.offset v.cells) l
        | _, _ => none
    | none => none
def opBuild (sl : Sl) (t : TypeId) (parts : List (Nat × Operand)) (k : Kt) : Prop := match P.underlying t, zeroT P t with
  | some (.struct fs), some z => match fs.toList.all (fun f => Nat.blt 0 (sizeT P f.type)), fillL P fs (AV.ex z).cells (evParts sl parts) with
    | true, some cs => k (mkAgg cs) [] 0
    | _, _ => False
  | _, _ => False
def opField (sl : Sl) (t : TypeId) (x : Operand) (f : Nat) (k : Kt) : Prop := match fieldOff P t f with
  | some (d, ft) => match ev sl x with
    | .ex (.agg us) => loadA P ft (AV.ex (.agg us)).cells d fun v => k v [] 0
    | .agg cs => loadA P ft cs d fun v => k v [] 0
    | _ => False
  | none => False
def opIndex (sl : Sl) (t : TypeId) (x i : Operand) (k : Kt) : Prop := match P.underlying t with
  | some .string => match ev sl x, ev sl i with
    | .ex (.string s), .ex (.int _ i) => ∃ b, (0 ≤ i ∧ s[i.toNat]? = some b) ∧ k (.ex (.int .u8 b.toNat)) [] 0
    | _, _ => False
  | some (.array n e) => match ev sl x, ev sl i with
    | .ex (.agg us), .ex (.int _ i) => match kindT P e, Nat.beq 1 (sizeT P e) with
      | some false, true => (0 ≤ i ∧ i < n) ∧ ∃ v, us[i.toNat]? = some v ∧ k (.ex v) [] 0
      | _, _ => False
    | _, _ => False
  | _ => False
def bndV (sl : Sl) (d : Int) : Option Operand → Option Int
  | none => some d
  | some o => match ev sl o with
    | .ex (.int _ i) => some i
    | _ => none
def opSlice (sl : Sl) (h : Hp) (t : TypeId) (x : Operand) (lo hi mx : Option Operand) (k : Kt) : Prop := match P.underlying t with
  | some .string => match ev sl x, mx with
    | .ex (.string s), none => match bndV sl 0 lo, bndV sl s.size hi with
      | some l, some h => (0 ≤ l ∧ l ≤ h ∧ h ≤ s.size) ∧ k (.ex (.string (s.extract l.toNat h.toNat))) [] 0
      | _, _ => False
    | _, _ => False
  | some (.slice e) => match mx, Nat.blt 0 (sizeT P e) with
    | none, true => match ev sl x with
      | .vs n cs => match bndV sl 0 lo, bndV sl n hi with
        | some l, some h => (0 ≤ l ∧ l ≤ h ∧ h ≤ n ∧ n * sizeT P e ≤ cs.length) ∧ k (.vs (h.toNat - l.toNat) (takeL cs (mulS l.toNat (sizeT P e)) (mulS (h.toNat - l.toNat) (sizeT P e)))) [] 0
        | _, _ => False
      | .sl r n => match blkOf h r with
        | some ⟨cs, _, _, true⟩ => match bndV sl 0 lo, bndV sl n hi with
          | some l, some u => (0 ≤ l ∧ l ≤ u ∧ u ≤ n ∧ n * sizeT P e ≤ cs.length) ∧ k (.vs (u.toNat - l.toNat) (takeL cs (mulS l.toNat (sizeT P e)) (mulS (u.toNat - l.toNat) (sizeT P e)))) (freezes h [r]) 0
          | _, _ => False
        | _ => False
      | _ => False
    | _, _ => False
  | _ => False
def opLen (sl : Sl) (t : TypeId) (x : Operand) (k : Kt) : Prop := match P.underlying t with
  | some (.slice _) => match ev sl x with
    | .sl _ n => k (.ex (.int .i64 n)) [] 0
    | .vs n _ => k (.ex (.int .i64 n)) [] 0
    | .ex (.slice none n _) => k (.ex (.int .i64 n)) [] 0
    | _ => False
  | some .string => match ev sl x with
    | .ex (.string b) => k (.ex (.int .i64 b.size)) [] 0
    | _ => False
  | some (.array n _) => k (.ex (.int .i64 n)) [] 0
  | _ => False
/-- the bytes of a type, as the memory's bound has them -/
def bytesT (t : TypeId) : Nat := match P.info? t with
  | some i => i.bytes
  | none => 0
def room (n b : Nat) : Prop := n ≤ 4611686018427387904 ∧ n * b ≤ 140737488355328
/-- append: onto a row of the call's own, or onto nil -/
def appendOn (sl : Sl) (h : Hp) (nx : Nat) (e : TypeId) (s : Operand) (m : Nat) (ds : List AV) (px : Bool) (pre : Prop) (k : Kt) : Prop :=
  match zeroT P e with
  | some z => match Nat.beq z.cells.size (sizeT P e), Nat.blt 0 (sizeT P e), Nat.blt 0 (bytesT P e) with
    | true, true, true => match ev sl s with
      | .sl r n => match blkOf h r with
        | some ⟨cs, some e', fz, pu⟩ => match Nat.beq e e' with
          | true => (room (n + m) (bytesT P e) ∧ cs.length = n * sizeT P e ∧ pre) ∧ k (.sl nx (n + m)) [(nx, some ⟨cs ++ ds, some e, fz, pu && px⟩), (r, none)] 1
          | false => False
        | _ => False
      | .ex (.slice none 0 0) => (room m (bytesT P e) ∧ pre) ∧ k (.sl nx m) [(nx, some ⟨ds, some e, false, px⟩)] 1
      | _ => False
    | _, _, _ => False
  | none => False
def opAppend (sl : Sl) (h : Hp) (nx : Nat) (t tx : TypeId) (s x : Operand) (k : Kt) : Prop := match P.underlying t with
  | some (.slice e) => match P.underlying tx with
    | some (.slice _) => match readS h (ev sl x) with
      | some (m, ds, px) => appendOn P sl h nx e s m ds px (ds.length = m * sizeT P e ∧ ∀ v ∈ ds, one1 v = true) k
      | none => False
    | some .string => match ev sl x, Nat.beq 1 (sizeT P e) with
      | .ex (.string b), true => appendOn P sl h nx e s b.size (bytesA b.data.toList) true True k
      | _, _ => False
    | _ => False
  | _ => False
def zeroL (z : List AV) : Nat → List AV
  | 0 => []
  | n + 1 => z ++ zeroL z n
def opMake (sl : Sl) (nx : Nat) (t : TypeId) (n c : Operand) (k : Kt) : Prop := match P.underlying t with
  | some (.slice e) => match zeroT P e, ev sl n, ev sl c with
    | some z, .ex (.int _ n), .ex (.int _ c) => match Nat.beq z.cells.size (sizeT P e), Nat.blt 0 (sizeT P e), Nat.blt 0 (bytesT P e) with
      | true, true, true => (0 ≤ n ∧ n ≤ c ∧ room c.toNat (bytesT P e)) ∧ k (.sl nx n.toNat) [(nx, some ⟨zeroL (AV.ex z).cells n.toNat, some e, false, true⟩)] 1
      | _, _, _ => False
    | _, _, _ => False
  | _ => False
def opCopy (sl : Sl) (h : Hp) (t tx : TypeId) (d x : Operand) (k : Kt) : Prop := match P.underlying t, ev sl d with
  | some (.slice e), .sl r n => match blkOf h r with
    | some ⟨cs, some e', false, pu⟩ => match Nat.beq e e' with
      | true => match P.underlying tx with
        | some (.slice _) => match readS h (ev sl x) with
          | some (m, ds, px) => (cs.length = n * sizeT P e ∧ ds.length = m * sizeT P e ∧ ∀ v ∈ ds, one1 v = true) ∧
              k (.ex (.int .i64 (min m n : Nat))) [(r, some ⟨ds.take (n * sizeT P e) ++ cs.drop (m * sizeT P e), some e, false, pu && px⟩)] 0
          | none => False
        | some .string => match ev sl x, Nat.beq 1 (sizeT P e) with
          | .ex (.string b), true => (cs.length = n) ∧
              k (.ex (.int .i64 (min b.size n : Nat))) [(r, some ⟨(bytesA b.data.toList).take n ++ cs.drop b.size, some e, false, pu⟩)] 0
          | _, _ => False
        | _ => False
      | false => False
    | _ => False
  | _, _ => False
def opFall (sl : Sl) (o : Oper) (k : Kt) : Prop := match exOnly sl o.op.operands.toList with
  | true => match semPure P (execOp (rho sl) o) with
    | some (.value v) => k (.ex v) [] 0
    | _ => False
  | false => False
def opConvert (sl : Sl) (h : Hp) (nx : Nat) (o : Oper) (src dst : TypeId) (x : Operand) (k : Kt) : Prop := match P.underlying src, P.underlying dst with
  | some .string, some (.slice e) => match P.underlying e, ev sl x with
    | some (.int .u8), .ex (.string s) => match Nat.beq 1 (sizeT P e) with
      | true => s.size ≤ 4611686018427387904 ∧ k (.sl nx s.size) [(nx, some ⟨bytesA s.data.toList, some e, false, true⟩)] 1
      | false => False
    | _, _ => False
  | some (.slice e), some .string => match P.underlying e with
    | some (.int .u8) => match readS h (ev sl x) with
      | some (n, cs, _) => ∃ l : List UInt8, (cs = bytesA l ∧ n = l.length) ∧ k (.ex (.string ⟨l.toArray⟩)) [] 0
      | none => False
    | _ => False
  | some _, some (.int k2) => match ev sl x with
    | .ex (.int _ a) => ∃ z, k2.wrap a = z ∧ k (.ex (.int k2 z)) [] 0
    | _ => opFall P sl o k
  | _, _ => opFall P sl o k
def isNilP : AV → Bool
  | .ex (.pointer none) => true
  | _ => false
def isSomeP : AV → Bool
  | .ptr _ _ => true
  | .vp _ _ => true
  | .vq _ _ => true
  | _ => false
/-- two plain values of the type t: numbers, texts, bools -/
def eqVal (P : Program) (t : TypeId) (x y : Value) : Option Bool := match P.underlying t with
  | some (.int _) => match x, y with
    | .int k a, .int k' b => match decide (k = k') with
      | true => some (a == b)
      | false => none
    | _, _ => none
  | some .string => match x, y with
    | .string a, .string b => some (a.toList == b.toList)
    | _, _ => none
  | some .bool => match x, y with
    | .bool a, .bool b => some (a == b)
    | _, _ => none
  | _ => none
/-- two structs of such values, field by field -/
def eqFs (P : Program) (xs ys : List Value) : List Field → Option Bool
  | [] => some true
  | f :: l => match xs[f.offset]?, ys[f.offset]? with
    | some a, some b => match eqVal P f.type a b, eqFs P xs ys l with
      | some p, some q => some (p && q)
      | _, _ => none
    | _, _ => none
def eqT (P : Program) (t : TypeId) : Bool := match P.underlying t with
  | some (.struct fs) => fs.toList.all (fun f => f.name != "_") && (!P.stoodInHeld t && !P.eqGuardType P.depth t)
  | _ => false
def opEqS (P : Program) (t : TypeId) (fs : List Field) (a b : AV) (neg : Bool) (k : Kt) (fall : Prop) : Prop := match a, b with
  | .ex (.agg us), .ex (.agg vs) => match eqFs P us.toList vs.toList fs with
    | some r => eqT P t = true ∧ k (.ex (.bool (match neg with
      | true => !r
      | false => r))) [] 0
    | none => fall
  | _, _ => fall
def opBin (sl : Sl) (o : Oper) (op : BinOp) (t : TypeId) (x y : Operand) (k : Kt) : Prop := match op, ev sl x, ev sl y with
  | .add, .ex (.int .i64 a), .ex (.int .i64 b) => inR (a + b) ∧ k (.ex (.int .i64 (a + b))) [] 0
  | .sub, .ex (.int .i64 a), .ex (.int .i64 b) => inR (a - b) ∧ k (.ex (.int .i64 (a - b))) [] 0
  | .mul, .ex (.int .i64 a), .ex (.int .i64 b) => inR (a * b) ∧ k (.ex (.int .i64 (a * b))) [] 0
  | .quo, .ex (.int .i64 a), .ex (.int .i64 b) => (0 ≤ a ∧ 0 < b ∧ inR a) ∧ k (.ex (.int .i64 (a / b))) [] 0
  | .rem, .ex (.int .i64 a), .ex (.int .i64 b) => (0 ≤ a ∧ 0 < b) ∧ k (.ex (.int .i64 (a % b))) [] 0
  | .quo, .ex (.int .u64 a), .ex (.int .u64 b) => (0 ≤ a ∧ a < 18446744073709551616 ∧ 0 < b) ∧ k (.ex (.int .u64 (a / b))) [] 0
  | .rem, .ex (.int .u64 a), .ex (.int .u64 b) => (0 ≤ a ∧ 0 < b) ∧ k (.ex (.int .u64 (a % b))) [] 0
  | .shr, .ex (.int kk a), .ex (.int _ b) => 0 ≤ b ∧ k (.ex (.int kk (a.fdiv (2 ^ (min b.toNat kk.bits))))) [] 0
  | .shl, .ex (.int kk a), .ex (.int _ b) => 0 ≤ b ∧ k (.ex (.int kk (kk.wrap (a * 2 ^ (min b.toNat kk.bits))))) [] 0
  | .add, .ex (.string a), .ex (.string b) => a.size + b.size ≤ 9223372036854775807 ∧ k (.ex (.string (a ++ b))) [] 0
  | .add, .ex (.int kk a), .ex (.int k2 b) => match decide (kk = k2) with
    | true => ∃ z, kk.wrap (a + b) = z ∧ k (.ex (.int kk z)) [] 0
    | false => False
  | .sub, .ex (.int kk a), .ex (.int k2 b) => match decide (kk = k2) with
    | true => ∃ z, kk.wrap (a - b) = z ∧ k (.ex (.int kk z)) [] 0
    | false => False
  | .mul, .ex (.int kk a), .ex (.int k2 b) => match decide (kk = k2) with
    | true => ∃ z, kk.wrap (a * b) = z ∧ k (.ex (.int kk z)) [] 0
    | false => False
  | .eql, a, b => match P.underlying t with
    | some (.struct fs) => opEqS P t fs.toList a b false k (opFall P sl o k)
    | some (.pointer _) => match isNilP a, isSomeP b, isSomeP a, isNilP b with
      | true, true, _, _ => k (.ex (.bool false)) [] 0
      | _, _, true, true => k (.ex (.bool false)) [] 0
      | _, _, _, _ => opFall P sl o k
    | _ => opFall P sl o k
  | .neq, a, b => match P.underlying t with
    | some (.struct fs) => opEqS P t fs.toList a b true k (opFall P sl o k)
    | some (.pointer _) => match isNilP a, isSomeP b, isSomeP a, isNilP b with
      | true, true, _, _ => k (.ex (.bool true)) [] 0
      | _, _, true, true => k (.ex (.bool true)) [] 0
      | _, _, _, _ => opFall P sl o k
    | _ => opFall P sl o k
  | _, _, _ => opFall P sl o k
def evL (sl : Sl) : List Operand → List AV
  | [] => []
  | x :: l => ev sl x :: evL sl l
def opCallV (sl : Sl) (h : Hp) (nx : Nat) (f : Operand) (args : List Operand) (k : Kt) : Prop := match ev sl f with
  | .ex (.func (.func f) fst cap) => match fst.toList, cap.toList with
    | [], [] => match packVs h (evL sl args) with
      | some (vs, fr) => ∃ r, Sound f vs r ∧ (match unpack nx r with
          | (v, d, n) => k v (d ++ freezes h fr) n)
      | none => False
    | _, _ => False
  | _ => False
def opCall (sl : Sl) (h : Hp) (nx : Nat) (o : Oper) (c : Call) (k : Kt) : Prop := match c.callee with
  | .value f => opCallV Sound sl h nx f c.args.toList k
  | .builtin .len => match c.args.toList, c.argTypes.toList with
    | [x], [t] => opLen P sl t x k
    | _, _ => False
  | .builtin .append => match c.args.toList, c.argTypes.toList with
    | [s, x], [t, tx] => opAppend P sl h nx t tx s x k
    | _, _ => False
  | .builtin .max => opFall P sl o k
  | .builtin .min => opFall P sl o k
  | _ => False
/-- An operation: what it asks; its value, the blocks that turn, and how many are new. -/
def aop (o : Oper) (sl : Sl) (h : Hp) (nx : Nat) (k : Kt) : Prop := match o.op with
  | .move x => k (ev sl x) [] 0
  | .assign x => k (ev sl x) [] 0
  | .pick c a b => opPick sl c a b k
  | .alloc t => opAlloc P nx t k
  | .box _ x => opBox sl nx x k
  | .load t a => opLoad P sl h t a k
  | .store t a x => opStore P sl h t a x k
  | .fieldAddr t x f => opFieldAddr P sl t x f k
  | .nilCheck x => opNilCheck sl x k
  | .indexAddr t x i => opIndexAddr P sl h t x i k
  | .extract t i => opExtract sl t i k
  | .buildSlice t n ps => opBuildSlice P sl nx t n ps.toList k
  | .build t ps => opBuild P sl t ps.toList k
  | .field t x f => opField P sl t x f k
  | .index t x i => opIndex P sl t x i k
  | .slice t x lo hi mx => opSlice P sl h t x lo hi mx k
  | .makeSlice t n c => opMake P sl nx t n c k
  | .convert src dst x => opConvert P sl h nx o src dst x k
  | .binOp op t x y _ => opBin P sl o op t x y k
  | .unOp _ _ _ => opFall P sl o k
  | .call c => opCall P Sound sl h nx o c k
  | _ => False
end Go.Proofs.Ytfonmnodjmeigaa.Av
