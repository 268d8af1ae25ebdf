/- The abstract machine: code, loops, functions; and that they are true of the model. No program's law is stated here. No conditions. -/
import Derived.Test.YtfonmnodjmeigaaAvG
import Derived.Deep.LoopGhost
import Derived.Scope
namespace Go.Proofs.Ytfonmnodjmeigaa.Av
open Go Go.RowKit
set_option linter.unusedVariables false
set_option linter.unusedSimpArgs false

inductive AX where
  | norm
  | exit (id : Nat)
  | ret

/-! ### the state at a loop's head, brought into one form -/
def elemN (r : Nat) : List Nat → Bool
  | [] => false
  | q :: l => match Nat.beq q r with
    | true => true
    | false => elemN r l
def idx (r : Nat) : List Nat → Nat → Option Nat
  | [], _ => none
  | q :: l, i => match Nat.beq q r with
    | true => some i
    | false => idx r l (i + 1)
def collect (h : Hp) : Nat → List Nat → List Nat → List Nat
  | 0, _, acc => acc
  | _ + 1, [], acc => acc
  | n + 1, r :: todo, acc => match elemN r acc with
    | true => collect h n todo acc
    | false => match blkOf h r with
      | some ⟨cs, _, _, false⟩ => collect h n (todo ++ idsL cs) (acc ++ [r])
      | some ⟨_, _, _, true⟩ => collect h n todo (acc ++ [r])
      | none => collect h n todo acc
def renC (acc : List Nat) : AV → AV
  | .ptr r o => match idx r acc 0 with
    | some i => .ptr i o
    | none => .unk
  | .sl r n => match idx r acc 0 with
    | some i => .sl i n
    | none => .unk
  | .ex v => .ex v
  | .vs n cs => .vs n cs
  | .vp cs o => .vp cs o
  | .vq cs o => .vq cs o
  | _ => .unk
def renL (acc : List Nat) : List AV → List AV
  | [] => []
  | v :: l => renC acc v :: renL acc l
def renV (acc : List Nat) : AV → AV
  | .agg cs => .agg (renL acc cs)
  | v => renC acc v
def liveV (acc : List Nat) (sl : Sl) : List Nat → List AV
  | [] => []
  | t :: l => renV acc (slotOf sl t) :: liveV acc sl l
def liveB (acc : List Nat) (h : Hp) : List Nat → List ABlk
  | [] => []
  | r :: l => match blkOf h r with
    | some ⟨cs, el, fz, true⟩ => ⟨cs, el, fz, true⟩ :: liveB acc h l
    | some ⟨cs, el, fz, false⟩ => ⟨renL acc cs, el, fz, false⟩ :: liveB acc h l
    | none => liveB acc h l
/-- nil slices become rows of the call's own (some e), or slices that are read (none) -/
def thaw : List (Nat × Option TypeId) → Sl → Hp → Nat → (Sl → Hp → Nat → Prop) → Prop
  | [], sl, h, nx, k => k sl h nx
  | (t, e) :: l, sl, h, nx, k => match slotOf sl t with
    | .ex (.slice none 0 0) => match e with
      | some e => thaw l ((t, .sl nx 0) :: sl) ((nx, some ⟨[], some e, false, true⟩) :: h) (nx + 1) k
      | none => thaw l ((t, .vs 0 []) :: sl) h nx k
    | _ => thaw l sl h nx k
def nodupN : List Nat → Bool
  | [] => true
  | r :: l => !elemN r l && nodupN l
def canonK (live : List Nat) (th : List (Nat × Option TypeId)) (sl : Sl) (h : Hp) (nx : Nat) (k : List AV → List ABlk → Prop) : Prop :=
  thaw th sl h nx fun sl h nx => match nodupN (collect h 40 (idsLive sl live) []), Nat.beq (liveB (collect h 40 (idsLive sl live) []) h (collect h 40 (idsLive sl live) [])).length (collect h 40 (idsLive sl live) []).length with
    | true, true => k (liveV (collect h 40 (idsLive sl live) []) sl live) (liveB (collect h 40 (idsLive sl live) []) h (collect h 40 (idsLive sl live) []))
    | _, _ => False
def zipS : List Nat → List AV → Sl
  | t :: l, v :: vs => (t, v) :: zipS l vs
  | _, _ => []
def zipB : Nat → List ABlk → Hp
  | _, [] => []
  | i, b :: l => (i, some b) :: zipB (i + 1) l

section
variable (P : Program) (Snd : FuncId → List AV → AV → Prop) (m : Nat)
abbrev QA := AX → Sl → Hp → Nat → Prop
def avc : Code → Sl → Hp → Nat → QA → Prop
  | .skip, sl, h, nx, Q => Q .norm sl h nx
  | .region _ ops draw, sl, h, nx, Q => match draw with
    | false => aops P Snd ops m ops.toList sl h nx (Q .norm)
    | true => aregD P Snd ops m sl h nx (Q .norm)
  | .seq a b, sl, h, nx, Q => avc a sl h nx fun e sl h nx => match e with
    | .norm => avc b sl h nx Q
    | .exit i => Q (.exit i) sl h nx
    | .ret => Q .ret sl h nx
  | .cond c a b, sl, h, nx, Q => match ev sl c with
    | .ex (.bool c) => (c = true → avc a sl h nx Q) ∧ (c = false → avc b sl h nx Q)
    | _ => False
  | .block id c, sl, h, nx, Q => avc c sl h nx fun e sl h nx => match e with
    | .norm => Q .norm sl h nx
    | .exit i => match Nat.beq i id with
      | true => Q .norm sl h nx
      | false => Q (.exit i) sl h nx
    | .ret => Q .ret sl h nx
  | .scope c, sl, h, nx, Q => avc c sl h nx Q
  | .loop c, sl, h, nx, Q => ∃ (live : List Nat) (th : List (Nat × Option TypeId)) (I : List AV → List ABlk → Prop) (μ : List AV → List ABlk → Nat),
      canonK live th sl h nx I ∧ ∀ vs bs, I vs bs → avc c (zipS live vs) (zipB 0 bs) bs.length fun e sl h nx => match e with
        | .norm => canonK live th sl h nx fun vs' bs' => I vs' bs' ∧ μ vs' bs' < μ vs bs
        | .exit i => Q (.exit i) sl h nx
        | .ret => Q .ret sl h nx
  | .exit id, sl, h, nx, Q => Q (.exit id) sl h nx
  | .ret, sl, h, nx, Q => Q .ret sl h nx
  | _, _, _, _, _ => False

def startS : Nat → List AV → Sl
  | _, [] => []
  | i, v :: l => (i, v) :: startS (i + 1) l
/-- a result, out of its variable -/
def resV (sl : Sl) (h : Hp) : ResultVar → (AV → Prop) → Prop
  | .tmp t, k => k (slotOf sl t)
  | .cell a ty, k => match slotOf sl a with
    | .ptr r off => match blkOf h r with
      | some ⟨cs, none, _, _⟩ => loadA P ty cs off k
      | _ => False
    | _ => False
/-- a value that is handed back, told as r -/
def give (h : Hp) (v r : AV) : Prop := match r with
  | .own e n ds => match v with
    | .sl q k => match blkOf h q with
      | some ⟨cs, some e', _, true⟩ => e = e' ∧ n = k ∧ ds = cs
      | _ => False
    | .ex (.slice none 0 0) => n = 0 ∧ ds = []
    | _ => False
  | .vs n ds => match v with
    | .ex (.slice none 0 0) => n = 0 ∧ ds = []
    | v => match packV h v with
      | some (v', _) => v' = .vs n ds
      | none => False
  | r => match packV h v with
    | some (v', _) => v' = r
    | none => False
def noOwn : AV → Bool
  | .own _ _ _ => false
  | _ => true
def noOwnL : List AV → Bool
  | [] => true
  | v :: l => noOwn v && noOwnL l
/-- one at most is handed over -/
def oneOwn : List AV → Bool
  | [] => true
  | v :: l => match noOwn v with
    | true => oneOwn l
    | false => noOwnL l
def giveL (sl : Sl) (h : Hp) : List ResultVar → List AV → Prop
  | [], [] => True
  | x :: l, r :: rs => (resV P sl h x fun v => give h v r) ∧ giveL sl h l rs
  | _, _ => False
def aret (fn : Func) (sl : Sl) (h : Hp) (r : AV) : Prop := match fn.results.toList with
  | [x] => resV P sl h x fun v => give h v r
  | l => match r with
    | .tup rs => match oneOwn rs with
      | true => giveL P sl h l rs
      | false => False
    | _ => False
def abody (fn : Func) (args : List AV) (r : AV) : Prop := match fn.body with
  | some c => avc P Snd fn.ntmps c (startS 0 args) [] 0 fun e sl h nx => match e with
    | .norm => aret P fn sl h r
    | .ret => aret P fn sl h r
    | .exit _ => False
  | none => False
end
end Go.Proofs.Ytfonmnodjmeigaa.Av
