/- What the claim stands on, Pl2: contracts of functions and plain facts. No conditions. -/
import Derived.WalkKit
namespace Go.Proofs.YtbaedepmogkkeaaGreat.Crc
set_option linter.unusedSimpArgs false
set_option linter.unusedVariables false
def poly : BitVec 32 := 0xedb88320#32
def shift (r : BitVec 32) : BitVec 32 := (r >>> 1) ^^^ (if r.getLsbD 0 then poly else 0#32)
def shiftN : Nat → BitVec 32 → BitVec 32
 | 0, r => r
 | k + 1, r => shift (shiftN k r)
def step (r : BitVec 32) (b : UInt8) : BitVec 32 := shiftN 8 (r ^^^ b.toBitVec.setWidth 32)
def feed (r : BitVec 32) (l : List UInt8) : BitVec 32 := l.foldl step r
def start : BitVec 32 := 0xffffffff#32
def sum (l : List UInt8) : BitVec 32 := ~~~ feed start l
def skip (r : BitVec 32) : Nat → BitVec 32
 | 0 => r
 | n + 1 => step (skip r n) 0
def four (r : BitVec 32) : List UInt8 :=
 [⟨(r >>> 24).setWidth 8⟩, ⟨(r >>> 16).setWidth 8⟩, ⟨(r >>> 8).setWidth 8⟩, ⟨r.setWidth 8⟩]
def sealed (l : List UInt8) : List UInt8 := l ++ four (sum l)
/-! ### a shift adds up, and is one to one -/
/-! ### a byte's step -/
/-! ### feeding and skipping -/
theorem feed_append (r : BitVec 32) (a b : List UInt8) : feed r (a ++ b) = feed (feed r a) b := by simp [feed, List.foldl_append]
theorem feed_snoc (r : BitVec 32) (l : List UInt8) (x : UInt8) : feed r (l ++ [x]) = step (feed r l) x := by rw [feed_append]; rfl
theorem start_not (x : BitVec 32) : ~~~ x = x ^^^ start := by
 rw [show start = BitVec.allOnes 32 from rfl, BitVec.xor_allOnes]
/-! ### three texts of one length -/
/-! ### a rule: what becomes of each bit -/
def low (r : BitVec 32) (k : Nat) : BitVec 32 := BitVec.ofNat 32 (r.toNat % 2 ^ k)
/-! ### sealing -/
theorem four_length (r : BitVec 32) : (four r).length = 4 := rfl
def opened (l : List UInt8) : List UInt8 × Int :=
 if l.length < 4 then ([], 3) else if four (sum (l.take (l.length - 4))) == l.drop (l.length - 4) then (l.take (l.length - 4), 0) else ([], 10)
theorem opened_short {l : List UInt8} (h : l.length < 4) : opened l = ([], 3) := if_pos h
theorem opened_no {l : List UInt8} (h : ¬ l.length < 4) (hq : (four (sum (l.take (l.length - 4))) == l.drop (l.length - 4)) = false) : opened l = ([], 10) := by
 unfold opened; rw [if_neg h, hq]; rfl
theorem opened_yes {l : List UInt8} (h : ¬ l.length < 4) (hq : (four (sum (l.take (l.length - 4))) == l.drop (l.length - 4)) = true) : opened l = (l.take (l.length - 4), 0) := by
 unfold opened; rw [if_neg h, hq]; rfl
theorem sealed_eq (l : List UInt8) : (sealed (l.take (l.length - 4)) == l) = (four (sum (l.take (l.length - 4))) == l.drop (l.length - 4)) := by
 rw [Bool.eq_iff_iff, beq_iff_eq, beq_iff_eq]
 unfold sealed
 constructor
 ·intro h
  have h2 : l.take (l.length - 4) ++ four (sum (l.take (l.length - 4))) = l.take (l.length - 4) ++ l.drop (l.length - 4) := by rw [List.take_append_drop, h]
  exact List.append_cancel_left h2
 ·intro h
  rw [h, List.take_append_drop]
theorem sealed_length (l : List UInt8) : (sealed l).length = l.length + 4 := by simp [sealed, four_length]
theorem opened_sealed (l : List UInt8) : opened (sealed l) = (l, 0) := by
 have hl := sealed_length l
 have ht : (sealed l).take ((sealed l).length - 4) = l := by
  rw [hl]; simp [sealed]
 have hd : (sealed l).drop ((sealed l).length - 4) = four (sum l) := by
  rw [hl]; simp [sealed]
 have h := opened_yes (l := sealed l) (by omega) (by rw [ht, hd]; simp)
 rw [h, ht]
end Go.Proofs.YtbaedepmogkkeaaGreat.Crc
