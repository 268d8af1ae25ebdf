/- The plain mathematics of the sum of bytes: shifts of a register of 32 bits, feeding, skipping, joining. No program. No conditions. -/
import Derived.WalkKit
namespace Go.Proofs.Ytdicpbecdhaphaa.Crc
set_option linter.unusedSimpArgs false
set_option linter.unusedVariables false

def poly : BitVec 32 := 0xedb88320#32
def shift (r : BitVec 32) : BitVec 32 := (r >>> 1) ^^^ (if r.getLsbD 0 then poly else 0#32)
def shiftN : Nat → BitVec 32 → BitVec 32
  | 0, r => r
  | k + 1, r => shift (shiftN k r)
def step (r : BitVec 32) (b : UInt8) : BitVec 32 := shiftN 8 (r ^^^ b.toBitVec.setWidth 32)
def feed (r : BitVec 32) (l : List UInt8) : BitVec 32 := l.foldl step r
def start : BitVec 32 := 0xffffffff#32
def sum (l : List UInt8) : BitVec 32 := ~~~ feed start l
def skip (r : BitVec 32) : Nat → BitVec 32
  | 0 => r
  | n + 1 => step (skip r n) 0
def four (r : BitVec 32) : List UInt8 :=
  [⟨(r >>> 24).setWidth 8⟩, ⟨(r >>> 16).setWidth 8⟩, ⟨(r >>> 8).setWidth 8⟩, ⟨r.setWidth 8⟩]
def sealed (l : List UInt8) : List UInt8 := l ++ four (sum l)

/-! ### a shift adds up, and is one to one -/
theorem shift_xor (a b : BitVec 32) : shift (a ^^^ b) = shift a ^^^ shift b := by
  unfold shift
  rw [BitVec.ushiftRight_xor_distrib, BitVec.getLsbD_xor]
  have e : (if (a.getLsbD 0 ^^ b.getLsbD 0) = true then poly else 0#32) = (if a.getLsbD 0 then poly else 0#32) ^^^ (if b.getLsbD 0 then poly else 0#32) := by
    cases a.getLsbD 0 <;> cases b.getLsbD 0 <;> decide
  rw [e]
  ac_rfl
theorem shift_zero : shift 0#32 = 0#32 := by decide
theorem shift_top (r : BitVec 32) : (shift r).getLsbD 31 = r.getLsbD 0 := by
  unfold shift
  rw [BitVec.getLsbD_xor, BitVec.getLsbD_ushiftRight]
  have h1 : r.getLsbD (1 + 31) = false := BitVec.getLsbD_of_ge _ _ (by omega)
  rw [h1]
  cases r.getLsbD 0 <;> decide
theorem shift_null {r : BitVec 32} (h : shift r = 0#32) : r = 0#32 := by
  have h0 : r.getLsbD 0 = false := by
    rw [← shift_top, h]; decide
  have h1 : r >>> 1 = 0#32 := by
    unfold shift at h
    rw [h0] at h
    simpa using h
  apply BitVec.eq_of_getLsbD_eq
  intro i hi
  rcases Nat.eq_zero_or_pos i with rfl | hp
  · rw [h0]; simp
  · have := congrArg (fun x => x.getLsbD (i - 1)) h1
    simp only [BitVec.getLsbD_ushiftRight] at this
    rw [show 1 + (i - 1) = i from by omega] at this
    rw [this]; simp
theorem xor_null {a b : BitVec 32} (h : a ^^^ b = 0#32) : a = b := by
  have := congrArg (fun x => x ^^^ b) h
  simpa [BitVec.xor_assoc] using this
theorem shift_inj {a b : BitVec 32} (h : shift a = shift b) : a = b :=
  xor_null (shift_null (by rw [shift_xor, h, BitVec.xor_self]))
theorem shiftN_xor (k : Nat) (a b : BitVec 32) : shiftN k (a ^^^ b) = shiftN k a ^^^ shiftN k b := by
  induction k with
  | zero => rfl
  | succ k ih => simp only [shiftN, ih, shift_xor]
theorem shiftN_inj (k : Nat) {a b : BitVec 32} (h : shiftN k a = shiftN k b) : a = b := by
  induction k with
  | zero => exact h
  | succ k ih => exact ih (shift_inj h)

/-! ### a byte's step -/
theorem xor4 (a b c d : BitVec 32) : (a ^^^ b) ^^^ (c ^^^ d) = (a ^^^ c) ^^^ (b ^^^ d) := by
  rw [BitVec.xor_assoc, BitVec.xor_assoc, ← BitVec.xor_assoc b, BitVec.xor_comm b c, BitVec.xor_assoc c]
theorem step_xor (a b : BitVec 32) (x y : UInt8) : step (a ^^^ b) (x ^^^ y) = step a x ^^^ step b y := by
  unfold step
  rw [← shiftN_xor]
  congr 1
  have : (x ^^^ y).toBitVec.setWidth 32 = x.toBitVec.setWidth 32 ^^^ y.toBitVec.setWidth 32 := by
    rw [UInt8.toBitVec_xor, BitVec.setWidth_xor]
  rw [this, xor4]
theorem step_inj {a b : BitVec 32} {x : UInt8} (h : step a x = step b x) : a = b := by
  have := shiftN_inj 8 h
  have := congrArg (fun t => t ^^^ x.toBitVec.setWidth 32) this
  simpa [BitVec.xor_assoc] using this
theorem step_inj_byte {a : BitVec 32} {x y : UInt8} (h : step a x = step a y) : x = y := by
  have h1 := shiftN_inj 8 h
  have h2 : x.toBitVec.setWidth 32 = y.toBitVec.setWidth 32 := by
    have := congrArg (fun t => a ^^^ t) h1
    simpa [← BitVec.xor_assoc] using this
  have h3 := congrArg (fun t : BitVec 32 => t.toNat) h2
  simp only [BitVec.toNat_setWidth, UInt8.toNat_toBitVec] at h3
  have hx := x.toNat_lt
  have hy := y.toNat_lt
  apply UInt8.toNat_inj.1
  omega

/-! ### feeding and skipping -/
theorem feed_append (r : BitVec 32) (a b : List UInt8) : feed r (a ++ b) = feed (feed r a) b := by simp [feed, List.foldl_append]
theorem feed_cons (r : BitVec 32) (x : UInt8) (l : List UInt8) : feed r (x :: l) = feed (step r x) l := rfl
theorem feed_nil (r : BitVec 32) : feed r [] = r := rfl
theorem feed_snoc (r : BitVec 32) (l : List UInt8) (x : UInt8) : feed r (l ++ [x]) = step (feed r l) x := by rw [feed_append]; rfl
theorem feed_inj (l : List UInt8) : ∀ {a b : BitVec 32}, feed a l = feed b l → a = b := by
  induction l with
  | nil => intro a b h; exact h
  | cons x l ih => intro a b h; exact step_inj (ih h)
theorem skip_succ (r : BitVec 32) (n : Nat) : skip (step r 0) n = skip r (n + 1) := by
  induction n with
  | zero => rfl
  | succ n ih => simp only [skip, ih]
theorem skip_add (r : BitVec 32) (m n : Nat) : skip (skip r m) n = skip r (m + n) := by
  induction n with
  | zero => rfl
  | succ n ih => rw [← Nat.add_assoc, skip, ih]; rfl
theorem skip_xor (a b : BitVec 32) (n : Nat) : skip (a ^^^ b) n = skip a n ^^^ skip b n := by
  induction n with
  | zero => rfl
  | succ n ih => simp only [skip, ih]; exact step_xor _ _ 0 0
theorem feed_xor (l : List UInt8) : ∀ (a b : BitVec 32), feed (a ^^^ b) l = feed a l ^^^ skip b l.length := by
  induction l with
  | nil => intro a b; rfl
  | cons x l ih =>
    intro a b
    have h : step (a ^^^ b) x = step a x ^^^ step b 0 := by
      have := step_xor a b x 0
      rwa [UInt8.xor_zero] at this
    rw [feed_cons, h, ih, feed_cons, List.length_cons, skip_succ]
theorem start_not (x : BitVec 32) : ~~~ x = x ^^^ start := by
  rw [show start = BitVec.allOnes 32 from rfl, BitVec.xor_allOnes]
theorem sum_append (a b : List UInt8) : sum (a ++ b) = skip (sum a) b.length ^^^ sum b := by
  unfold sum
  have e : feed start a = start ^^^ ~~~ feed start a := by
    rw [start_not, ← BitVec.xor_assoc, BitVec.xor_comm start, BitVec.xor_assoc, BitVec.xor_self, BitVec.xor_zero]
  rw [feed_append, e, feed_xor, ← e]
  simp only [start_not]
  generalize skip (feed start a ^^^ start) b.length = x
  generalize feed start b = y
  rw [BitVec.xor_comm y x, BitVec.xor_assoc]

/-! ### three texts of one length -/
theorem feed_three (s : List UInt8) : ∀ (a b : List UInt8) (p q r : BitVec 32), a.length = s.length → b.length = s.length →
    feed (p ^^^ q ^^^ r) (List.zipWith (· ^^^ ·) (List.zipWith (· ^^^ ·) s a) b) = feed p s ^^^ feed q a ^^^ feed r b := by
  induction s with
  | nil =>
    intro a b p q r ha hb
    cases a <;> cases b <;> simp at ha hb
    rfl
  | cons x s ih =>
    intro a b p q r ha hb
    cases a with
    | nil => simp at ha
    | cons y a =>
      cases b with
      | nil => simp at hb
      | cons z b =>
        simp only [List.zipWith_cons_cons, feed_cons]
        rw [step_xor, step_xor]
        exact ih a b _ _ _ (by simpa using ha) (by simpa using hb)
theorem sum_three (s a b : List UInt8) (ha : a.length = s.length) (hb : b.length = s.length) :
    sum s ^^^ sum a ^^^ sum b = sum (List.zipWith (· ^^^ ·) (List.zipWith (· ^^^ ·) s a) b) := by
  have h := feed_three s a b start start start ha hb
  have e : start ^^^ start ^^^ start = start := by decide
  rw [e] at h
  unfold sum
  rw [h]
  simp only [start_not]
  generalize feed start s = x; generalize feed start a = y; generalize feed start b = z
  have e2 : (x ^^^ start) ^^^ (y ^^^ start) = x ^^^ y := by
    rw [xor4, BitVec.xor_self, BitVec.xor_zero]
  rw [e2]
  ac_rfl

/-! ### a rule: what becomes of each bit -/
def low (r : BitVec 32) (k : Nat) : BitVec 32 := BitVec.ofNat 32 (r.toNat % 2 ^ k)
theorem low_zero (r : BitVec 32) : low r 0 = 0#32 := by simp [low, Nat.mod_one]
theorem low_all (r : BitVec 32) : low r 32 = r := by
  unfold low
  rw [Nat.mod_eq_of_lt r.isLt]; simp
theorem low_bit (r : BitVec 32) (k i : Nat) : (low r k).getLsbD i = (decide (i < k) && r.getLsbD i) := by
  unfold low
  rw [BitVec.getLsbD_ofNat, Nat.testBit_mod_two_pow]
  by_cases h : i < 32
  · simp [h, BitVec.getLsbD]
  · simp [h, BitVec.getLsbD_of_ge _ _ (Nat.le_of_not_lt h)]
theorem low_succ (r : BitVec 32) (k : Nat) (hk : k < 32) : low r (k + 1) = low r k ^^^ (if r.getLsbD k then 1#32 <<< k else 0#32) := by
  apply BitVec.eq_of_getLsbD_eq
  intro i hi
  rw [BitVec.getLsbD_xor, low_bit, low_bit]
  have hone : (1#32 <<< k).getLsbD i = decide (i = k) := by
    rw [BitVec.getLsbD_shiftLeft, BitVec.getLsbD_one]
    by_cases e : i = k
    · subst e; simp [hi]
    · by_cases hl : i < k
      · simp [hl, e]
      · have : ¬ (i - k = 0) := by omega
        simp [e, this]
  by_cases e : i = k
  · subst e
    have hnn : ¬ i < i := by omega
    cases hb : r.getLsbD i <;> simp [hone, hi]
  · have e1 : (i < k + 1) = (i < k) := by apply propext; omega
    cases hb : r.getLsbD k <;> simp [hone, e, e1]

/-- the sum of a rule's rows at the bits of a register, the first k of them. -/
def ofN (f : Nat → BitVec 32) (r : BitVec 32) : Nat → BitVec 32
  | 0 => 0#32
  | k + 1 => ofN f r k ^^^ (if r.getLsbD k then f k else 0#32)
theorem ofN_lin (L : BitVec 32 → BitVec 32) (hx : ∀ a b, L (a ^^^ b) = L a ^^^ L b) (h0 : L 0#32 = 0#32) (f : Nat → BitVec 32)
    (hf : ∀ i, i < 32 → f i = L (1#32 <<< i)) (r : BitVec 32) : ∀ k, k ≤ 32 → ofN f r k = L (low r k) := by
  intro k
  induction k with
  | zero => intro _; rw [low_zero, h0]; rfl
  | succ k ih =>
    intro hk
    rw [ofN, ih (by omega), low_succ r k (by omega), hx, hf k (by omega)]
    cases r.getLsbD k <;> simp [h0]
theorem skip_null (n : Nat) : skip 0#32 n = 0#32 := by
  induction n with
  | zero => rfl
  | succ n ih => rw [skip, ih]; decide
theorem ofN_skip (m : Nat) (f : Nat → BitVec 32) (hf : ∀ i, i < 32 → f i = skip (1#32 <<< i) m) (r : BitVec 32) : ofN f r 32 = skip r m := by
  rw [ofN_lin (fun x => skip x m) (fun a b => skip_xor a b m) (skip_null m) f hf r 32 (Nat.le_refl _), low_all]

/-! ### sealing -/
theorem four_inj {a b : BitVec 32} (h : four a = four b) : a = b := by
  simp only [four, List.cons.injEq, and_true] at h
  obtain ⟨h1, h2, h3, h4⟩ := h
  have h1 := congrArg UInt8.toBitVec h1
  have h2 := congrArg UInt8.toBitVec h2
  have h3 := congrArg UInt8.toBitVec h3
  have h4 := congrArg UInt8.toBitVec h4
  apply BitVec.eq_of_toNat_eq
  have n1 := congrArg BitVec.toNat h1
  have n2 := congrArg BitVec.toNat h2
  have n3 := congrArg BitVec.toNat h3
  have n4 := congrArg BitVec.toNat h4
  simp only [BitVec.toNat_setWidth, BitVec.toNat_ushiftRight, Nat.shiftRight_eq_div_pow] at n1 n2 n3 n4
  have la := a.isLt
  have lb := b.isLt
  omega
theorem four_length (r : BitVec 32) : (four r).length = 4 := rfl

/-- What is under a seal: the text and 0; or nothing, and why. -/
def opened (l : List UInt8) : List UInt8 × Int :=
  if l.length < 4 then ([], 3) else if four (sum (l.take (l.length - 4))) == l.drop (l.length - 4) then (l.take (l.length - 4), 0) else ([], 10)
theorem opened_short {l : List UInt8} (h : l.length < 4) : opened l = ([], 3) := if_pos h
theorem opened_no {l : List UInt8} (h : ¬ l.length < 4) (hq : (four (sum (l.take (l.length - 4))) == l.drop (l.length - 4)) = false) : opened l = ([], 10) := by
  unfold opened; rw [if_neg h, hq]; rfl
theorem opened_yes {l : List UInt8} (h : ¬ l.length < 4) (hq : (four (sum (l.take (l.length - 4))) == l.drop (l.length - 4)) = true) : opened l = (l.take (l.length - 4), 0) := by
  unfold opened; rw [if_neg h, hq]; rfl
theorem sealed_eq (l : List UInt8) : (sealed (l.take (l.length - 4)) == l) = (four (sum (l.take (l.length - 4))) == l.drop (l.length - 4)) := by
  rw [Bool.eq_iff_iff, beq_iff_eq, beq_iff_eq]
  unfold sealed
  constructor
  · intro h
    have h2 : l.take (l.length - 4) ++ four (sum (l.take (l.length - 4))) = l.take (l.length - 4) ++ l.drop (l.length - 4) := by rw [List.take_append_drop, h]
    exact List.append_cancel_left h2
  · intro h
    rw [h, List.take_append_drop]
theorem sealed_length (l : List UInt8) : (sealed l).length = l.length + 4 := by simp [sealed, four_length]
theorem opened_sealed (l : List UInt8) : opened (sealed l) = (l, 0) := by
  have hl := sealed_length l
  have ht : (sealed l).take ((sealed l).length - 4) = l := by
    rw [hl]; simp [sealed]
  have hd : (sealed l).drop ((sealed l).length - 4) = four (sum l) := by
    rw [hl]; simp [sealed]
  have h := opened_yes (l := sealed l) (by omega) (by rw [ht, hd]; simp)
  rw [h, ht]
/-- With one byte another one there is no such text. -/
theorem opened_turned (l : List UInt8) (i : Nat) (x : UInt8) (hi : i < (sealed l).length) (hx : (sealed l)[i]'hi ≠ x) : opened ((sealed l).set i x) = ([], 10) := by
  have hl := sealed_length l
  have hl2 : ((sealed l).set i x).length = l.length + 4 := by rw [List.length_set, hl]
  have hsub : l.length + 4 - 4 = l.length := by omega
  refine opened_no (by omega) ?_
  rw [beq_eq_false_iff_ne, hl2, hsub]
  by_cases hc : i < l.length
  · have hd : ((sealed l).set i x).drop l.length = four (sum l) := by
      rw [List.drop_set_of_lt hc]; simp [sealed]
    have ht : ((sealed l).set i x).take l.length = l.set i x := by
      rw [List.take_set]; simp [sealed]
    rw [hd, ht]
    intro h
    have h1 := four_inj h
    have hxi : l[i] ≠ x := by
      have : (sealed l)[i]'hi = l[i] := by simp [sealed, List.getElem_append_left hc]
      rwa [this] at hx
    have h2 : feed start (l.set i x) = feed start l := by
      have := congrArg (fun t => ~~~ t) h1
      simpa [sum] using this
    have e1 : l = l.take i ++ l[i] :: l.drop (i + 1) := by
      rw [List.getElem_cons_drop, List.take_append_drop]
    have e2 : l.set i x = l.take i ++ x :: l.drop (i + 1) := List.set_eq_take_append_cons_drop ▸ by rw [if_pos hc]
    rw [e2] at h2
    have h3 : feed start (l.take i ++ x :: l.drop (i + 1)) = feed start (l.take i ++ l[i] :: l.drop (i + 1)) := by rw [h2, ← e1]
    rw [feed_append, feed_append, feed_cons, feed_cons] at h3
    exact hxi (step_inj_byte (feed_inj _ h3)).symm
  · have ht : ((sealed l).set i x).take l.length = l := by
      rw [List.take_set_of_le (by omega)]; simp [sealed]
    rw [ht]
    intro h
    have hg : (((sealed l).set i x).drop l.length)[i - l.length]? = some x := by
      rw [List.getElem?_drop, show l.length + (i - l.length) = i from by omega, List.getElem?_set, if_pos rfl, if_pos hi]
    have hg2 : (four (sum l))[i - l.length]? = some ((sealed l)[i]'hi) := by
      have : (sealed l)[i]? = (four (sum l))[i - l.length]? := by
        rw [sealed, List.getElem?_append_right (by omega)]
      rw [← this, List.getElem?_eq_getElem hi]
    rw [← h, hg2] at hg
    exact hx (by injection hg)
end Go.Proofs.Ytdicpbecdhaphaa.Crc
