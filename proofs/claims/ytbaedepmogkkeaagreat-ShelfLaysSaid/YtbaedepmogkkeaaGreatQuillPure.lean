/- The plain mathematics of quill: numbers as bytes, the highest byte first; rows; scanning. No program. No conditions. -/
import Derived.Test.YtbaedepmogkkeaaGreatBase
namespace Go.Proofs.YtbaedepmogkkeaaGreat.Quill
set_option linter.unusedSimpArgs false
set_option linter.unusedVariables false

/-- The byte at place i of a number of a size: the highest byte first. -/
def byteOf (size n i : Nat) : UInt8 := UInt8.ofNat (n / 2 ^ (8 * (size - 1 - i)))
def numB (size n : Nat) : List UInt8 := (List.range size).map (byteOf size n)
/-- What bytes tell. -/
def tell (l : List UInt8) : Nat := l.foldl (fun a b => a * 256 + b.toNat) 0

theorem numB_length (size n : Nat) : (numB size n).length = size := by simp [numB]
theorem range_map_snoc {α : Type} (f : Nat → α) (k : Nat) : (List.range (k + 1)).map f = (List.range k).map f ++ [f k] := by
  rw [List.range_succ, List.map_append]; rfl
theorem tell_nil : tell [] = 0 := rfl
theorem tell_snoc (l : List UInt8) (b : UInt8) : tell (l ++ [b]) = tell l * 256 + b.toNat := by simp [tell]
theorem tell_from (l : List UInt8) : ∀ a : Nat, l.foldl (fun a b => a * 256 + b.toNat) a = a * 256 ^ l.length + tell l := by
  induction l with
  | nil => intro a; simp [tell]
  | cons b l ih =>
    intro a
    have h0 : tell (b :: l) = (0 * 256 + b.toNat) * 256 ^ l.length + tell l := by
      rw [tell, List.foldl_cons, ih]
    rw [List.foldl_cons, ih, h0, List.length_cons, Nat.pow_succ, Nat.zero_mul, Nat.zero_add, Nat.add_mul, Nat.mul_assoc, Nat.mul_comm 256]
    omega
theorem tell_cons (b : UInt8) (l : List UInt8) : tell (b :: l) = b.toNat * 256 ^ l.length + tell l := by
  rw [tell, List.foldl_cons, tell_from, Nat.zero_mul, Nat.zero_add]
theorem tell_append (a b : List UInt8) : tell (a ++ b) = tell a * 256 ^ b.length + tell b := by
  rw [tell, List.foldl_append, tell_from]; rfl
theorem tell_lt (l : List UInt8) : tell l < 256 ^ l.length := by
  induction l with
  | nil => simp [tell]
  | cons b l ih =>
    have := b.toNat_lt
    rw [tell_cons, List.length_cons, Nat.pow_succ]
    have h : b.toNat * 256 ^ l.length ≤ 255 * 256 ^ l.length := Nat.mul_le_mul_right _ (by omega)
    omega
theorem byteOf_toNat (size n i : Nat) : (byteOf size n i).toNat = n / 2 ^ (8 * (size - 1 - i)) % 256 := by
  rw [byteOf, UInt8.toNat_ofNat']
theorem mod_step (m p : Nat) : m / 256 % p * 256 + m % 256 = m % (256 * p) := by
  rw [Nat.mod_mul, Nat.mul_comm]; omega
theorem tell_numB_pre (size n : Nat) : ∀ k, k ≤ size → tell ((List.range k).map (byteOf size n)) = n / 2 ^ (8 * (size - k)) % 256 ^ k := by
  intro k
  induction k with
  | zero => intro _; simp [tell, Nat.mod_one]
  | succ k ih =>
    intro hk
    rw [range_map_snoc, tell_snoc, ih (by omega), byteOf_toNat]
    have e1 : size - 1 - k = size - (k + 1) := by omega
    have e2 : 8 * (size - k) = 8 * (size - (k + 1)) + 8 := by omega
    rw [e1, e2, Nat.pow_add, ← Nat.div_div_eq_div_mul, Nat.pow_succ 256 k]
    generalize n / 2 ^ (8 * (size - (k + 1))) = m
    rw [show (2 : Nat) ^ 8 = 256 from rfl, mod_step, Nat.mul_comm]
theorem tell_numB (size n : Nat) : tell (numB size n) = n % 256 ^ size := by
  rw [numB, tell_numB_pre size n size (Nat.le_refl _), Nat.sub_self, Nat.mul_zero, Nat.pow_zero, Nat.div_one]
theorem tell_inj : ∀ {a b : List UInt8}, a.length = b.length → tell a = tell b → a = b
  | [], [], _, _ => rfl
  | [], _ :: _, h, _ => by simp at h
  | _ :: _, [], h, _ => by simp at h
  | x :: a, y :: b, h, e => by
    have hl : a.length = b.length := by simpa using h
    rw [tell_cons, tell_cons, hl] at e
    have ha := tell_lt a
    have hb := tell_lt b
    rw [hl] at ha
    have hp : 0 < 256 ^ b.length := Nat.pow_pos (by omega)
    have e1 : x.toNat = y.toNat := by
      have h1 : (x.toNat * 256 ^ b.length + tell a) / 256 ^ b.length = (y.toNat * 256 ^ b.length + tell b) / 256 ^ b.length := by rw [e]
      rw [Nat.mul_comm x.toNat, Nat.mul_comm y.toNat, Nat.mul_add_div hp, Nat.mul_add_div hp, Nat.div_eq_of_lt ha, Nat.div_eq_of_lt hb] at h1
      omega
    have e2 : tell a = tell b := by rw [e1] at e; omega
    rw [UInt8.toNat_inj.1 e1, tell_inj hl e2]
theorem numB_tell (l : List UInt8) : numB l.length (tell l) = l := by
  apply tell_inj
  · rw [numB_length]
  · rw [tell_numB, Nat.mod_eq_of_lt (tell_lt l)]
theorem numB_mod (size n : Nat) : numB size (n % 256 ^ size) = numB size n := by
  apply tell_inj
  · rw [numB_length, numB_length]
  · rw [tell_numB, tell_numB, Nat.mod_mod]

theorem cast_byte (x t : Nat) : (x : Int) / 2 ^ t % 256 = ((x / 2 ^ t % 256 : Nat) : Int) := by
  rw [Int.natCast_emod, Int.natCast_ediv, Int.natCast_pow]; rfl

/-! ### rows -/
def rowB (s : List UInt8) : List UInt8 := numB 2 s.length ++ s
def rowsB : List (List UInt8) → List UInt8
  | [] => []
  | s :: l => rowB s ++ rowsB l
theorem rowB_length (s : List UInt8) : (rowB s).length = 2 + s.length := by rw [rowB, List.length_append, numB_length]
theorem rowsB_append (a b : List (List UInt8)) : rowsB (a ++ b) = rowsB a ++ rowsB b := by
  induction a with
  | nil => rfl
  | cons s a ih => simp only [List.cons_append, rowsB, ih, List.append_assoc]
theorem rowsB_snoc (a : List (List UInt8)) (s : List UInt8) : rowsB (a ++ [s]) = rowsB a ++ rowB s := by
  rw [rowsB_append]; simp [rowsB]

/-! ### scanning -/
structure Sc where
  text : List UInt8
  pos : Int
  bad : Int
def Sc.stands (s : Sc) : Bool := decide (0 ≤ s.pos ∧ s.pos ≤ (s.text.length : Int))
def Sc.fails (s : Sc) (e : Int) : Sc := ⟨s.text, s.pos, e⟩
def Sc.num (s : Sc) (size : Int) : Nat × Sc :=
  if s.bad ≠ 0 then (0, s)
  else if s.stands = false ∨ size < 1 ∨ 8 < size then (0, s.fails 2)
  else if (s.text.length : Int) - s.pos < size then (0, s.fails 3)
  else (tell ((s.text.drop s.pos.toNat).take size.toNat), ⟨s.text, s.pos + size, 0⟩)
def Sc.row (s : Sc) : List UInt8 × Sc :=
  if (s.num 2).2.bad ≠ 0 then ([], (s.num 2).2)
  else if (s.text.length : Int) - (s.num 2).2.pos < ((s.num 2).1 : Int) then ([], s.fails 3)
  else ((s.text.drop (s.num 2).2.pos.toNat).take (s.num 2).1, ⟨s.text, (s.num 2).2.pos + ((s.num 2).1 : Int), 0⟩)
def Sc.rest (s : Sc) : List UInt8 := if s.bad ≠ 0 ∨ s.stands = false then [] else s.text.drop s.pos.toNat
def Sc.fin (s : Sc) : Int := if s.bad ≠ 0 then s.bad else if s.stands = false then 2 else if s.pos < (s.text.length : Int) then 4 else 0

theorem Sc.num_text (s : Sc) (size : Int) : (s.num size).2.text = s.text := by
  unfold Sc.num Sc.fails
  split
  · rfl
  · split
    · rfl
    · split <;> rfl
theorem Sc.row_text (s : Sc) : s.row.2.text = s.text := by
  unfold Sc.row Sc.fails
  split
  · exact s.num_text 2
  · split <;> rfl
end Go.Proofs.YtbaedepmogkkeaaGreat.Quill
