/- quill: laying and scanning back holds of all bytes, numbers and texts. No conditions. -/
import Derived.Test.YtfonmnodjmeigaaBack1
import Derived.Test.YtfonmnodjmeigaaQuillPure2
import Derived.Test.YtfonmnodjmeigaaScans2
namespace Go.Proofs.Ytfonmnodjmeigaa
open Go.RowKit Go.ChangeShapes Go.WideShapes
set_option linter.unusedVariables false
set_option linter.unusedSimpArgs false

theorem shl_256 (z : Nat) (h : z < 7) : IntKind.u64.wrap (2 ^ (8 * (1 + (z : Int))).toNat) = ((256 ^ (1 + z) : Nat) : Int) := by
  have : z = 0 ∨ z = 1 ∨ z = 2 ∨ z = 3 ∨ z = 4 ∨ z = 5 ∨ z = 6 := by omega
  rcases this with rfl | rfl | rfl | rfl | rfl | rfl | rfl <;> decide +kernel
/-- The text that is scanned again. -/
def backT (l q0 q1 : List UInt8) (z n : Nat) : List UInt8 := ((l ++ Quill.numB (1 + z) n) ++ Quill.rowB q0) ++ q1
theorem backT_length (l q0 q1 : List UInt8) (z n : Nat) : (backT l q0 q1 z n).length = l.length + (1 + z) + (2 + q0.length) + q1.length := by
  simp [backT, Quill.numB_length, Quill.rowB_length]; omega
theorem rest_at (t : List UInt8) (q : Nat) (h : q ≤ t.length) : Quill.Sc.rest ⟨t, (q : Int), 0⟩ = t.drop q := by simp [Quill.Sc.rest, Quill.Sc.stands, h]
theorem fin_at (t : List UInt8) (q : Nat) (h : q ≤ t.length) : Quill.Sc.fin ⟨t, (q : Int), 0⟩ = if q < t.length then 4 else 0 := by simp [Quill.Sc.fin, Quill.Sc.stands, h]
theorem backT_num (l q0 q1 : List UInt8) (z n : Nat) (hz : z < 8) :
    Quill.Sc.num ⟨backT l q0 q1 z n, (l.length : Int), 0⟩ (1 + (z : Int)) = (n % 256 ^ (1 + z), ⟨backT l q0 q1 z n, ((l.length + (1 + z) : Nat) : Int), 0⟩) := by
  have h := Quill.num_there (backT l q0 q1 z n) l (Quill.numB (1 + z) n) (Quill.rowB q0 ++ q1) (1 + z) (by simp [backT]) (Quill.numB_length _ _) (by omega) (by omega)
  rw [Quill.tell_numB] at h
  rw [← h]; congr 1
theorem backT_row (l q0 q1 : List UInt8) (z n : Nat) (hq : q0.length ≤ 200) :
    Quill.Sc.row ⟨backT l q0 q1 z n, ((l.length + (1 + z) : Nat) : Int), 0⟩ = (q0, ⟨backT l q0 q1 z n, ((l.length + (1 + z) + (2 + q0.length) : Nat) : Int), 0⟩) := by
  have h := Quill.row_there (backT l q0 q1 z n) (l ++ Quill.numB (1 + z) n) q0 q1 rfl (by omega)
  rw [List.length_append, Quill.numB_length] at h
  exact h
theorem backT_rest (l q0 q1 : List UInt8) (z n : Nat) :
    Quill.Sc.rest ⟨backT l q0 q1 z n, ((l.length + (1 + z) + (2 + q0.length) : Nat) : Int), 0⟩ = q1 := by
  have hl := backT_length l q0 q1 z n
  rw [rest_at _ _ (by omega), backT, List.drop_left']
  simp [Quill.numB_length, Quill.rowB_length]; omega
theorem backT_fin (l q0 q1 : List UInt8) (z n : Nat) :
    Quill.Sc.fin ⟨backT l q0 q1 z n, ((l.length + (1 + z) + (2 + q0.length) : Nat) : Int), 0⟩ = if q1.length = 0 then 0 else 4 := by
  have hl := backT_length l q0 q1 z n
  rw [fin_at _ _ (by omega)]
  by_cases h : q1.length = 0
  · rw [if_pos h, if_neg (by omega)]
  · rw [if_neg h, if_pos (by omega)]

end Go.Proofs.Ytfonmnodjmeigaa
namespace Go.Proofs.Ytfonmnodjmeigaa.Av
open Go Go.RowKit

theorem bs_add (a b : List UInt8) : bs a ++ bs b = bs (a ++ b) := by
  apply ByteArray.ext
  simp [bs, ByteArray.data_append]
theorem shl_min (j : Nat) (h : j < 7) : IntKind.u64.wrap (1 * 2 ^ (min (8 * (1 + (j : Int))).toNat IntKind.u64.bits)) = ((256 ^ (1 + j) : Nat) : Int) := by
  have e : min (8 * (1 + (j : Int))).toNat IntKind.u64.bits = (8 * (1 + (j : Int))).toNat := by
    rw [show IntKind.u64.bits = 64 from rfl]; omega
  rw [e, Int.one_mul, shl_256 j h]
theorem back_all (l : List UInt8) (x : Nat) (q0 q1 : List UInt8) (hx : U64 x) : SP 5 [.vs l.length (bytesA l), U x, .ex (.agg #[.string (bs q0), .string (bs q1)])] (B true) := by
  by_cases h : 200 < l.length ∨ 200 < (bs q0).size ∨ 200 < (bs q1).size
  · exact back_over l x q0 q1 h
  · have hq0 : (bs q0).size = q0.length := bs_size q0
    have hq1 : (bs q1).size = q1.length := bs_size q1
    have hj : x % 8 < 8 := Nat.mod_lt _ (by omega)
    have hlen := backT_length l q0 q1 (x % 8) x
    have e1 := backT_num l q0 q1 (x % 8) x hj
    have e2 := backT_row l q0 q1 (x % 8) x (by omega)
    have e3 := backT_rest l q0 q1 (x % 8) x
    have e4 := backT_fin l q0 q1 (x % 8) x
    have hT : bs ((l ++ Quill.numB (1 + x % 8) x) ++ Quill.rowB q0) ++ bs q1 = bs (backT l q0 q1 (x % 8) x) := bs_add _ _
    have c1 := snum_snd ⟨backT l q0 q1 (x % 8) x, (l.length : Int), 0⟩ (1 + ((x % 8 : Nat) : Int)) (by simp only; omega)
    rw [e1] at c1
    have c2 := row_snd ⟨backT l q0 q1 (x % 8) x, ((l.length + (1 + x % 8) : Nat) : Int), 0⟩ (by simp only; omega)
    rw [e2] at c2
    have c3 := rest_snd ⟨backT l q0 q1 (x % 8) x, ((l.length + (1 + x % 8) + (2 + q0.length) : Nat) : Int), 0⟩ (by simp only; omega)
    rw [e3] at c3
    have c4 := end_snd ⟨backT l q0 q1 (x % 8) x, ((l.length + (1 + x % 8) + (2 + q0.length) : Nat) : Int), 0⟩ (by simp only; omega)
    rw [e4] at c4
    have hx' : x < 18446744073709551616 := hx
    refine back_walk l (l ++ Quill.numB (1 + x % 8) x) ((l ++ Quill.numB (1 + x % 8) x) ++ Quill.rowB q0) q0 q1 (Quill.numB (1 + x % 8) x) x (x % 8) (x % 256 ^ (1 + x % 8)) _ _ _ hx rfl (by omega) (by omega) (by omega)
      (by simp [Quill.numB_length]) (by simp [Quill.numB_length, Quill.rowB_length, hq0]; omega) rfl (fun h7 => by rw [shl_min _ h7]; exact_mod_cast Nat.pow_pos (by omega)) (fun h7 => by rw [shl_min _ h7]; exact Int.natCast_emod _ _)
      (fun h7 => by rw [h7]; exact Nat.mod_eq_of_lt (by omega)) ?_ ?_ (by rw [hT]; exact c1) (by rw [hT]; exact c2) (by rw [hT]; exact c3) (by rw [hT]; exact c4) ?_
    · exact numk_snd l (1 + x % 8) x (by omega) (by omega) (by omega) hx
    · exact rowk_snd _ _ (by simp [Quill.numB_length]; omega) (by omega)
    · rw [show (ByteArray.mk #[]) = bs [] from rfl, bsl_, bsl_]
      cases q1 <;> simp
theorem cells_texts2 {cs : Array Value} (h : CellsOk [.str, .str] cs.toList) : ∃ (t s : List UInt8), cs = #[.string (bs t), .string (bs s)] := by
  obtain ⟨v0, r0, e0, ⟨t, rfl, ht⟩, hr0⟩ := h.cons_
  obtain ⟨v1, r1, e1, ⟨s, rfl, hs⟩, hr1⟩ := hr0.cons_
  have e2 := hr1.empty_
  subst e2 e1
  refine ⟨t, s, ?_⟩
  apply Array.ext'
  rw [e0]
theorem quillBack_walk (rows : List (List Value)) (n : Nat) (F : Nat → Nat → Prop) (v : Value) (x : Nat) (a : Array Value) (w : World) (hq : rows.length = n) (hz : n ≤ 9223372036854775807)
    (hok : ∀ r ∈ rows, CellsOk [.int .u8] r) (hlo : ∀ g j, F g j → g < w.heap.size) (hrep : ∀ F' : Nat → Nat → Prop, (∀ g j, F g j → F' g j) → Rep w p0 c0 F' noD (.vs n (rows.flatten.map .ex)) v) (hx : x < 18446744073709551616) (ha : CellsOk [.str, .str] a.toList) :
    Calls Try.prog 5 #[v, .int .u64 (x : Int), .agg a] w fun e w' => e = .returned (.bool true) ∧ Below w.heap.size w w' := by
  obtain ⟨q0, q1, rfl⟩ := cells_texts2 ha
  obtain ⟨l, h1, h2⟩ := rows_B hok
  have hr := hrep F fun _ _ h => h
  rw [h2, ← hq, ← h1] at hr
  refine calls_at (back_all l x q0 q1 hx) w F hlo _ rfl fun j hj => ?_
  match j, hj with
  | 0, _ => exact hr
  | 1, _ => exact .ex _ _
  | 2, _ => exact .ex _ _
end Go.Proofs.Ytfonmnodjmeigaa.Av
