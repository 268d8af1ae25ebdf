/- All operations of the abstract machine at once are true of the model; regions in the text's order. No program's law is stated here. No conditions. -/
import Derived.Test.YtfonmnodjmeigaaAv11
namespace Go.Proofs.Ytfonmnodjmeigaa.Av
open Go Go.RowKit
set_option linter.unusedVariables false
set_option linter.unusedSimpArgs false

section
variable {P : Program} {o : Oper} {sl : Sl} {h : Hp} {nx : Nat} {k : Kt}
/-- All operations. -/
theorem aop_ok (hk : aop P (Sound P) o sl h nx k) : Is P o sl h nx k := by
  have notsel : ∀ {op : Op}, o.op = op → (∀ cs b, op ≠ .select cs b) → ∀ cs b, o.op ≠ .select cs b := by
    intro op e hn cs b; rw [e]; exact hn cs b
  unfold aop at hk
  split at hk
  · rename_i x ho; exact ok_move ho hk
  · rename_i x ho; exact ok_assign ho hk
  · rename_i c a b ho; exact ok_pick ho hk
  · rename_i t ho; exact ok_alloc ho hk
  · rename_i t x ho; exact ok_box ho hk
  · rename_i t x ho; exact ok_load ho hk
  · rename_i t x y ho; exact ok_store ho hk
  · rename_i t x f ho; exact ok_fieldAddr ho hk
  · rename_i x ho; exact ok_nilCheck ho hk
  · rename_i t x i ho; exact ok_indexAddr ho hk
  · rename_i t i ho; exact ok_extract ho hk
  · rename_i t n ps ho; exact ok_buildSlice ho hk
  · rename_i t ps ho; exact ok_build ho hk
  · rename_i t x f ho; exact ok_field ho hk
  · rename_i t x i ho; exact ok_index ho hk
  · rename_i t x lo hi mx ho; exact ok_slice ho hk
  · rename_i t n c ho; exact ok_make ho hk
  · rename_i src dst x ho; exact ok_convert ho hk
  · rename_i op t x y t' ho; exact ok_bin ho hk
  · rename_i ho; exact ok_fall (by intro cs b hh; rw [ho] at hh; cases hh) hk
  · rename_i c ho
    unfold opCall at hk
    split at hk
    · rename_i f hc; exact ok_callV ho hc hk
    · rename_i hc
      split at hk
      case h_2 => exact hk.elim
      rename_i x t ha ht
      exact ok_len ho hc ha ht hk
    · rename_i hc
      split at hk
      case h_2 => exact hk.elim
      rename_i s x t tx ha ht
      exact ok_append ho hc ha ht hk
    · exact ok_fall (by intro cs b hh; rw [ho] at hh; cases hh) hk
    · exact ok_fall (by intro cs b hh; rw [ho] at hh; cases hh) hk
    · exact hk.elim
  · exact hk.elim
end
end Go.Proofs.Ytfonmnodjmeigaa.Av
