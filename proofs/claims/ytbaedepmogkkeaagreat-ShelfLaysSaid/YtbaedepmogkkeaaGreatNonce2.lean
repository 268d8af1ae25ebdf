/- nonce: first counts, their texts, taking. No conditions but that numbers have 64 bits. -/
import Derived.Test.YtbaedepmogkkeaaGreatNonce1
import Derived.Test.YtbaedepmogkkeaaGreatScanWalks4
namespace Go.Proofs.YtbaedepmogkkeaaGreat.Av
open Go Go.RowKit
set_option linter.unusedVariables false
set_option linter.unusedSimpArgs false
set_option maxRecDepth 100000

abbrev U64 (n : Nat) : Prop := n < 18446744073709551616
abbrev numA (l : List UInt8) (x : Nat) : AV := .own 5 (l ++ Quill.numB 6 x).length (bytesA (l ++ Quill.numB 6 x))
theorem num_snd (l : List UInt8) (x : Nat) (hl : l.length ≤ 35184372088832) (hx : U64 x) (a : AV) (ha : a = .vs l.length (bytesA l) ∨ (a = nilA ∧ l = [])) : SP 124 [a, Z 6, U x] (numA l x) :=
  sound_bytes (vs := [.int .i64 6, .int .u64 x]) Tryz.func124 (by kernel_rfl) rfl (fun w A n k hr => num_yes A n k 6 x l w w.heap.size hr (by omega) (by omega) (by have := hr.1; omega) hx (Nat.le_refl _)) a ha
theorem rnum_snd (l : List UInt8) (x : Nat) (hl : l.length ≤ 35184372088832) (hx : U64 x) (a : AV) (ha : a = .vs l.length (bytesA l) ∨ (a = nilA ∧ l = [])) : SP 131 [a, Z 6, U x] (numA l x) :=
  sound_bytes (vs := [.int .i64 6, .int .u64 x]) Tryz.func131 (by kernel_rfl) rfl (fun w A n k hr => refnum_any A n k 6 x l w w.heap.size hr (by omega) (by omega) (by have := hr.1; omega) hx (Nat.le_refl _)) a ha
abbrev scA (s : Quill.Sc) : AV := .ex (.agg #[.string (bs s.text), .int .i64 s.pos, .int .i64 s.bad])
theorem snum_snd (s : Quill.Sc) (size : Int) (hl : s.text.length ≤ 70368744177664) :
    SP 126 [scA s, Z size] (.ex (.tuple #[.int .u64 (s.num size).1, .agg #[.string (bs s.text), .int .i64 (s.num size).2.pos, .int .i64 (s.num size).2.bad]])) :=
  sound_ex (vs := [_, _]) Tryz.func126 (by kernel_rfl) rfl (fun w => snum s size w hl)
theorem rsnum_snd (s : Quill.Sc) (size : Int) (hl : s.text.length ≤ 70368744177664) :
    SP 135 [scA s, Z size] (.ex (.tuple #[.int .u64 (s.num size).1, .agg #[.string (bs s.text), .int .i64 (s.num size).2.pos, .int .i64 (s.num size).2.bad]])) :=
  sound_ex (vs := [_, _]) Tryz.func135 (by kernel_rfl) rfl (fun w => rnum s size w hl)
theorem fin_snd (s : Quill.Sc) (hl : s.text.length ≤ 9223372036854775807) : SP 128 [scA s] (Z s.fin) :=
  sound_ex (vs := [_]) Tryz.func128 (by kernel_rfl) rfl (fun w => sfin s w hl)

theorem chk_yes {e n : Nat} (h : Okc e n) : chk e n = 0 := if_pos h
theorem chk_no {e n : Nat} (h : ¬ Okc e n) : chk e n = 2 := if_neg h
abbrev num12 (e n : Nat) : List UInt8 := Quill.numB 6 e ++ Quill.numB 6 n
/-- a text's code: 0, 19 at the last count, 2 where the count may not be -/
def Last (n : Nat) : Prop := n = 281474976710656
end Go.Proofs.YtbaedepmogkkeaaGreat.Av
