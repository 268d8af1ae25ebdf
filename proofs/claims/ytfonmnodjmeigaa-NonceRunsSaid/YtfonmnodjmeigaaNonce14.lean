/- nonce: the law on texts holds of all counts and texts. No conditions. -/
import Derived.Test.YtfonmnodjmeigaaNonce13
namespace Go.Proofs.Ytfonmnodjmeigaa.Av
open Go Go.RowKit
set_option linter.unusedVariables false
set_option linter.unusedSimpArgs false

theorem text_both (e n : Nat) : ∃ tx tc, SP 34 [cnt e n] (.tup [T tx, Z tc]) ∧ SP 35 [cnt e n] (.tup [T tx, Z tc]) := by
  by_cases h : Okc e n
  · by_cases hl : n = 281474976710656
    · exact ⟨_, _, text_last e n h hl, rtext_last e n h hl⟩
    · exact ⟨_, _, text_yes e n h hl, rtext_yes e n h hl⟩
  · exact ⟨_, _, text_no e n h, rtext_no e n h⟩
theorem parse_both (t : List UInt8) (ht : t.length ≤ 70368744177664) : ∃ (x1 x2 : Nat) (pc : Int), SP 36 [T t] (.tup [cnt x1 x2, Z pc]) ∧ SP 37 [T t] (.tup [cnt x1 x2, Z pc]) := by
  by_cases h : Psd t
  · exact ⟨_, _, _, parse_yes t ht h, rparse_yes t ht h⟩
  · exact ⟨0, 0, 4, parse_no t ht h, rparse_not t ht h⟩
theorem tells_all (e n c d : Nat) (t : List UInt8) : SP 8 [cnt e n, cnt c d, T t] (B true) := by
  by_cases ht : 100 < (bs t).size
  · exact tells_long e n c d t ht
  · have hl : t.length ≤ 70368744177664 := by
      have : (bs t).size = t.length := by simp [bs, ByteArray.size]
      omega
    obtain ⟨tx, tc, h1, h2⟩ := text_both e n
    obtain ⟨x1, x2, pc, h3, h4⟩ := parse_both t hl
    by_cases hc : Okc c 0
    · exact tells_walk1 e n c d x1 x2 t tx tc pc _ _ ht h1 h2 h3 h4 (begin_yes c hc) (rcheck_yes hc) (check_ok e n) (rcheck_ok e n) (less_ok e n c d) (rless_ok e n c d)
    · exact tells_walk2 e n c d x1 x2 t tx tc pc _ _ ht h1 h2 h3 h4 (begin_no c hc) (rcheck_no hc) (check_ok e n) (rcheck_ok e n) (less_ok e n c d) (rless_ok e n c d)
theorem calls_of {f : FuncId} {vs : List Value} {v : Value} (h : SP f (vs.map .ex) (.ex v)) (w : World) : Calls Try.prog f vs.toArray w fun e w' => e = .returned v ∧ Below w.heap.size w w' := by
  refine (h.2 w (fun _ _ => False) vs.toArray (by simp) (fun j hj => ?_) (fun _ _ h => h.elim)).mono ?_
  · have hj' : j < vs.length := by simpa using hj
    simp [hj']
    exact .ex _ _
  · rintro e w' ⟨x, F, rfl, hb, _, _, hr⟩
    have := hr.ex_inv
    subst this
    exact ⟨rfl, hb⟩
theorem nonceTells_walk (e n c d : Nat) (t : List UInt8) (w : World) : Calls Try.prog 8 #[.agg #[.int .u64 (e : Int), .int .u64 (n : Int)], .agg #[.int .u64 (c : Int), .int .u64 (d : Int)], .string (bs t)] w
    fun e w' => e = .returned (.bool true) ∧ Below w.heap.size w w' := calls_of (vs := [_, _, _]) (tells_all e n c d t) w
end Go.Proofs.Ytfonmnodjmeigaa.Av
