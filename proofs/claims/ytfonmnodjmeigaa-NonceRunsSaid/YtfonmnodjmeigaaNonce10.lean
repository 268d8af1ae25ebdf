/- nonce: both parse alike. No conditions but that texts are no longer than memory holds. -/
import Derived.Test.YtfonmnodjmeigaaNonce4
import Derived.Test.YtfonmnodjmeigaaNoncePure
namespace Go.Proofs.Ytfonmnodjmeigaa.Av
open Go Go.RowKit
set_option linter.unusedVariables false
set_option linter.unusedSimpArgs false
set_option maxRecDepth 100000

theorem rparse_yes (t : List UInt8) (ht : t.length ≤ 70368744177664) (h : Psd t) : SP 37 [T t] (.tup [cnt (q1 t).1 (q2 t).1, Z 0]) := by
  have hb := back_12 (psd_12 h)
  have h1 := rtext_yes _ _ h.2 hb.2
  rw [hb.1] at h1
  exact rparse_eq t _ _ _ _ _ _ (rsnum_snd ⟨t, 0, 0⟩ 6 ht) (rsnum_snd ⟨t, (q1 t).2.pos, (q1 t).2.bad⟩ 6 ht) h1
theorem rparse_not (t : List UInt8) (ht : t.length ≤ 70368744177664) (h : ¬ Psd t) : SP 37 [T t] (.tup [cnt 0 0, Z 4]) := by
  by_cases hc : Okc (q1 t).1 (q2 t).1
  · by_cases hl : (q2 t).1 = 281474976710656
    · exact rparse_no t _ _ _ _ _ _ 19 [] (by omega) (rsnum_snd ⟨t, 0, 0⟩ 6 ht) (rsnum_snd ⟨t, (q1 t).2.pos, (q1 t).2.bad⟩ 6 ht) (rtext_last _ _ hc hl)
    · refine rparse_ne t _ _ _ _ _ _ (num12 (q1 t).1 (q2 t).1) ?_ (rsnum_snd ⟨t, 0, 0⟩ 6 ht) (rsnum_snd ⟨t, (q1 t).2.pos, (q1 t).2.bad⟩ 6 ht) (rtext_yes _ _ hc hl)
      intro e
      have hlen := num12_length (q1 t).1 (q2 t).1
      rw [e] at hlen
      exact h ⟨qf_12 hlen, hc⟩
  · exact rparse_no t _ _ _ _ _ _ 2 [] (by omega) (rsnum_snd ⟨t, 0, 0⟩ 6 ht) (rsnum_snd ⟨t, (q1 t).2.pos, (q1 t).2.bad⟩ 6 ht) (rtext_no _ _ hc)
end Go.Proofs.Ytfonmnodjmeigaa.Av
