/- tape: a text is taken: contracts. No conditions but that numbers have 64 bits. -/
import Derived.Test.YtjfkfldlmhbnkaaTape3
namespace Go.Proofs.Ytjfkfldlmhbnkaa.Av
open Go Go.RowKit
set_option linter.unusedVariables false
set_option linter.unusedSimpArgs false
set_option maxRecDepth 100000

theorem opn_len {s p : List UInt8} {m : Nat} (h : opn s = (m, p, 0)) : p.length = 48 := by
  unfold opn at h
  split at h
  · cases h
  rename_i hl
  split at h
  · cases h
  split at h
  · cases h
  injection h with _ h
  injection h with h _
  rw [← h, List.length_take, List.length_drop]; omega
theorem payO_len {L : List (List UInt8)} {g : Nat} {at_ : Int} {p : List UInt8} (h : payO L g at_ = some p) : p.length = 48 := by
  obtain ⟨s, _, _, _, _, h5⟩ := payO_some h
  exact opn_len h5
theorem num2 (p : List UInt8) (h : p.length = 48) : SP 80 [scM p 0 0, Z 2] (numM (Quill.tell (p.take 2)) p 2 0) := by
  have c := scannum_snd p 0 0 2 (by omega)
  have e : Quill.Sc.num ⟨p, 0, 0⟩ 2 = (Quill.tell (p.take 2), ⟨p, 2, 0⟩) := by
    unfold Quill.Sc.num
    rw [if_neg (by simp), if_neg (by simp [Quill.Sc.stands]), if_neg (by simp; omega)]
    rfl
  rw [e] at c
  exact c
theorem tell2_lt (p : List UInt8) : Quill.tell (p.take 2) < 65536 := by
  have h1 := Quill.tell_numB (p.take 2).length (Quill.tell (p.take 2))
  rw [Quill.numB_tell] at h1
  have h2 : (p.take 2).length ≤ 2 := by rw [List.length_take]; omega
  have h3 : Quill.tell (p.take 2) < 256 ^ (p.take 2).length := by rw [h1]; exact Nat.mod_lt _ (Nat.pow_pos (by decide))
  exact Nat.lt_of_lt_of_le h3 (Nat.le_trans (Nat.pow_le_pow_right (by decide) h2) (by decide))
theorem szT_le (n : Nat) : szT n ≤ 30 := by unfold szT; split <;> omega
theorem pays_flat (L : List (List UInt8)) (g : Nat) : ∀ (k : Nat) (at_ : Int), (paysO L g at_ k).flatten.length = 48 * (paysO L g at_ k).length
  | 0, _ => by simp [paysO]
  | k + 1, at_ => by
    unfold paysO
    split
    · rename_i p hp
      rw [List.flatten_cons, List.length_append, payO_len hp, pays_flat L g k (at_ + 1), List.length_cons]; omega
    · simp
section
variable {L : List (List UInt8)} {g : Nat} {at_ : Int}
theorem pays_step (hL : L.length ≤ 1000000) {k j : Nat} (hk : k ≤ 100) (h : j + 1 < (paysO L g at_ k).length) :
    SM 87 [.ptr 0 0] [rdB L g (at_ + ((j + 1 : Nat) : Int)) (.sl 1 (j + 1)) false, rowT (((paysO L g at_ k).take (j + 1)).map T) false] [.ptr 0 0] (B true) [rdB L g (at_ + ((j + 1 + 1 : Nat) : Int)) (.sl 1 (j + 1 + 1)) false, rowT (((paysO L g at_ k).take (j + 1 + 1)).map T) false] := by
  have hp := paysO_at L g k at_ (j + 1) h
  have hle := paysO_len L g k at_
  rw [List.getElem?_eq_getElem h] at hp
  have := step_r (j + 1) (((paysO L g at_ k).take (j + 1)).map T) (by rw [List.length_map, List.length_take]; omega) (by omega) hL hp
  have e : ((paysO L g at_ k).take (j + 1 + 1)).map T = ((paysO L g at_ k).take (j + 1)).map T ++ [T (paysO L g at_ k)[j + 1]] := by
    rw [List.take_add_one (i := j + 1), List.getElem?_eq_getElem h, List.map_append]; rfl
  rw [show at_ + ((j + 1 + 1 : Nat) : Int) = at_ + ((j + 1 : Nat) : Int) + 1 by omega, e]
  exact this
theorem pays_one {k : Nat} {p0 : List UInt8} (hk : 1 ≤ k) (h : payO L g at_ = some p0) : (paysO L g at_ k).take 1 = [p0] := by
  obtain ⟨j, rfl⟩ : ∃ j, k = j + 1 := ⟨k - 1, by omega⟩
  simp [paysO, h]
theorem textn_yes (pu : Bool) {txt : List UInt8} {k : Nat} (hL : L.length ≤ 1000000) (h : textO L g at_ = some (txt, k)) :
    SM 69 [.ptr 0 0] [rdB L g at_ nilA pu] [.ptr 0 0] (.tup [T txt, B true]) [rdB L g (at_ + (k : Int)) (.sl 1 k) false, rowT ((paysO L g at_ k).map T) true] := by
  unfold textO at h
  split at h
  · cases h
  rename_i p0 hp
  split at h
  · cases h
  rename_i h0
  split at h
  · cases h
  rename_i hfull
  injection h with h
  injection h with h1 h2
  subst h2
  have hle := paysO_len L g (szT (Quill.tell (p0.take 2))) at_
  have hsz := szT_le (Quill.tell (p0.take 2))
  have hfl := pays_flat L g (szT (Quill.tell (p0.take 2))) at_
  have hn : 1 ≤ Quill.tell (p0.take 2) ∧ szT (Quill.tell (p0.take 2)) = (Quill.tell (p0.take 2) + 2 + 47) / 48 := by
    unfold szT at h0 ⊢
    split at h0
    · exact absurd rfl h0
    · rename_i hc
      exact ⟨by omega, by rw [if_neg hc]⟩
  have hlen : (paysO L g at_ (szT (Quill.tell (p0.take 2)))).length = szT (Quill.tell (p0.take 2)) := by omega
  have hG := glue_ok (paysO L g at_ (szT (Quill.tell (p0.take 2)))) (2 + (Quill.tell (p0.take 2) : Int)) (by omega) (by omega)
  have hg : glu (paysO L g at_ (szT (Quill.tell (p0.take 2)))) (2 + (Quill.tell (p0.take 2) : Int)) = ((paysO L g at_ (szT (Quill.tell (p0.take 2)))).flatten.take (2 + Quill.tell (p0.take 2)), 0) := by
    unfold glu
    rw [if_neg (by omega), if_neg (by omega), show (2 + (Quill.tell (p0.take 2) : Int)).toNat = 2 + Quill.tell (p0.take 2) by omega]
  rw [hg, hlen] at hG
  refine text_3n L g at_ pu p0 _ txt (Quill.tell (p0.take 2)) 2 (step_n pu hL hp) (by rw [hs1']; rfl) (num2 p0 (payO_len hp)) (tell2_lt p0) (szT (Quill.tell (p0.take 2))) (szT (Quill.tell (p0.take 2))) (paysO L g at_ (szT (Quill.tell (p0.take 2)))) (pays_one (by omega) hp) (by omega) (by omega) (size_ok _) (fun j h1 h2 => pays_step hL (by omega) (by omega)) rfl (List.take_of_length_le (by omega)) hG (by rw [bs_size, List.length_take]; omega) ?_
  rw [bs_cut, bs_size, ← h1]
  congr 1
  rw [List.length_take, List.drop_take, List.take_take]
  congr 1
  omega
theorem textn_no (pu : Bool) (hL : L.length ≤ 1000000) (h : textO L g at_ = none) : SM 69 [.ptr 0 0] [rdB L g at_ nilA pu] [.ptr 0 0] (.tup [T [], B false]) [rdB L g at_ nilA pu] ∨
    ∃ (i : Nat) (ps : List AV), SM 69 [.ptr 0 0] [rdB L g at_ nilA pu] [.ptr 0 0] (.tup [T [], B false]) [rdB L g (at_ + (i : Int)) (.sl 1 i) false, rowT ps false] := by
  unfold textO at h
  split at h
  · rename_i hp
    exact .inl (text_0n L g at_ pu (step_n_no pu hp))
  · rename_i p0 hp
    split at h
    · rename_i h0
      have hS := size_ok (Quill.tell (p0.take 2))
      rw [h0] at hS
      exact .inr ⟨1, [T p0], text_1n L g at_ pu p0 (Quill.tell (p0.take 2)) 2 (step_n pu hL hp) (by rw [hs1']; rfl) (num2 p0 (payO_len hp)) (tell2_lt p0) hS⟩
    · rename_i h0
      split at h
      · rename_i hsh
        have hle := paysO_len L g (szT (Quill.tell (p0.take 2))) at_
        have hsz := szT_le (Quill.tell (p0.take 2))
        have hend := paysO_end L g _ at_ hsh
        have h1 : 1 ≤ (paysO L g at_ (szT (Quill.tell (p0.take 2)))).length := by
          have := congrArg List.length (pays_one (L := L) (g := g) (at_ := at_) (k := szT (Quill.tell (p0.take 2))) (by omega) hp)
          rw [List.length_take] at this
          simp at this; omega
        have hst := step_r_no (paysO L g at_ (szT (Quill.tell (p0.take 2)))).length (((paysO L g at_ (szT (Quill.tell (p0.take 2)))).take (paysO L g at_ (szT (Quill.tell (p0.take 2)))).length).map T) hend
        exact .inr ⟨_, _, text_2n L g at_ pu p0 (Quill.tell (p0.take 2)) 2 (step_n pu hL hp) (by rw [hs1']; rfl) (num2 p0 (payO_len hp)) (tell2_lt p0) (szT (Quill.tell (p0.take 2))) (paysO L g at_ (szT (Quill.tell (p0.take 2)))).length (paysO L g at_ (szT (Quill.tell (p0.take 2)))) (pays_one (by omega) hp) (by omega) (by omega) (size_ok _) (fun j h1 h2 => pays_step hL (by omega) h2) h1 hsh hst⟩
      · cases h
theorem textr_yes (k0 : Nat) (gs : List AV) (fz : Bool) {txt : List UInt8} {k : Nat} (hL : L.length ≤ 1000000) (h : textO L g at_ = some (txt, k)) :
    SM 69 [.ptr 0 0] [rdB L g at_ (.sl 1 k0) false, rowT gs fz] [.ptr 0 0] (.tup [T txt, B true]) [rdB L g (at_ + (k : Int)) (.sl 1 k) false, rowT ((paysO L g at_ k).map T) true] := by
  unfold textO at h
  split at h
  · cases h
  rename_i p0 hp
  split at h
  · cases h
  rename_i h0
  split at h
  · cases h
  rename_i hfull
  injection h with h
  injection h with h1 h2
  subst h2
  have hle := paysO_len L g (szT (Quill.tell (p0.take 2))) at_
  have hsz := szT_le (Quill.tell (p0.take 2))
  have hfl := pays_flat L g (szT (Quill.tell (p0.take 2))) at_
  have hn : 1 ≤ Quill.tell (p0.take 2) ∧ szT (Quill.tell (p0.take 2)) = (Quill.tell (p0.take 2) + 2 + 47) / 48 := by
    unfold szT at h0 ⊢
    split at h0
    · exact absurd rfl h0
    · rename_i hc
      exact ⟨by omega, by rw [if_neg hc]⟩
  have hlen : (paysO L g at_ (szT (Quill.tell (p0.take 2)))).length = szT (Quill.tell (p0.take 2)) := by omega
  have hG := glue_ok (paysO L g at_ (szT (Quill.tell (p0.take 2)))) (2 + (Quill.tell (p0.take 2) : Int)) (by omega) (by omega)
  have hg : glu (paysO L g at_ (szT (Quill.tell (p0.take 2)))) (2 + (Quill.tell (p0.take 2) : Int)) = ((paysO L g at_ (szT (Quill.tell (p0.take 2)))).flatten.take (2 + Quill.tell (p0.take 2)), 0) := by
    unfold glu
    rw [if_neg (by omega), if_neg (by omega), show (2 + (Quill.tell (p0.take 2) : Int)).toNat = 2 + Quill.tell (p0.take 2) by omega]
  rw [hg, hlen] at hG
  refine text_3r L g at_ k0 gs fz p0 _ txt (Quill.tell (p0.take 2)) 2 (step_n false hL hp) (by rw [hs1']; rfl) (num2 p0 (payO_len hp)) (tell2_lt p0) (szT (Quill.tell (p0.take 2))) (szT (Quill.tell (p0.take 2))) (paysO L g at_ (szT (Quill.tell (p0.take 2)))) (pays_one (by omega) hp) (by omega) (by omega) (size_ok _) (fun j h1 h2 => pays_step hL (by omega) (by omega)) rfl (List.take_of_length_le (by omega)) hG (by rw [bs_size, List.length_take]; omega) ?_
  rw [bs_cut, bs_size, ← h1]
  congr 1
  rw [List.length_take, List.drop_take, List.take_take]
  congr 1
  omega
theorem textr_no (k0 : Nat) (gs : List AV) (fz : Bool) (hL : L.length ≤ 1000000) (h : textO L g at_ = none) : SM 69 [.ptr 0 0] [rdB L g at_ (.sl 1 k0) false, rowT gs fz] [.ptr 0 0] (.tup [T [], B false]) [rdB L g at_ nilA false] ∨
    ∃ (i : Nat) (ps : List AV), SM 69 [.ptr 0 0] [rdB L g at_ (.sl 1 k0) false, rowT gs fz] [.ptr 0 0] (.tup [T [], B false]) [rdB L g (at_ + (i : Int)) (.sl 1 i) false, rowT ps false] := by
  unfold textO at h
  split at h
  · rename_i hp
    exact .inl (text_0r L g at_ k0 gs fz (step_n_no false hp))
  · rename_i p0 hp
    split at h
    · rename_i h0
      have hS := size_ok (Quill.tell (p0.take 2))
      rw [h0] at hS
      exact .inr ⟨1, [T p0], text_1r L g at_ k0 gs fz p0 (Quill.tell (p0.take 2)) 2 (step_n false hL hp) (by rw [hs1']; rfl) (num2 p0 (payO_len hp)) (tell2_lt p0) hS⟩
    · rename_i h0
      split at h
      · rename_i hsh
        have hle := paysO_len L g (szT (Quill.tell (p0.take 2))) at_
        have hsz := szT_le (Quill.tell (p0.take 2))
        have hend := paysO_end L g _ at_ hsh
        have h1 : 1 ≤ (paysO L g at_ (szT (Quill.tell (p0.take 2)))).length := by
          have := congrArg List.length (pays_one (L := L) (g := g) (at_ := at_) (k := szT (Quill.tell (p0.take 2))) (by omega) hp)
          rw [List.length_take] at this
          simp at this; omega
        have hst := step_r_no (paysO L g at_ (szT (Quill.tell (p0.take 2)))).length (((paysO L g at_ (szT (Quill.tell (p0.take 2)))).take (paysO L g at_ (szT (Quill.tell (p0.take 2)))).length).map T) hend
        exact .inr ⟨_, _, text_2r L g at_ k0 gs fz p0 (Quill.tell (p0.take 2)) 2 (step_n false hL hp) (by rw [hs1']; rfl) (num2 p0 (payO_len hp)) (tell2_lt p0) (szT (Quill.tell (p0.take 2))) (paysO L g at_ (szT (Quill.tell (p0.take 2)))).length (paysO L g at_ (szT (Quill.tell (p0.take 2)))) (pays_one (by omega) hp) (by omega) (by omega) (size_ok _) (fun j h1 h2 => pays_step hL (by omega) h2) h1 hsh hst⟩
      · cases h
end
end Go.Proofs.Ytjfkfldlmhbnkaa.Av
