/- tape: what a reader takes, in plain bytes, and as contracts. No conditions but that numbers have 64 bits. -/
import Derived.Test.YtjfkfldlmhbnkaaTape2
import Derived.Test.YtjfkfldlmhbnkaaStamp10
namespace Go.Proofs.Ytjfkfldlmhbnkaa.Av
open Go Go.RowKit
set_option linter.unusedVariables false
set_option linter.unusedSimpArgs false
set_option maxRecDepth 100000

instance okM_dec (g : Nat) (p : Int) : Decidable (OkM g p) := by unfold OkM; infer_instance
def mkT (g : Nat) (p : Int) : Nat := g * 1048576 + p.toNat + 1
theorem mark_mkT {g : Nat} {p : Int} (h : OkM g p) : SP 15 [U g, Z p] (.tup [U (mkT g p), Z 0]) := by
  have := mark_yes h
  have h : 1 ≤ g ∧ g ≤ 1099511627776 ∧ 0 ≤ p ∧ p < 1048575 := h
  have e : ((g : Int) * 1048576 + p + 1) = ((mkT g p : Nat) : Int) := by unfold mkT; omega
  rw [e] at this
  exact this
/-- the payload at a place -/
def payO (L : List (List UInt8)) (g : Nat) (at_ : Int) : Option (List UInt8) := match L[at_.toNat]? with
  | some s => if 0 ≤ at_ ∧ OkM g at_ ∧ (opn s).2.2 = 0 ∧ (opn s).1 = mkT g at_ then some (opn s).2.1 else none
  | none => none
theorem payO_some {L : List (List UInt8)} {g : Nat} {at_ : Int} {p : List UInt8} (h : payO L g at_ = some p) : ∃ s, L[at_.toNat]? = some s ∧ 0 ≤ at_ ∧ at_ < L.length ∧ OkM g at_ ∧ opn s = (mkT g at_, p, 0) := by
  unfold payO at h
  split at h
  · rename_i s hs
    split at h
    · rename_i hc
      injection h with h
      have hl := (List.getElem?_eq_some_iff.1 hs).1
      refine ⟨s, hs, hc.1, by omega, hc.2.1, ?_⟩
      rw [← hc.2.2.2, ← h, ← hc.2.2.1]
    · cases h
  · cases h
theorem at_T {L : List (List UInt8)} {at_ : Int} {s : List UInt8} (h : L[at_.toNat]? = some s) : (L.map T)[mulS at_.toNat (sizeT Try.prog 9)]? = some (T s) := by
  rw [hs1', mulS_eq, Nat.mul_one, List.getElem?_map, h]; rfl
section
variable {L : List (List UInt8)} {g : Nat} {at_ : Int}
theorem step_n {p : List UInt8} (pu : Bool) (hL : L.length ≤ 1000000) (h : payO L g at_ = some p) :
    SM 87 [.ptr 0 0] [rdB L g at_ nilA pu] [.ptr 0 0] (B true) [rdB L g (at_ + ((1 : Nat) : Int)) (.sl 1 1) false, rowT [T p] false] := by
  obtain ⟨s, h1, h2, h3, h4, h5⟩ := payO_some h
  have hO := open_ok s
  rw [h5] at hO
  exact step_yesn L g at_ pu (mkT g at_) s p h2 h3 (by omega) (mark_mkT h4) (at_T h1) hO
theorem step_r {p : List UInt8} (k : Nat) (gs : List AV) (hgl : gs.length = k) (hk : k ≤ 1000000) (hL : L.length ≤ 1000000) (h : payO L g at_ = some p) :
    SM 87 [.ptr 0 0] [rdB L g at_ (.sl 1 k) false, rowT gs false] [.ptr 0 0] (B true) [rdB L g (at_ + 1) (.sl 1 (k + 1)) false, rowT (gs ++ [T p]) false] := by
  obtain ⟨s, h1, h2, h3, h4, h5⟩ := payO_some h
  have hO := open_ok s
  rw [h5] at hO
  exact step_yesr L g at_ k gs false (by omega) hgl (mkT g at_) s p h2 h3 (by omega) (mark_mkT h4) (at_T h1) hO
/-- why a step fails -/
theorem payO_none (h : payO L g at_ = none) : (at_ < 0 ∨ (L.length : Int) ≤ at_) ∨ (0 ≤ at_ ∧ at_ < L.length) ∧ (¬ OkM g at_ ∨ OkM g at_ ∧ ∃ s, L[at_.toNat]? = some s ∧ ((opn s).2.2 ≠ 0 ∨ (opn s).1 ≠ mkT g at_)) := by
  by_cases h1 : at_ < 0 ∨ (L.length : Int) ≤ at_
  · exact .inl h1
  · have h2 : 0 ≤ at_ ∧ at_ < L.length := by omega
    refine .inr ⟨h2, ?_⟩
    by_cases h3 : OkM g at_
    · refine .inr ⟨h3, ?_⟩
      have hl : at_.toNat < L.length := by omega
      refine ⟨L[at_.toNat], List.getElem?_eq_getElem hl, ?_⟩
      unfold payO at h
      rw [List.getElem?_eq_getElem hl] at h
      simp only at h
      split at h
      · cases h
      · rename_i hc
        by_cases h4 : (opn L[at_.toNat]).2.2 = 0
        · exact .inr fun h5 => hc ⟨h2.1, h3, h4, h5⟩
        · exact .inl h4
    · exact .inl h3
theorem step_n_no (pu : Bool) (h : payO L g at_ = none) : SM 87 [.ptr 0 0] [rdB L g at_ nilA pu] [.ptr 0 0] (B false) [rdB L g at_ nilA pu] := by
  rcases payO_none h with h1 | ⟨⟨h1, h2⟩, h3 | ⟨h3, s, h4, h5⟩⟩
  · exact step_outn L g at_ pu h1
  · exact step_markn L g at_ pu 0 2 h1 h2 (by decide) (mark_no h3)
  · exact step_openn L g at_ pu _ _ s _ _ h1 h2 h5 (mark_mkT h3) (at_T h4) (open_ok s)
theorem step_r_no (k : Nat) (gs : List AV) (h : payO L g at_ = none) : SM 87 [.ptr 0 0] [rdB L g at_ (.sl 1 k) false, rowT gs false] [.ptr 0 0] (B false) [rdB L g at_ (.sl 1 k) false, rowT gs false] := by
  rcases payO_none h with h1 | ⟨⟨h1, h2⟩, h3 | ⟨h3, s, h4, h5⟩⟩
  · exact step_outr L g at_ k gs false h1
  · exact step_markr L g at_ k gs false 0 2 h1 h2 (by decide) (mark_no h3)
  · exact step_openr L g at_ k gs false _ _ s _ _ h1 h2 h5 (mark_mkT h3) (at_T h4) (open_ok s)
end
/-- payloads one behind the other: as many as there are, k at most -/
def paysO (L : List (List UInt8)) (g : Nat) : Int → Nat → List (List UInt8)
  | _, 0 => []
  | at_, k + 1 => match payO L g at_ with
    | some p => p :: paysO L g (at_ + 1) k
    | none => []
theorem paysO_len (L : List (List UInt8)) (g : Nat) : ∀ (k : Nat) (at_ : Int), (paysO L g at_ k).length ≤ k
  | 0, _ => by simp [paysO]
  | k + 1, at_ => by
    unfold paysO
    split
    · have := paysO_len L g k (at_ + 1); simp; omega
    · simp
theorem paysO_at (L : List (List UInt8)) (g : Nat) : ∀ (k : Nat) (at_ : Int) (i : Nat), i < (paysO L g at_ k).length → payO L g (at_ + (i : Int)) = (paysO L g at_ k)[i]?
  | 0, _, i, h => by simp [paysO] at h
  | k + 1, at_, i, h => by
    unfold paysO at h ⊢
    split at h
    · rename_i p hp
      cases i with
      | zero => simp [hp]
      | succ i =>
        have := paysO_at L g k (at_ + 1) i (by simpa using h)
        rw [show at_ + ((i + 1 : Nat) : Int) = at_ + 1 + (i : Int) by omega, this]
        simp
    · simp at h
theorem paysO_end (L : List (List UInt8)) (g : Nat) : ∀ (k : Nat) (at_ : Int), (paysO L g at_ k).length < k → payO L g (at_ + ((paysO L g at_ k).length : Int)) = none
  | 0, _, h => by simp [paysO] at h
  | k + 1, at_, h => by
    unfold paysO at h ⊢
    split
    · rename_i p hp
      rw [hp] at h
      have := paysO_end L g k (at_ + 1) (by simpa using h)
      simp only [List.length_cons]
      rw [show at_ + (((paysO L g (at_ + 1) k).length + 1 : Nat) : Int) = at_ + 1 + ((paysO L g (at_ + 1) k).length : Int) by omega]
      exact this
    · rename_i hp
      simpa using hp
/-- how many sectors a text has -/
def szT (n : Nat) : Nat := if n < 1 ∨ 1400 < n then 0 else (n + 2 + 47) / 48
theorem size_ok (n : Nat) : SP 45 [Z n] (Z (szT n)) := by
  unfold szT
  split
  · exact size_no (by omega)
  · have hc := count_yes (n := 2 + (n : Int)) (by omega) (by omega)
    rw [show (2 + (n : Int) - 1) / 48 + 1 = (((n + 2 + 47) / 48 : Nat) : Int) by omega] at hc
    exact size_walk (by omega) (by omega) hc
theorem rsize_ok (n : Nat) : SP 46 [Z n] (Z (szT n)) := by
  unfold szT
  split
  · exact rsize_no (by omega)
  · have hc := rcount_ok ((n : Int) + 2) (by omega)
    rw [show cntP ((n : Int) + 2) = (((n + 2 + 47) / 48 : Nat) : Int) by unfold cntP; split <;> omega] at hc
    exact rsize_walk (by omega) (by omega) hc
theorem size_neg {n : Int} (h : n < 0) : SP 45 [Z n] (Z 0) := size_no (.inl (by omega))
theorem rsize_neg {n : Int} (h : n < 0) : SP 46 [Z n] (Z 0) := rsize_no (.inl (by omega))
/-- the text that begins at a place, and how many sectors it has -/
def textO (L : List (List UInt8)) (g : Nat) (at_ : Int) : Option (List UInt8 × Nat) := match payO L g at_ with
  | none => none
  | some p0 => if szT (Quill.tell (p0.take 2)) = 0 then none else
    if (paysO L g at_ (szT (Quill.tell (p0.take 2)))).length < szT (Quill.tell (p0.take 2)) then none else
      some (((paysO L g at_ (szT (Quill.tell (p0.take 2)))).flatten.drop 2).take (Quill.tell (p0.take 2)), szT (Quill.tell (p0.take 2)))
end Go.Proofs.Ytjfkfldlmhbnkaa.Av
