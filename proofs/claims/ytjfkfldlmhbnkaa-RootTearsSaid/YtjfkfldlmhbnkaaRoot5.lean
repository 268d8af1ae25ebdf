/- root: what is told of a sector, as contracts: a root's own one, any other one. No conditions but that texts are shorter than memory. -/
import Derived.Test.YtjfkfldlmhbnkaaRoot4
namespace Go.Proofs.Ytjfkfldlmhbnkaa.Av
open Go Go.RowKit
set_option linter.unusedVariables false
set_option linter.unusedSimpArgs false
set_option maxRecDepth 100000

theorem num_z (t : List UInt8) (h : t.length = 9) (p : Nat) (k : Nat) (hk : 1 ≤ k) (hk8 : k ≤ 8) (hp : p + k ≤ 9) : Quill.Sc.num ⟨t, (p : Int), 0⟩ (k : Int) = (Quill.tell ((t.drop p).take k), ⟨t, ((p + k : Nat) : Int), 0⟩) := by
  unfold Quill.Sc.num
  rw [if_neg (by simp), if_neg (by simp [Quill.Sc.stands, h]; omega), if_neg (by simp [h]; omega)]
  simp only [Int.toNat_natCast]
  rfl
theorem num_p (t : List UInt8) (h : t.length = 48) (p : Nat) (k : Nat) (hk : 1 ≤ k) (hk8 : k ≤ 8) (hp : p + k ≤ 9) : Quill.Sc.num ⟨t, (p : Int), 0⟩ (k : Int) = (Quill.tell ((t.drop p).take k), ⟨t, ((p + k : Nat) : Int), 0⟩) := by
  unfold Quill.Sc.num
  rw [if_neg (by simp), if_neg (by simp [Quill.Sc.stands, h]; omega), if_neg (by simp [h]; omega)]
  simp only [Int.toNat_natCast]
  rfl
theorem scan_ok (t : List UInt8) (g : Int) (h : t.length = 9) : SP 63 [U g, T t] (rt g (fA t) (fZ t) (fU t)) := by
  have c1 := scannum_snd t ((0 : Nat) : Int) 0 ((1 : Nat) : Int) (by omega)
  have c2 := scannum_snd t ((1 : Nat) : Int) 0 ((4 : Nat) : Int) (by omega)
  have c3 := scannum_snd t ((5 : Nat) : Int) 0 ((4 : Nat) : Int) (by omega)
  rw [num_z t h 0 1 (by omega) (by omega) (by omega)] at c1
  rw [num_z t h 1 4 (by omega) (by omega) (by omega)] at c2
  rw [num_z t h 5 4 (by omega) (by omega) (by omega)] at c3
  have hl := f_lt (p := t) (by omega)
  exact scan_walk t g (fA t) (fZ t) (fU t) _ _ _ hl.1 hl.2.1 hl.2.2 c1 c2 c3
/-- why a sector is no root's -/
def erR (s : List UInt8) : Int := if (opn s).2.2 = 0 then 4 else (opn s).2.2
def NoR (s : List UInt8) : Prop := ∀ g a z u : Nat, OkR g a z → u < 4294967296 → s ≠ rootS g a z u
theorem opn_root {g a z u : Nat} (h : OkR g a z) : opn (rootS g a z u) = (g * 1048576 + 1, padR (Crc.sealed (payR a z u)), 0) :=
  sec_opn (by omega) (by have := h.nat; omega) (by rw [sealed9]; omega)
theorem crc13 {p : List UInt8} (hl : p.length = 48) : Crc.opened (p.take 13) = (p.take 9, 0) ∧ (p.drop 9).take 4 = Crc.four (Crc.sum (p.take 9)) ∨ (Crc.opened (p.take 13)).2 = 10 ∧ ¬ (p.drop 9).take 4 = Crc.four (Crc.sum (p.take 9)) := by
  have h13 : (p.take 13).length = 13 := by rw [List.length_take]; omega
  have e1 : (p.take 13).take ((p.take 13).length - 4) = p.take 9 := by rw [h13, List.take_take]; rfl
  have e2 : (p.take 13).drop ((p.take 13).length - 4) = (p.drop 9).take 4 := by rw [h13, List.drop_take]
  by_cases h : (p.drop 9).take 4 = Crc.four (Crc.sum (p.take 9))
  · refine .inl ⟨?_, h⟩
    have := Crc.opened_yes (l := p.take 13) (by omega) (by rw [e1, e2, h]; exact beq_self_eq_true _)
    rw [this, e1]
  · refine .inr ⟨?_, h⟩
    have := Crc.opened_no (l := p.take 13) (by omega) (by rw [e1, e2]; simpa using fun hh => h hh.symm)
    rw [this]
theorem cut13 (p : List UInt8) : (bs p).extract (0 : Int).toNat (13 : Int).toNat = bs (p.take 13) := by rw [bs_cut]; rfl
theorem cut13T (p : List UInt8) : T (p.take 13) = .ex (.string ((bs p).extract (0 : Int).toNat (13 : Int).toNat)) := by rw [cut13]
theorem cut35 {p : List UInt8} (hl : p.length = 48) : (bs p).extract (13 : Int).toNat ((bs p).size : Int).toNat = bs (p.drop 13) := by
  rw [bs_cut, bs_size, hl]
  rw [List.take_of_length_le (by rw [List.length_drop, hl]; decide)]
  rfl
/-- the first byte that is not 0 -/
theorem first_byte (q : List UInt8) : ∀ n, (∀ i, i < n → byteAt q i = 0) ∨ ∃ j, j < n ∧ (∀ i, i < j → byteAt q i = 0) ∧ byteAt q j ≠ 0
  | 0 => .inl fun i hi => by omega
  | n + 1 => by
    rcases first_byte q n with h | ⟨j, h1, h2, h3⟩
    · by_cases h0 : byteAt q n = 0
      · refine .inl fun i hi => ?_
        by_cases e : i = n
        · rw [e]; exact h0
        · exact h i (by omega)
      · exact .inr ⟨n, by omega, h, h0⟩
    · exact .inr ⟨j, by omega, h2, h3⟩
theorem rootopen_yes {g a z u : Nat} (h : OkR g a z) (hu : u < 4294967296) : SP 38 [T (rootS g a z u)] (.tup [rt g a z u, Z 0]) := by
  have hn := h.nat
  have hO := open_ok (rootS g a z u)
  rw [opn_root h] at hO
  have hpl : (padR (Crc.sealed (payR a z u))).length = 48 := pad_len (by rw [sealed9]; omega)
  have hok := pay_ok (a := a) (z := z) (u := u)
  have hP := parts_yes (m := g * 1048576 + 1) (by unfold OkP; omega)
  rw [show ((g * 1048576 + 1 : Nat) : Int) / 1048576 = (g : Int) by omega, show ((g * 1048576 + 1 : Nat) : Int) % 1048576 - 1 = 0 by omega] at hP
  have ht9 : (padR (Crc.sealed (payR a z u))).take 9 = payR a z u := by rw [padR, Crc.sealed, List.append_assoc, List.take_left' (payR_len a z u)]
  have hC := crcopen_ok ((padR (Crc.sealed (payR a z u))).take 13) (by rw [List.length_take]; omega)
  rcases crc13 hpl with ⟨hc, _⟩ | ⟨_, hc⟩
  case inr => exact absurd hok.1 hc
  rw [hc, cut13T] at hC
  dsimp only at hC
  rw [ht9] at hC
  have hS := scan_ok (payR a z u) g (payR_len a z u)
  have hf := f_payR (a := a) (z := z) (u := u) (by omega) (by omega) hu []
  rw [List.append_nil] at hf
  rw [hf.1, hf.2.1, hf.2.2] at hS
  exact ropen_6 _ _ _ ((padR (Crc.sealed (payR a z u))).drop 13) _ 0 g (by rw [bs_size]; exact hpl) hO hP hC (cut35 hpl) (by rw [List.length_drop]; omega) (by rw [bs_size, List.length_drop]; omega) a z u hok.2 hS (check_yes h)
theorem rootopen_no {s : List UInt8} (h : NoR s) : SP 38 [T s] (.tup [rt 0 0 0 0, Z (erR s)]) := by
  have hO := open_ok s
  by_cases he : (opn s).2.2 = 0
  case neg => unfold erR; rw [if_neg he]; exact ropen_1 s _ _ _ he hO
  unfold erR
  rw [if_pos he]
  rcases hs : opn s with ⟨m, p, e⟩
  rw [hs] at hO he
  have he : e = 0 := he
  subst he
  dsimp only at hO
  obtain ⟨e1, hpl, hm0, hm1⟩ := opn_parts hs
  by_cases hp : OkP m
  case neg => exact ropen_2 s p m _ _ false (.inl rfl) hO (parts_no hm1 hp)
  have hP := parts_yes hp
  have hp' : 1048576 ≤ m ∧ m < 1152921504607895552 ∧ (m : Int) % 1048576 ≠ 0 := hp
  by_cases hpl0 : (m : Int) % 1048576 - 1 = 0
  case neg => exact ropen_2 s p m _ _ true (.inr hpl0) hO hP
  rw [hpl0] at hP
  have hC := crcopen_ok (p.take 13) (by rw [List.length_take]; omega)
  rw [cut13T] at hC
  have hb : (bs p).size = 48 := by rw [bs_size]; exact hpl
  rcases crc13 hpl with ⟨hc, hc2⟩ | ⟨hc, _⟩
  case inr => exact ropen_3 s p _ m _ _ hb (by rw [hc]; decide) hO hP hC
  rw [hc] at hC
  dsimp only at hC
  rcases first_byte (p.drop 13) 35 with hz | ⟨j, hj, h1, h2⟩
  case inr => exact ropen_4 s p _ (p.drop 13) m j _ hb hO hP hC (cut35 hpl) (by rw [List.length_drop]; omega) (by rw [bs_size, List.length_drop]; omega) hj h1 h2
  have hS := scan_ok (p.take 9) ((m : Int) / 1048576) (by rw [List.length_take]; omega)
  have hf1 : fA (p.take 9) = fA p := by unfold fA; rw [List.take_take]; rfl
  have hf2 : fZ (p.take 9) = fZ p := by unfold fZ; rw [List.drop_take, List.take_take]; rfl
  have hf3 : fU (p.take 9) = fU p := by unfold fU; rw [List.drop_take, List.take_take]; rfl
  rw [hf1, hf2, hf3] at hS
  have hlt := f_lt (p := p) (by omega)
  by_cases hk : OkR ((m : Int) / 1048576) (fA p) (fZ p)
  case neg => exact ropen_5 s p _ (p.drop 13) m 0 _ hb hO hP hC (cut35 hpl) (by rw [List.length_drop]; omega) (by rw [bs_size, List.length_drop]; omega) _ _ _ hz hS (check_no hk)
  exfalso
  have hk2 : OkR ((m / 1048576 : Nat) : Int) (fA p) (fZ p) := hk
  refine h (m / 1048576) (fA p) (fZ p) (fU p) hk2 hlt.2.2 ?_
  rw [rootS, sec_eq, pay_eq hpl ⟨hc2, hz⟩, show m / 1048576 * 1048576 + 1 = m by omega]
  exact e1
/-! ### by the document -/
theorem rscan (p : List UInt8) (hl : p.length = 48) : SP 65 [scM p 0 0, Z 1] (numM (fA p) p 1 0) ∧ SP 65 [scM p 1 0, Z 4] (numM (fZ p) p 5 0) ∧ SP 65 [scM p 5 0, Z 4] (numM (fU p) p 9 0) := by
  have c1 := takenum_snd p ((0 : Nat) : Int) 0 ((1 : Nat) : Int) (by omega)
  have c2 := takenum_snd p ((1 : Nat) : Int) 0 ((4 : Nat) : Int) (by omega)
  have c3 := takenum_snd p ((5 : Nat) : Int) 0 ((4 : Nat) : Int) (by omega)
  rw [num_p p hl 0 1 (by omega) (by omega) (by omega)] at c1
  rw [num_p p hl 1 4 (by omega) (by omega) (by omega)] at c2
  rw [num_p p hl 5 4 (by omega) (by omega) (by omega)] at c3
  exact ⟨c1, c2, c3⟩
theorem rrootopen_yes {g a z u : Nat} (h : OkR g a z) (hu : u < 4294967296) : SP 39 [T (rootS g a z u)] (.tup [rt g a z u, Z 0]) := by
  have hn := h.nat
  have hO := ropen_ok (rootS g a z u)
  rw [opn_root h] at hO
  have hpl : (padR (Crc.sealed (payR a z u))).length = 48 := pad_len (by rw [sealed9]; omega)
  have hP := rparts_yes (m := g * 1048576 + 1) (by unfold OkP; omega)
  rw [show ((g * 1048576 + 1 : Nat) : Int) / 1048576 = (g : Int) by omega, show ((g * 1048576 + 1 : Nat) : Int) % 1048576 - 1 = 0 by omega] at hP
  have hf := f_payR (a := a) (z := z) (u := u) (by omega) (by omega) hu (Crc.four (Crc.sum (payR a z u)) ++ List.replicate (48 - (Crc.sealed (payR a z u)).length) 0)
  rw [show payR a z u ++ (Crc.four (Crc.sum (payR a z u)) ++ List.replicate (48 - (Crc.sealed (payR a z u)).length) 0) = padR (Crc.sealed (payR a z u)) by rw [padR, ← List.append_assoc]; rfl] at hf
  obtain ⟨c1, c2, c3⟩ := rscan _ hpl
  rw [hf.1] at c1
  rw [hf.2.1] at c2
  rw [hf.2.2] at c3
  exact rropen_3 _ _ _ a z u g _ _ _ _ _ (by omega) (by omega) hu hO hP c1 c2 c3 (rrseal_ok h hu)
theorem rrootopen_no {s : List UInt8} (h : NoR s) : SP 39 [T s] (.tup [rt 0 0 0 0, Z (erR s)]) := by
  have hO := ropen_ok s
  by_cases he : (opn s).2.2 = 0
  case neg => unfold erR; rw [if_neg he]; exact rropen_1 s _ _ _ he hO
  unfold erR
  rw [if_pos he]
  rcases hs : opn s with ⟨m, p, e⟩
  rw [hs] at hO he
  have he : e = 0 := he
  subst he
  dsimp only at hO
  obtain ⟨e1, hpl, hm0, hm1⟩ := opn_parts hs
  have hlt := f_lt (p := p) (by omega)
  obtain ⟨c1, c2, c3⟩ := rscan p hpl
  by_cases hp : OkP m
  · have hP := rparts_yes hp
    by_cases hk : OkR ((m : Int) / 1048576) (fA p) (fZ p)
    · have hk2 : OkR ((m / 1048576 : Nat) : Int) (fA p) (fZ p) := hk
      exact rropen_2 s p _ m _ _ _ _ _ _ _ _ 0 _ hlt.1 hlt.2.1 hlt.2.2 (.inr fun e => h _ _ _ _ hk2 hlt.2.2 e.symm) hO hP c1 c2 c3 (rrseal_ok hk2 hlt.2.2)
    · exact rropen_2 s p _ m _ _ _ _ _ _ _ _ 2 _ hlt.1 hlt.2.1 hlt.2.2 (.inl (by decide)) hO hP c1 c2 c3 (rrseal_no hk)
  · exact rropen_2 s p _ m _ _ _ _ _ _ _ _ 2 _ hlt.1 hlt.2.1 hlt.2.2 (.inl (by decide)) hO (rparts_no hm1 hp) c1 c2 c3 (rrseal_no (fun hh => by have := hh.1; omega))
end Go.Proofs.Ytjfkfldlmhbnkaa.Av
