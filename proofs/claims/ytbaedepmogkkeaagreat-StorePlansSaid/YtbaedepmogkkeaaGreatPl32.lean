/- What the claim stands on, Pl32: contracts of functions and plain facts. No conditions. -/
import Derived.Test.YtbaedepmogkkeaaGreatPl31
import Derived.Test.YtbaedepmogkkeaaGreatPl24
import Derived.Test.YtbaedepmogkkeaaGreatPl13
import Derived.Test.YtbaedepmogkkeaaGreatPl25
import Derived.Test.YtbaedepmogkkeaaGreatPl29
namespace Go.Proofs.YtbaedepmogkkeaaGreat.Av
set_option maxHeartbeats 1000000
open Go Go.RowKit
set_option linter.unusedVariables false
set_option linter.unusedSimpArgs false
set_option maxRecDepth 100000
theorem textO_pos {L : List (List UInt8)} {g : Nat} {at_ : Int} {txt : List UInt8} {k : Nat} (h : textO L g at_ = some (txt, k)) : 1 ≤ k ∧ 0 ≤ at_ ∧ at_ + (k : Int) ≤ L.length := by
 unfold textO at h
 split at h
 ·cases h
 rename_i p0 hp
 split at h
 ·cases h
 rename_i h0
 split at h
 ·cases h
 rename_i hfull
 injection h with h
 injection h with h1 h2
 have hle := paysO_len L g (szT (Quill.tell (p0.take 2))) at_
 have h3 := paysO_at L g (szT (Quill.tell (p0.take 2))) at_ (k - 1) (by omega)
 rw [List.getElem?_eq_getElem (by omega)] at h3
 obtain ⟨_, _, q1, q2, _, _⟩ := payO_some h3
 obtain ⟨_, _, q3, q4, _, _⟩ := payO_some hp
 omega
def scanO (L : List (List UInt8)) (g : Nat) : Nat → Int → List (List UInt8) × Int
 | 0, at_ => ([], at_)
 | f + 1, at_ => match textO L g at_ with
  | none => ([], at_)
  | some (t, k) => (t :: (scanO L g f (at_ + (k : Int))).1, (scanO L g f (at_ + (k : Int))).2)
abbrev fnT : AV := .ex (.func (.func 141) #[] #[])
theorem tscan_walk (L : List (List UInt8)) (g : Nat) (hL : L.length ≤ 1000000) (R : List (List UInt8) × Int) (hR : scanO L g (L.length + 1) 0 = R) :
  SP 84 [.vs L.length (L.map T), U g] (.tup [.own 9 R.1.length (R.1.map T), Z R.2]) := by
 refine S_ Tryz.func84 (by kernel_rfl) rfl (Nat.le_of_ble_eq_true rfl) ?_
 show avc Tryz.prog SP _ _ _ _ _ _
 dsimp only [avc, startS, Array.toList, Tryz.f84]
 refine Av.Wk ?_
 refine ⟨[6, 7, 8], [(6, some 9)], fun vs bl => ∃ (ts : List (List UInt8)) (C : List AV) (m : Nat) (a : Int) (f : Nat), C = ts.map T ∧ m = ts.length ∧ 0 ≤ a ∧ a ≤ L.length ∧ L.length - a < f ∧ m ≤ a ∧ (ts ++ (scanO L g f a).1, (scanO L g f a).2) = R ∧ (vs = [.sl 0 m, .ptr 1 0, fnT] ∧
   (bl = [rowTT C false, rdB L g a nilA true] ∨ ∃ (k : Nat) (gs : List AV), bl = [rowTT C false, rdB L g a (.sl 2 k) false, rowTT gs true])), fun vs bl => match bl with | _ :: ⟨[_, _, .ex (.int _ a), _], _, _, _⟩ :: _ => L.length - a.toNat | _ => 0, ?_, ?_⟩
 ·exact ⟨[], [], 0, 0, L.length + 1, rfl, rfl, by omega, by omega, by omega, by omega, hR, rfl, .inl rfl⟩
 rintro vs bl ⟨ts, C, m, a, f, hC, hm, h0, h1, h2, h3, h4, rfl, hbl⟩
 obtain ⟨f, rfl⟩ : ∃ f', f = f' + 1 := ⟨f - 1, by omega⟩
 have hcl : C.length = m := by rw [hC, hm, List.length_map]
 cases hx : textO L g a with
 | none =>
  have e : R = (ts, a) := by
   rw [← h4]
   unfold scanO
   rw [hx]
   simp
  subst e
  subst hC hm
  clear hR h4
  rcases hbl with rfl | ⟨k, gs, rfl⟩
  ·rcases textn_no true hL hx with h | ⟨i, ps, h⟩
   ·exact Av.W
   ·exact Av.W
  ·rcases textr_no k gs true hL hx with h | ⟨i, ps, h⟩
   ·exact Av.W
   ·exact Av.W
 | some r =>
  obtain ⟨t, k1⟩ := r
  obtain ⟨hk1, _, hk2⟩ := textO_pos hx
  have hnext : (ts ++ [t] ++ (scanO L g f (a + (k1 : Int))).1, (scanO L g f (a + (k1 : Int))).2) = R := by
   rw [← h4, scanO, hx]
   simp
  rcases hbl with rfl | ⟨k, gs, rfl⟩
  ·have h := textn_yes true hL hx
   have hWz : Av.FzF := ⟨⟩
   refine Av.Wk ?_
   refine And.intro ⟨room_s (by omega), by rw [hs1', hcl, Nat.mul_one], by rw [hs1']; rfl, one_T _⟩ ?_
   refine Av.Wk ?_
   exact ⟨⟨ts ++ [t], C ++ [T t], m + 1, a + (k1 : Int), f, by rw [hC, List.map_append]; rfl, by rw [hm, List.length_append]; rfl, by omega, by omega, by omega, by omega, hnext, rfl, .inr ⟨k1, _, rfl⟩⟩, (by show L.length - (a + (k1 : Int)).toNat < L.length - a.toNat; omega)⟩
  ·have h := textr_yes k gs true hL hx
   have hWz : Av.FzF := ⟨⟩
   refine Av.Wk ?_
   refine And.intro ⟨room_s (by omega), by rw [hs1', hcl, Nat.mul_one], by rw [hs1']; rfl, one_T _⟩ ?_
   refine Av.Wk ?_
   exact ⟨⟨ts ++ [t], C ++ [T t], m + 1, a + (k1 : Int), f, by rw [hC, List.map_append]; rfl, by rw [hm, List.length_append]; rfl, by omega, by omega, by omega, by omega, hnext, rfl, .inr ⟨k1, _, rfl⟩⟩, (by show L.length - (a + (k1 : Int)).toNat < L.length - a.toNat; omega)⟩
theorem rmark_mkT {g : Nat} {p : Int} (h : OkM g p) : SP 71 [U g, Z p] (.tup [U (mkT g p), Z 0]) := by
 have := rmark_yes h
 have h : 1 ≤ g ∧ g ≤ 1099511627776 ∧ 0 ≤ p ∧ p < 1048575 := h
 have e : ((g : Int) * 1048576 + p + 1) = ((mkT g p : Nat) : Int) := by unfold mkT; omega
 rw [e] at this
 exact this
section
variable {L : List (List UInt8)} {g : Nat} {at_ : Int}
theorem rpay_out (h : at_ < 0 ∨ (L.length : Int) ≤ at_) : SP 216 [.vs L.length (L.map T), U g, Z at_] (.tup [T [], B false]) := by
 refine S_ Tryz.func216 (by kernel_rfl) rfl (Nat.le_of_ble_eq_true rfl) ?_
 show avc Tryz.prog SP _ _ _ _ _ _
 dsimp only [avc, startS, Array.toList, Tryz.f216]
 exact Av.W
theorem rpay_bad {m a : Nat} {e f : Int} {s p : List UInt8} (h0 : 0 ≤ at_) (h1 : at_ < L.length) (h : e ≠ 0 ∨ f ≠ 0 ∨ a ≠ m) (hM : SP 71 [U g, Z at_] (.tup [U m, Z e])) (hat : (L.map T)[mulS at_.toNat (sizeT Tryz.prog 9)]? = some (T s))
  (hO : SP 75 [T s] (.tup [U a, T p, Z f])) : SP 216 [.vs L.length (L.map T), U g, Z at_] (.tup [T [], B false]) := by
 refine S_ Tryz.func216 (by kernel_rfl) rfl (Nat.le_of_ble_eq_true rfl) ?_
 show avc Tryz.prog SP _ _ _ _ _ _
 dsimp only [avc, startS, Array.toList, Tryz.f216]
 exact Av.W
theorem rpay_good {m : Nat} {s p : List UInt8} (h0 : 0 ≤ at_) (h1 : at_ < L.length) (hM : SP 71 [U g, Z at_] (.tup [U m, Z 0])) (hat : (L.map T)[mulS at_.toNat (sizeT Tryz.prog 9)]? = some (T s))
  (hO : SP 75 [T s] (.tup [U m, T p, Z 0])) : SP 216 [.vs L.length (L.map T), U g, Z at_] (.tup [T p, B true]) := by
 refine S_ Tryz.func216 (by kernel_rfl) rfl (Nat.le_of_ble_eq_true rfl) ?_
 show avc Tryz.prog SP _ _ _ _ _ _
 dsimp only [avc, startS, Array.toList, Tryz.f216]
 exact Av.W
theorem rpay_yes {p : List UInt8} (h : payO L g at_ = some p) : SP 216 [.vs L.length (L.map T), U g, Z at_] (.tup [T p, B true]) := by
 obtain ⟨s, h1, h2, h3, h4, h5⟩ := payO_some h
 have hO := ropen_ok s
 rw [h5] at hO
 exact rpay_good h2 h3 (rmark_mkT h4) (at_T h1) hO
theorem rpay_no (h : payO L g at_ = none) : SP 216 [.vs L.length (L.map T), U g, Z at_] (.tup [T [], B false]) := by
 rcases payO_none h with h1 | ⟨⟨h1, h2⟩, h3 | ⟨h3, s, h4, h5⟩⟩
 ·exact rpay_out h1
 ·have hl : at_.toNat < L.length := by omega
  exact rpay_bad h1 h2 (.inl (by decide)) (rmark_no h3) (at_T (List.getElem?_eq_getElem hl)) (ropen_ok _)
 ·exact rpay_bad h1 h2 (.inr h5) (rmark_mkT h3) (at_T h4) (ropen_ok s)
theorem rone_0 (h : SP 216 [.vs L.length (L.map T), U g, Z at_] (.tup [T [], B false])) : SP 195 [.vs L.length (L.map T), U g, Z at_] (.tup [T [], Z at_, B false]) := by
 refine S_ Tryz.func195 (by kernel_rfl) rfl (Nat.le_of_ble_eq_true rfl) ?_
 show avc Tryz.prog SP _ _ _ _ _ _
 dsimp only [avc, startS, Array.toList, Tryz.f195]
 have hW0 : Av.Mk 9 [0,1,3,7,0,16,48,127,255] := ⟨⟩
 exact Av.W
theorem rone_1 {p0 : List UInt8} {b0 b1 : UInt8} (h : SP 216 [.vs L.length (L.map T), U g, Z at_] (.tup [T p0, B true])) (hb0 : (bs p0)[(0 : Int).toNat]? = some b0) (hb1 : (bs p0)[(1 : Int).toNat]? = some b1) (l0 : b0.toNat < 256) (l1 : b1.toNat < 256)
  (hS : SP 112 [Z (256 * (b0.toNat : Int) + (b1.toNat : Int))] (Z 0)) : SP 195 [.vs L.length (L.map T), U g, Z at_] (.tup [T [], Z at_, B false]) := by
 refine S_ Tryz.func195 (by kernel_rfl) rfl (Nat.le_of_ble_eq_true rfl) ?_
 show avc Tryz.prog SP _ _ _ _ _ _
 dsimp only [avc, startS, Array.toList, Tryz.f195]
 repeat' ((try conv => whnf) <;> first | refine Av.Va ?_ | refine ⟨_, h, ?_⟩ | (refine ⟨b0, ⟨by omega, hb0⟩, ?_⟩) | (refine ⟨b1, ⟨by omega, hb1⟩, ?_⟩) | refine ⟨_, hS, ?_⟩ | refine ⟨[], [0,1,3,7,0,16,48,127,255], Av.len_ok rfl (by kernel_rfl), ?_⟩ | exact True.intro | refine Av.Vb ?_ | exact ⟨rfl, rfl, rfl⟩ | exact ⟨rfl, rfl⟩ | (refine Av.Vc ?_ ?_ <;> intro hBr <;> first | (exfalso; omega) | (exfalso; contradiction) | (exfalso; exact hBr rfl) | skip) | refine Av.Vd ?_ | exact rfl)
theorem rone_loop {p0 txt : List UInt8} {b0 b1 : UInt8} (k stop n : Nat) (ps : List (List UInt8)) (nx : Int) (r : Bool) (h0 : 0 ≤ at_) (h1 : at_ ≤ 1000000) (h : SP 216 [.vs L.length (L.map T), U g, Z at_] (.tup [T p0, B true])) (hb0 : (bs p0)[(0 : Int).toNat]? = some b0) (hb1 : (bs p0)[(1 : Int).toNat]? = some b1) (l0 : b0.toNat < 256) (l1 : b1.toNat < 256)
  (hS : SP 112 [Z (256 * (b0.toNat : Int) + (b1.toNat : Int))] (Z k)) (hk : 1 ≤ k) (hk2 : k ≤ 100) (hstop : stop ≤ k) (hfl : ∀ i, (ps.take i).flatten.length ≤ 48 * i) (hp48 : ∀ i (h : i < ps.length), (ps[i]).length = 48) (hpl : stop ≤ ps.length)
  (hpay : ∀ (i : Nat) (hi : i < ps.length), i < stop → SP 216 [.vs L.length (L.map T), U g, Z (at_ + (i : Int))] (.tup [T ps[i], B true]))
  (hend : stop < k ∧ SP 216 [.vs L.length (L.map T), U g, Z (at_ + (stop : Int))] (.tup [T [], B false]) ∧ txt = [] ∧ nx = at_ ∧ r = false ∨
   stop = k ∧ 2 + (256 * (b0.toNat : Int) + (b1.toNat : Int)) ≤ (bs (ps.take k).flatten).size ∧ (bs (ps.take k).flatten).extract (2 : Int).toNat (2 + (256 * (b0.toNat : Int) + (b1.toNat : Int))).toNat = bs txt ∧ nx = at_ + (k : Int) ∧ r = true) :
  SP 195 [.vs L.length (L.map T), U g, Z at_] (.tup [T txt, Z nx, B r]) := by
 refine S_ Tryz.func195 (by kernel_rfl) rfl (Nat.le_of_ble_eq_true rfl) ?_
 show avc Tryz.prog SP _ _ _ _ _ _
 dsimp only [avc, startS, Array.toList, Tryz.f195]
 repeat' ((try conv => whnf) <;> first | refine Av.Va ?_ | refine ⟨_, h, ?_⟩ | (refine ⟨b0, ⟨by omega, hb0⟩, ?_⟩) | (refine ⟨b1, ⟨by omega, hb1⟩, ?_⟩) | refine ⟨_, hS, ?_⟩ | refine ⟨[], [0,1,3,7,0,16,48,127,255], Av.len_ok rfl (by kernel_rfl), ?_⟩ | exact True.intro | refine Av.Vb ?_ | exact ⟨rfl, rfl, rfl⟩ | exact ⟨rfl, rfl⟩ | (refine Av.Vc ?_ ?_ <;> intro hBr <;> first | (exfalso; omega) | (exfalso; contradiction) | (exfalso; exact hBr rfl) | skip) | refine Av.Vd ?_ | exact rfl)
 refine ⟨[13, 14, 12, 11, 0, 1, 2], [], fun vs bl => ∃ (i : Nat) (S : ByteArray), i ≤ stop ∧ S = bs (ps.take i).flatten ∧ (vs = [.ex (.string S), Z i, Z k, Z (256 * (b0.toNat : Int) + (b1.toNat : Int)), .vs L.length (L.map T), U g, Z at_] ∧ bl = []), fun vs bl => match vs with | [_, .ex (.int _ i), _, _, _, _, _] => k - i.toNat | _ => 0, ?_, ?_⟩
 ·exact ⟨0, bs [], by omega, rfl, rfl, rfl⟩
 rintro vs bl ⟨i, S, hi, hSb, rfl, rfl⟩
 have hs := hfl i
 have hsz : S.size ≤ 48 * i := by rw [hSb, bs_size]; exact hs
 by_cases hlt : i < stop
 ·have hil : i < ps.length := by omega
  have hc := hpay i hil hlt
  have hq := hp48 i hil
  have hq2 : (bs ps[i]).size = 48 := by rw [bs_size]; exact hq
  have hn : S ++ bs ps[i] = bs (ps.take (i + 1)).flatten := by
   rw [hSb, bs_add, List.take_add_one, List.getElem?_eq_getElem hil, List.flatten_append]
   simp
  clear hpay hfl hp48 hend hSb
  have hW1 : Av.Mk 9 [0,1,3,7,0,16,48,127,255] := ⟨⟩
  refine Av.Wk ?_
  exact ⟨⟨i + 1, _, by omega, hn, rfl, rfl⟩, (by simp only [Int.toNat_natCast]; show k - ((i : Int) + 1).toNat < _; omega)⟩
 ·have hie : i = stop := by omega
  subst hie
  rcases hend with ⟨e1, hno, rfl, rfl, rfl⟩ | ⟨rfl, e2, e3, rfl, rfl⟩
  ·have hW2 : Av.Mk 9 [0,1,3,7,0,16,48,127,255] := ⟨⟩
   exact Av.W
  ·have e2' : 2 + (256 * (b0.toNat : Int) + (b1.toNat : Int)) ≤ S.size := by rw [hSb]; exact e2
   rw [← hSb] at e3
   have hW3 : Av.Mk 9 [0,1,3,7,0,16,48,127,255] := ⟨⟩
   refine Av.Wk ?_
   exact ⟨congrArg (fun s => AV.ex (.string s)) e3, rfl, rfl, trivial⟩
end
theorem first2 {p : List UInt8} (h : p.length = 48) : ∃ b0 b1 : UInt8, (bs p)[(0 : Int).toNat]? = some b0 ∧ (bs p)[(1 : Int).toNat]? = some b1 ∧ 256 * (b0.toNat : Int) + (b1.toNat : Int) = ((Quill.tell (p.take 2) : Nat) : Int) := by
 match p, h with
 | b0 :: b1 :: r, h =>
  refine ⟨b0, b1, ?_, ?_, ?_⟩
  ·show (bs (b0 :: b1 :: r))[0]? = some b0
   rw [getElem?_pos (bs (b0 :: b1 :: r)) 0 (by rw [bs_size]; simp)]; rfl
  ·show (bs (b0 :: b1 :: r))[1]? = some b1
   rw [getElem?_pos (bs (b0 :: b1 :: r)) 1 (by rw [bs_size]; simp)]; rfl
  ·simp [Quill.tell]; omega
theorem pays_48 (L : List (List UInt8)) (g : Nat) : ∀ (k : Nat) (at_ : Int) (i : Nat) (h : i < (paysO L g at_ k).length), ((paysO L g at_ k)[i]).length = 48 := by
 intro k at_ i h
 have := paysO_at L g k at_ i h
 rw [List.getElem?_eq_getElem h] at this
 exact payO_len this
theorem flat_le {ps : List (List UInt8)} (h : ∀ i (h : i < ps.length), (ps[i]).length = 48) : ∀ i, (ps.take i).flatten.length ≤ 48 * i
 | 0 => by simp
 | i + 1 => by
  have ih := flat_le h i
  rw [List.take_add_one, List.flatten_append, List.length_append]
  by_cases hi : i < ps.length
  ·have := h i hi
   rw [List.getElem?_eq_getElem hi]
   show _ + [ps[i]].flatten.length ≤ _
   rw [List.flatten_singleton]; omega
  ·rw [List.getElem?_eq_none (by omega)]
   show _ + ([] : List (List UInt8)).flatten.length ≤ _
   rw [List.flatten_nil, List.length_nil]; omega
section
variable {L : List (List UInt8)} {g : Nat} {at_ : Int}
theorem rone_yes {txt : List UInt8} {k : Nat} (hL : L.length ≤ 1000000) (h : textO L g at_ = some (txt, k)) : SP 195 [.vs L.length (L.map T), U g, Z at_] (.tup [T txt, Z (at_ + (k : Int)), B true]) := by
 have hpos := textO_pos h
 unfold textO at h
 split at h
 ·cases h
 rename_i p0 hp
 split at h
 ·cases h
 rename_i h0
 split at h
 ·cases h
 rename_i hfull
 injection h with h
 injection h with h1 h2
 subst h2
 obtain ⟨b0, b1, hb0, hb1, hb⟩ := first2 (payO_len hp)
 have hle := paysO_len L g (szT (Quill.tell (p0.take 2))) at_
 have hsz := szT_le (Quill.tell (p0.take 2))
 have hfl := pays_flat L g (szT (Quill.tell (p0.take 2))) at_
 have h48 := pays_48 L g (szT (Quill.tell (p0.take 2))) at_
 have hS := rtpsize_ok (Quill.tell (p0.take 2))
 rw [← hb] at hS
 have hn : szT (Quill.tell (p0.take 2)) = (Quill.tell (p0.take 2) + 2 + 47) / 48 := by
  unfold szT at h0 ⊢
  split at h0
  ·exact absurd rfl h0
  ·rename_i hc; rw [if_neg hc]
 have htk : (paysO L g at_ (szT (Quill.tell (p0.take 2)))).take (szT (Quill.tell (p0.take 2))) = paysO L g at_ (szT (Quill.tell (p0.take 2))) := List.take_of_length_le (by omega)
 refine rone_loop (szT (Quill.tell (p0.take 2))) (szT (Quill.tell (p0.take 2))) 0 (paysO L g at_ (szT (Quill.tell (p0.take 2)))) _ true (by omega) (by omega) (rpay_yes hp) hb0 hb1 (UInt8.toNat_lt _) (UInt8.toNat_lt _) hS (by omega) (by omega) (by omega) (flat_le h48) h48 (by omega) (fun i hi _ => ?_) (.inr ⟨rfl, ?_, ?_, rfl, rfl⟩)
 ·have := paysO_at L g _ at_ i hi
  rw [List.getElem?_eq_getElem hi] at this
  exact rpay_yes this
 ·rw [htk, bs_size, hb]; omega
 ·rw [htk, bs_cut, ← h1, hb]
  congr 1
  rw [show (2 + ((Quill.tell (p0.take 2) : Nat) : Int)).toNat - (2 : Int).toNat = Quill.tell (p0.take 2) by omega]
  rfl
theorem rone_no (hL : L.length ≤ 1000000) (h : textO L g at_ = none) : SP 195 [.vs L.length (L.map T), U g, Z at_] (.tup [T [], Z at_, B false]) := by
 unfold textO at h
 split at h
 ·rename_i hp
  exact rone_0 (rpay_no hp)
 ·rename_i p0 hp
  obtain ⟨b0, b1, hb0, hb1, hb⟩ := first2 (payO_len hp)
  have hS := rtpsize_ok (Quill.tell (p0.take 2))
  rw [← hb] at hS
  split at h
  ·rename_i h0
   rw [h0] at hS
   exact rone_1 (rpay_yes hp) hb0 hb1 (UInt8.toNat_lt _) (UInt8.toNat_lt _) hS
  ·rename_i h0
   split at h
   ·rename_i hsh
    have hle := paysO_len L g (szT (Quill.tell (p0.take 2))) at_
    have hsz := szT_le (Quill.tell (p0.take 2))
    have hend := paysO_end L g _ at_ hsh
    have h48 := pays_48 L g (szT (Quill.tell (p0.take 2))) at_
    obtain ⟨_, _, q1, q2, _, _⟩ := payO_some hp
    refine rone_loop (szT (Quill.tell (p0.take 2))) (paysO L g at_ (szT (Quill.tell (p0.take 2)))).length 0 (paysO L g at_ (szT (Quill.tell (p0.take 2)))) _ false (by omega) (by omega) (rpay_yes hp) hb0 hb1 (UInt8.toNat_lt _) (UInt8.toNat_lt _) hS (by omega) (by omega) (by omega) (flat_le h48) h48 (by omega) (fun i hi _ => ?_) (.inl ⟨hsh, rpay_no hend, rfl, rfl, rfl⟩)
    have := paysO_at L g _ at_ i hi
    rw [List.getElem?_eq_getElem hi] at this
    exact rpay_yes this
   ·cases h
end
theorem rscan_walk (L : List (List UInt8)) (g : Nat) (hL : L.length ≤ 1000000) (R : List (List UInt8) × Int) (hR : scanO L g (L.length + 1) 0 = R) :
  SP 146 [.vs L.length (L.map T), U g] (.tup [.own 9 R.1.length (R.1.map T), Z R.2]) := by
 refine S_ Tryz.func146 (by kernel_rfl) rfl (Nat.le_of_ble_eq_true rfl) ?_
 show avc Tryz.prog SP _ _ _ _ _ _
 dsimp only [avc, startS, Array.toList, Tryz.f146]
 refine Av.Wk ?_
 refine ⟨[6, 7, 0, 1], [(6, some 9)], fun vs bl => ∃ (ts : List (List UInt8)) (C : List AV) (m : Nat) (a : Int) (f : Nat), C = ts.map T ∧ m = ts.length ∧ 0 ≤ a ∧ a ≤ L.length ∧ L.length - a < f ∧ m ≤ a ∧ (ts ++ (scanO L g f a).1, (scanO L g f a).2) = R ∧ (vs = [.sl 0 m, Z a, .vs L.length (L.map T), U g] ∧
   bl = [rowTT C false]), fun vs bl => match vs with | [_, .ex (.int _ a), _, _] => L.length - a.toNat | _ => 0, ?_, ?_⟩
 ·exact ⟨[], [], 0, 0, L.length + 1, rfl, rfl, by omega, by omega, by omega, by omega, hR, rfl, rfl⟩
 rintro vs bl ⟨ts, C, m, a, f, hC, hm, h0, h1, h2, h3, h4, rfl, rfl⟩
 obtain ⟨f, rfl⟩ : ∃ f', f = f' + 1 := ⟨f - 1, by omega⟩
 have hcl : C.length = m := by rw [hC, hm, List.length_map]
 cases hx : textO L g a with
 | none =>
  have e : R = (ts, a) := by
   rw [← h4]
   unfold scanO
   rw [hx]
   simp
  subst e
  subst hC hm
  clear hR h4
  have h := rone_no hL hx
  exact Av.W
 | some r =>
  obtain ⟨t, k1⟩ := r
  obtain ⟨hk1, _, hk2⟩ := textO_pos hx
  have hnext : (ts ++ [t] ++ (scanO L g f (a + (k1 : Int))).1, (scanO L g f (a + (k1 : Int))).2) = R := by
   rw [← h4, scanO, hx]
   simp
  have h := rone_yes hL hx
  have hWz : Av.FzF := ⟨⟩
  refine Av.Wk ?_
  refine And.intro ⟨room_s (by omega), by rw [hs1', hcl, Nat.mul_one], by rw [hs1']; rfl, one_T _⟩ ?_
  refine Av.Wk ?_
  exact ⟨⟨ts ++ [t], C ++ [T t], m + 1, a + (k1 : Int), f, by rw [hC, List.map_append]; rfl, by rw [hm, List.length_append]; rfl, by omega, by omega, by omega, by omega, hnext, rfl, rfl⟩, (by show L.length - (a + (k1 : Int)).toNat < L.length - a.toNat; omega)⟩
section
variable {t : List UInt8} {g : Nat} {at_ most : Int}
theorem chk_ok {k : Int} (h0 : 1 ≤ g) (h1 : g ≤ 1099511627776) (h2 : t ≠ []) (h3 : (bs t).size ≤ 1400) (h4 : 0 ≤ most) (h5 : most ≤ 256) (h6 : 0 ≤ at_) (h7 : at_ ≤ most) (h8 : k ≤ most - at_) (hS : SP 107 [Z (bs t).size] (Z k)) : SP 161 [T t, U g, Z at_, Z most] (Z 0) := by
 refine S_ Tryz.func161 (by kernel_rfl) rfl (Nat.le_of_ble_eq_true rfl) ?_
 show avc Tryz.prog SP _ _ _ _ _ _
 dsimp only [avc, startS, Array.toList, Tryz.f161]
 exact Av.W
end
theorem rowk_nil (s : List UInt8) (hs : s.length ≤ 65535) : SP 162 [nilA, T s] (.tup [.own 5 (Quill.rowB s).length (bytesA (Quill.rowB s)), Z 0]) :=
 sound_bytesE (l := []) (vs := [.string (bs s)]) Tryz.func162 (by kernel_rfl) rfl (fun w A n c hr => row_any A n c [] s w w.heap.size hr (by have := hr.1; simp at this; omega) hs (Nat.le_refl _)) _ (.inr ⟨rfl, rfl⟩)
section
variable {t row : List UInt8} {g : Nat} {at_ most : Int}
theorem lay_walk (k : Nat) (cs : List AV) (P S : Nat → List UInt8) (M : Nat → Nat) (C : Nat → List AV) (h0 : 0 ≤ at_) (h1 : at_ ≤ 256) (hk : k ≤ 256) (hC : SP 161 [T t, U g, Z at_, Z most] (Z 0)) (hR : SP 162 [nilA, T t] (.tup [.own 5 row.length (bytesA row), Z 0]))
  (hCut : SP 65 [T row, Z most] (.tup [.own 9 k cs, Z 0])) (hcs : ∀ i : Nat, i < k → cs[i]? = some (T (P i))) (hM : ∀ i : Nat, i < k → SP 66 [U g, Z (at_ + (i : Int))] (.tup [U (M i), Z 0]))
  (hS : ∀ i : Nat, i < k → SP 67 [U (M i), T (P i)] (.tup [T (S i), Z 0])) (hC0 : zeroL [T []] k = C 0) (hCs : ∀ i : Nat, i < k → setL (C i) i [T (S i)] = C (i + 1)) (hCl : ∀ i, i ≤ k → (C i).length = k) :
  SP 108 [T t, U g, Z at_, Z most] (.tup [.own 9 k (C k), Z 0]) := by
 refine S_ Tryz.func108 (by kernel_rfl) rfl (Nat.le_of_ble_eq_true rfl) ?_
 show avc Tryz.prog SP _ _ _ _ _ _
 dsimp only [avc, startS, Array.toList, Tryz.f108]
 repeat' ((try conv => whnf) <;> first | refine Av.Va ?_ | refine ⟨_, hC, ?_⟩ | refine ⟨_, hR, ?_⟩ | (refine ⟨row, ⟨rfl, rfl⟩, ?_⟩) | refine ⟨_, hCut, ?_⟩ | exact True.intro | refine Av.Vb ?_ | exact ⟨rfl, rfl, rfl⟩ | exact ⟨rfl, rfl⟩ | (refine Av.Vc ?_ ?_ <;> intro hBr <;> first | (exfalso; omega) | (exfalso; contradiction) | (exfalso; exact hBr rfl) | skip) | refine Av.Vd ?_ | exact rfl)
 refine And.intro ⟨by omega, by omega, room_s (by omega)⟩ ?_
 refine Av.Wk ?_
 refine ⟨[45, 44, 43, 15, 1, 2], [], fun vs bl => ∃ (i : Nat) (D : List AV), i ≤ k ∧ D = C i ∧ (vs = [Z i, Z k, .sl 0 k, .sl 1 k, U g, Z at_] ∧ bl = [⟨cs, some 9, true, true⟩, ⟨D, some 9, false, true⟩]), fun vs bl => match vs with | [.ex (.int _ i), _, _, _, _, _] => k - i.toNat | _ => 0, ?_, ?_⟩
 ·refine ⟨0, _, by omega, hC0, ?_, rfl⟩
  rfl
 rintro vs bl ⟨i, D, hi, hD, rfl, rfl⟩
 have hl := hCl i hi
 by_cases hik : i < k
 ·have hat : cs[mulS (i : Int).toNat (sizeT Tryz.prog 9)]? = some (T (P i)) := by rw [hs1', mulS_eq, Nat.mul_one, Int.toNat_natCast]; exact hcs i hik
  have hMi := hM i hik
  have hSi := hS i hik
  have hidx : mulS (i : Int).toNat (sizeT Tryz.prog 9) + 1 ≤ D.length := by rw [hD, hl, hs1', mulS_eq, Nat.mul_one, Int.toNat_natCast]; omega
  have hst : setL D (mulS (i : Int).toNat (sizeT Tryz.prog 9)) [T (S i)] = C (i + 1) := by rw [hD, hs1', mulS_eq, Nat.mul_one, Int.toNat_natCast]; exact hCs i hik
  repeat' ((try conv => whnf) <;> first | refine Av.Va ?_ | (refine ⟨_, hat, ?_⟩) | refine ⟨_, hMi, ?_⟩ | refine ⟨_, hSi, ?_⟩ | (refine And.intro hidx ?_) | exact True.intro | refine Av.Vb ?_ | exact ⟨rfl, rfl, rfl⟩ | exact ⟨rfl, rfl⟩ | (refine Av.Vc ?_ ?_ <;> intro hBr <;> first | (exfalso; omega) | (exfalso; contradiction) | (exfalso; exact hBr rfl) | skip) | refine Av.Vd ?_ | exact rfl)
  exact ⟨⟨i + 1, _, by omega, hst, rfl, rfl⟩, (by simp only [Int.toNat_natCast]; show k - ((i : Int) + 1).toNat < _; omega)⟩
 ·have hie : i = k := by omega
  subst hie
  subst hD
  repeat' ((try conv => whnf) <;> first | refine Av.Va ?_ | exact True.intro | refine Av.Vb ?_ | exact ⟨rfl, rfl, rfl⟩ | exact ⟨rfl, rfl⟩ | (refine Av.Vc ?_ ?_ <;> intro hBr <;> first | (exfalso; omega) | (exfalso; contradiction) | (exfalso; exact hBr rfl) | skip) | refine Av.Vd ?_ | exact rfl)
end
theorem rrowk_nil (s : List UInt8) (hs : s.length ≤ 65535) : SP 132 [nilA, T s] (.tup [.own 5 (Quill.rowB s).length (bytesA (Quill.rowB s)), Z 0]) :=
 sound_bytesE (l := []) (vs := [.string (bs s)]) Tryz.func132 (by kernel_rfl) rfl (fun w A n c hr => refrow_any A n c [] s w w.heap.size hr (by have := hr.1; simp at this; omega) hs (Nat.le_refl _)) _ (.inr ⟨rfl, rfl⟩)
section
variable {t row : List UInt8} {g : Nat} {at_ most : Int}
theorem rlay_walk (z : Int) (k : Nat) (cs : List AV) (P S : Nat → List UInt8) (M : Nat → Nat) (C : Nat → List AV) (h0 : 1 ≤ g) (h1 : g ≤ 1099511627776) (h2 : t ≠ []) (h3 : (bs t).size ≤ 1400) (h4 : 0 ≤ most) (h5 : most ≤ 256) (h6 : 0 ≤ at_) (h7 : at_ ≤ most) (h8 : z ≤ most - at_) (hSz : SP 112 [Z (bs t).size] (Z z)) (hk : k ≤ 256) (hR : SP 132 [nilA, T t] (.tup [.own 5 row.length (bytesA row), Z 0]))
  (hCut : SP 70 [T row, Z 256] (.tup [.own 9 k cs, Z 0])) (hcs : ∀ i : Nat, i < k → cs[i]? = some (T (P i))) (hM : ∀ i : Nat, i < k → SP 71 [U g, Z (at_ + (i : Int))] (.tup [U (M i), Z 0]))
  (hS : ∀ i : Nat, i < k → SP 72 [U (M i), T (P i)] (.tup [T (S i), Z 0])) (hC0 : [] = C 0) (hCs : ∀ i : Nat, i < k → C i ++ [T (S i)] = C (i + 1)) (hCl : ∀ i, i ≤ k → (C i).length = i) :
  SP 113 [T t, U g, Z at_, Z most] (.tup [.own 9 k (C k), Z 0]) := by
 refine S_ Tryz.func113 (by kernel_rfl) rfl (Nat.le_of_ble_eq_true rfl) ?_
 show avc Tryz.prog SP _ _ _ _ _ _
 dsimp only [avc, startS, Array.toList, Tryz.f113]
 repeat' ((try conv => whnf) <;> first | refine Av.Va ?_ | refine ⟨_, hSz, ?_⟩ | refine ⟨_, hR, ?_⟩ | (refine ⟨row, ⟨rfl, rfl⟩, ?_⟩) | refine ⟨_, hCut, ?_⟩ | exact True.intro | refine Av.Vb ?_ | exact ⟨rfl, rfl, rfl⟩ | exact ⟨rfl, rfl⟩ | (refine Av.Vc ?_ ?_ <;> intro hBr <;> first | (exfalso; omega) | (exfalso; contradiction) | (exfalso; exact hBr rfl) | skip) | refine Av.Vd ?_ | exact rfl)
 refine ⟨[15, 12, 14, 1, 2], [(14, some 9)], fun vs bl => ∃ (i : Nat) (D : List AV), i ≤ k ∧ D = C i ∧ (vs = [Z i, .sl 0 k, .sl 1 i, U g, Z at_] ∧ bl = [⟨cs, some 9, true, true⟩, ⟨D, some 9, false, true⟩]), fun vs bl => match vs with | [.ex (.int _ i), _, _, _, _] => k - i.toNat | _ => 0, ?_, ?_⟩
 ·refine ⟨0, _, by omega, hC0, ?_, rfl⟩
  rfl
 rintro vs bl ⟨i, D, hi, hD, rfl, rfl⟩
 have hl := hCl i hi
 by_cases hik : i < k
 ·have hat : cs[mulS (i : Int).toNat (sizeT Tryz.prog 9)]? = some (T (P i)) := by rw [hs1', mulS_eq, Nat.mul_one, Int.toNat_natCast]; exact hcs i hik
  have hMi := hM i hik
  have hSi := hS i hik
  have hdl : D.length = i := by rw [hD]; exact hl
  have hst : D ++ [T (S i)] = C (i + 1) := by rw [hD]; exact hCs i hik
  have hWz : Av.FzF := ⟨⟩
  refine Av.Wk ?_
  refine And.intro ⟨room_s (by omega), by rw [hs1', hdl, Nat.mul_one], by rw [hs1']; rfl, one_T _⟩ ?_
  refine Av.Wk ?_
  exact ⟨⟨i + 1, _, by omega, hst, rfl, rfl⟩, (by simp only [Int.toNat_natCast]; show k - ((i : Int) + 1).toNat < _; omega)⟩
 ·have hie : i = k := by omega
  subst hie
  subst hD
  exact Av.W
end
end Go.Proofs.YtbaedepmogkkeaaGreat.Av
namespace Go.Proofs.YtbaedepmogkkeaaGreat.Av
open Go Go.RowKit
set_option linter.unusedVariables false
set_option linter.unusedSimpArgs false
set_option maxRecDepth 100000
def secT (t : List UInt8) (g : Nat) (at_ : Int) (i : Nat) : List UInt8 := sec (mkT g (at_ + (i : Int))) (pc (Quill.rowB t) i)
def layT (t : List UInt8) (g : Nat) (at_ : Int) : List (List UInt8) := (List.range (npc (Quill.rowB t))).map (secT t g at_)
def OkL (t : List UInt8) (g : Nat) (at_ most : Int) : Prop := 1 ≤ g ∧ g ≤ 1099511627776 ∧ t ≠ [] ∧ t.length ≤ 1400 ∧ 0 ≤ most ∧ most ≤ 256 ∧ 0 ≤ at_ ∧ at_ ≤ most ∧ (szT t.length : Int) ≤ most - at_
theorem rowB_len (t : List UInt8) : (Quill.rowB t).length = t.length + 2 := by unfold Quill.rowB; rw [List.length_append, Quill.numB_length]; omega
theorem npc_row {t : List UInt8} (h : t ≠ []) (h2 : t.length ≤ 1400) : npc (Quill.rowB t) = szT t.length := by
 have : 0 < t.length := List.length_pos_iff.2 h
 unfold npc szT
 rw [rowB_len, if_neg (by omega)]
theorem zeroL_rep (v : AV) : ∀ n, zeroL [v] n = List.replicate n v
 | 0 => rfl
 | n + 1 => by rw [zeroL, zeroL_rep v n]; rfl
theorem pc48T (t : List UInt8) (i : Nat) : (pc t i).length ≤ 48 := by unfold pc; rw [List.length_take]; omega
section
variable {t : List UInt8} {g : Nat} {at_ most : Int}
theorem okM_at (h : OkL t g at_ most) {i : Nat} (hi : i < npc (Quill.rowB t)) : OkM g (at_ + (i : Int)) := by
 obtain ⟨h1, h2, h3, h4, h5, h6, h7, h8, h9⟩ := h
 have := npc_row h3 h4
 unfold OkM; omega
theorem tlay_yes (h : OkL t g at_ most) : SP 108 [T t, U g, Z at_, Z most] (.tup [.own 9 (npc (Quill.rowB t)) ((layT t g at_).map T), Z 0]) := by
 obtain ⟨h1, h2, h3, h4, h5, h6, h7, h8, h9⟩ := id h
 have hk := npc_row h3 h4
 have hl := rowB_len t
 have hS := tpsize_ok t.length
 rw [← bs_size] at hS
 have hb := bs_size t
 have hlt : ∀ i : Nat, i < npc (Quill.rowB t) → mkT g (at_ + (i : Int)) ≠ 0 ∧ mkT g (at_ + (i : Int)) < 18446744073709551616 := fun i hi => by
  have : 1 ≤ g ∧ g ≤ 1099511627776 ∧ 0 ≤ at_ + (i : Int) ∧ at_ + (i : Int) < 1048575 := okM_at h hi
  unfold mkT; omega
 have := lay_walk (npc (Quill.rowB t)) (pcs (Quill.rowB t) (npc (Quill.rowB t))) (pc (Quill.rowB t)) (secT t g at_) (fun i => mkT g (at_ + (i : Int))) (fun i => (List.range (npc (Quill.rowB t))).map fun j => if j < i then T (secT t g at_ j) else T [])
  h7 (by omega) (by omega) (chk_ok h1 h2 h3 (by omega) h5 h6 h7 h8 (by rw [bs_size]; exact h9) hS) (rowk_nil t (by omega)) (cut_yes (Quill.rowB t) most (by omega) (by omega)) (fun i hi => by simp [pcs, hi]) (fun i hi => mark_mkT (okM_at h hi))
  (fun i hi => seal_yes _ _ (hlt i hi).1 (hlt i hi).2 (pc48T _ _)) (by rw [zeroL_rep]; apply List.ext_getElem? ; intro j; by_cases hj : j < npc (Quill.rowB t) <;> simp [List.getElem?_replicate, hj])
  (fun i hi => by
   show List.set _ i _ = _
   apply List.ext_getElem?
   intro j
   rw [List.getElem?_set]
   by_cases hj : j < npc (Quill.rowB t)
   ·by_cases e : i = j
    ·subst e; simp [hj]
    ·have e2 : (j < i + 1) = (j < i) := by apply propext; omega
     simp [hj, e, e2]
   ·by_cases e : i = j
    ·omega
    ·simp [hj, e])
  (fun i hi => by simp)
 have e : (List.range (npc (Quill.rowB t))).map (fun j => if j < npc (Quill.rowB t) then T (secT t g at_ j) else T []) = (layT t g at_).map T := by
  unfold layT
  rw [List.map_map]
  apply List.map_congr_left
  intro j hj
  rw [List.mem_range] at hj
  simp [hj]
 simp only [e] at this
 exact this
theorem rlay_yes (h : OkL t g at_ most) : SP 113 [T t, U g, Z at_, Z most] (.tup [.own 9 (npc (Quill.rowB t)) ((layT t g at_).map T), Z 0]) := by
 obtain ⟨h1, h2, h3, h4, h5, h6, h7, h8, h9⟩ := id h
 have hk := npc_row h3 h4
 have hl := rowB_len t
 have hS := rtpsize_ok t.length
 rw [← bs_size] at hS
 have hb := bs_size t
 have hlt : ∀ i : Nat, i < npc (Quill.rowB t) → mkT g (at_ + (i : Int)) ≠ 0 ∧ mkT g (at_ + (i : Int)) < 18446744073709551616 := fun i hi => by
  have : 1 ≤ g ∧ g ≤ 1099511627776 ∧ 0 ≤ at_ + (i : Int) ∧ at_ + (i : Int) < 1048575 := okM_at h hi
  unfold mkT; omega
 have := rlay_walk (szT (bs t).size) (npc (Quill.rowB t)) (pcs (Quill.rowB t) (npc (Quill.rowB t))) (pc (Quill.rowB t)) (secT t g at_) (fun i => mkT g (at_ + (i : Int))) (fun i => (List.range i).map fun j => T (secT t g at_ j))
  h1 h2 h3 (by omega) h5 h6 h7 h8 (by rw [bs_size]; exact h9) hS (by omega) (rrowk_nil t (by omega)) (rcut_yes (Quill.rowB t) 256 (by omega) (by omega)) (fun i hi => by simp [pcs, hi]) (fun i hi => rmark_mkT (okM_at h hi))
  (fun i hi => rseal_yes _ _ (hlt i hi).1 (hlt i hi).2 (pc48T _ _)) rfl (fun i hi => by simp [List.range_succ]) (fun i hi => by simp)
 have e : (List.range (npc (Quill.rowB t))).map (fun j => T (secT t g at_ j)) = (layT t g at_).map T := by
  unfold layT; rw [List.map_map]; rfl
 simp only [e] at this
 exact this
end
theorem mkT_inj {g g' : Nat} {a a' : Int} (h : OkM g a) (h' : OkM g' a') (e : mkT g a = mkT g' a') : g = g' ∧ a = a' := by
 have k : 1 ≤ g ∧ g ≤ 1099511627776 ∧ 0 ≤ a ∧ a < 1048575 := h
 have k' : 1 ≤ g' ∧ g' ≤ 1099511627776 ∧ 0 ≤ a' ∧ a' < 1048575 := h'
 unfold mkT at e
 omega
theorem opn_secT {t : List UInt8} {g : Nat} {at_ : Int} {i : Nat} (h : OkM g (at_ + (i : Int))) : opn (secT t g at_ i) = (mkT g (at_ + (i : Int)), padR (pc (Quill.rowB t) i), 0) := by
 have k : 1 ≤ g ∧ g ≤ 1099511627776 ∧ 0 ≤ at_ + (i : Int) ∧ at_ + (i : Int) < 1048575 := h
 exact sec_opn (by unfold mkT; omega) (by unfold mkT; omega) (pc48T _ _)
theorem payO_sec {L : List (List UInt8)} {t : List UInt8} {g : Nat} {at_ : Int} {i : Nat} (h : OkM g (at_ + (i : Int))) (hs : L[(at_ + (i : Int)).toNat]? = some (secT t g at_ i)) : payO L g (at_ + (i : Int)) = some (padR (pc (Quill.rowB t) i)) := by
 have k : 1 ≤ g ∧ g ≤ 1099511627776 ∧ 0 ≤ at_ + (i : Int) ∧ at_ + (i : Int) < 1048575 := h
 unfold payO
 rw [hs]
 simp only
 rw [opn_secT h, if_pos ⟨k.2.2.1, h, rfl, rfl⟩]
theorem paysO_laid {L : List (List UInt8)} {t : List UInt8} {g : Nat} {at_ : Int} (k : Nat) (h : ∀ i : Nat, i < k → OkM g (at_ + (i : Int)) ∧ L[(at_ + (i : Int)).toNat]? = some (secT t g at_ i)) : paysO L g at_ k = (List.range k).map fun i => padR (pc (Quill.rowB t) i) := by
 have hle := paysO_len L g k at_
 have hlen : (paysO L g at_ k).length = k := by
  apply Classical.byContradiction
  intro hn
  have hlt : (paysO L g at_ k).length < k := by omega
  have h1 := paysO_end L g k at_ hlt
  have h2 := h _ hlt
  rw [payO_sec h2.1 h2.2] at h1
  cases h1
 apply List.ext_getElem?
 intro i
 by_cases hi : i < k
 ·have h1 := paysO_at L g k at_ i (by omega)
  have h2 := h i hi
  rw [payO_sec h2.1 h2.2] at h1
  rw [← h1]
  simp [hi]
 ·rw [List.getElem?_eq_none (by omega), List.getElem?_eq_none (by simp; omega)]
theorem textO_laid {L : List (List UInt8)} {t : List UInt8} {g : Nat} {at_ : Int} (h0 : t ≠ []) (h1 : t.length ≤ 1400) (h : ∀ i : Nat, i < szT t.length → OkM g (at_ + (i : Int)) ∧ L[(at_ + (i : Int)).toNat]? = some (secT t g at_ i)) : textO L g at_ = some (t, szT t.length) := by
 have hk := npc_row h0 h1
 have hl := rowB_len t
 have hpos : 0 < t.length := List.length_pos_iff.2 h0
 have hsz : szT t.length = (t.length + 2 + 47) / 48 := by unfold szT; rw [if_neg (by omega)]
 have hp := paysO_laid (szT t.length) h
 have h2 := h 0 (by omega)
 have hp0 := payO_sec h2.1 h2.2
 rw [Int.natCast_zero, Int.add_zero] at hp0
 have hpc : (pc (Quill.rowB t) 0).length = min 48 (t.length + 2) := by unfold pc; rw [List.length_take, List.length_drop, hl]; omega
 have htell : Quill.tell ((padR (pc (Quill.rowB t) 0)).take 2) = t.length := by
  rw [pad_first (by omega)]
  unfold pc
  rw [List.take_take, Nat.mul_zero, List.drop_zero, show min 2 48 = 2 from rfl]
  unfold Quill.rowB
  rw [List.take_left' (Quill.numB_length 2 t.length), Quill.tell_numB]
  omega
 unfold textO
 rw [hp0]
 simp only
 rw [htell, if_neg (by omega), hp, if_neg (by simp)]
 congr 2
 have hf := pads_flat (Quill.rowB t) (szT t.length)
 rw [show min (48 * szT t.length) (Quill.rowB t).length = t.length + 2 by omega, List.take_of_length_le (l := Quill.rowB t) (by omega)] at hf
 have e : ∀ (X : List UInt8), (X.drop 2).take t.length = (X.take (t.length + 2)).drop 2 := fun X => by rw [List.drop_take]; congr 1
 rw [e, hf]
 unfold Quill.rowB
 rw [List.drop_left' (Quill.numB_length 2 t.length)]
def GoodL (l : List (List UInt8)) : Prop := ∀ t ∈ l, t ≠ [] ∧ t.length ≤ 1400
def lenL : List (List UInt8) → Nat
 | [] => 0
 | t :: l => szT t.length + lenL l
def laidL (g : Nat) : Nat → List (List UInt8) → List (List UInt8)
 | _, [] => []
 | a, t :: l => layT t g (a : Int) ++ laidL g (a + szT t.length) l
theorem GoodL.tail {t : List UInt8} {l : List (List UInt8)} (h : GoodL (t :: l)) : GoodL l := fun x hx => h x (List.mem_cons_of_mem _ hx)
theorem szT_good {t : List UInt8} (h : t ≠ [] ∧ t.length ≤ 1400) : szT t.length = (t.length + 49) / 48 ∧ 1 ≤ szT t.length ∧ szT t.length ≤ 30 := by
 have hpos : 0 < t.length := List.length_pos_iff.2 h.1
 unfold szT
 rw [if_neg (by omega)]
 omega
theorem layT_len {t : List UInt8} {g : Nat} {a : Int} (h : t ≠ [] ∧ t.length ≤ 1400) : (layT t g a).length = szT t.length := by
 unfold layT
 rw [List.length_map, List.length_range, npc_row h.1 (by omega)]
theorem layT_at {t : List UInt8} {g : Nat} {a : Int} (h : t ≠ [] ∧ t.length ≤ 1400) {i : Nat} (hi : i < szT t.length) : (layT t g a)[i]? = some (secT t g a i) := by
 unfold layT
 rw [npc_row h.1 (by omega)]
 simp [hi]
theorem lenL_app (l m : List (List UInt8)) : lenL (l ++ m) = lenL l + lenL m := by
 induction l with
 | nil => simp [lenL]
 | cons t l ih => simp only [List.cons_append, lenL, ih]; omega
theorem laidL_app (g : Nat) (l m : List (List UInt8)) : ∀ a, laidL g a (l ++ m) = laidL g a l ++ laidL g (a + lenL l) m := by
 induction l with
 | nil => intro a; simp [laidL, lenL]
 | cons t l ih => intro a; simp only [List.cons_append, laidL, lenL, ih, List.append_assoc]; rw [Nat.add_assoc]
theorem laidL_len (g : Nat) {l : List (List UInt8)} (h : GoodL l) : ∀ a, (laidL g a l).length = lenL l := by
 induction l with
 | nil => intro a; rfl
 | cons t l ih => intro a; simp only [laidL, lenL, List.length_append]; rw [layT_len (h t (by simp)), ih h.tail]
theorem lenL_le {l : List (List UInt8)} (h : GoodL l) : l.length ≤ lenL l ∧ lenL l ≤ 30 * l.length := by
 induction l with
 | nil => simp [lenL]
 | cons t l ih =>
  have := ih h.tail
  have := szT_good (h t (by simp))
  simp only [lenL, List.length_cons]; omega
theorem tell_first {t : List UInt8} (h : t ≠ [] ∧ t.length ≤ 1400) : Quill.tell ((padR (pc (Quill.rowB t) 0)).take 2) = t.length := by
 have hl := rowB_len t
 have hpc : (pc (Quill.rowB t) 0).length = min 48 (t.length + 2) := by unfold pc; rw [List.length_take, List.length_drop, hl]; omega
 rw [pad_first (by omega)]
 unfold pc
 rw [List.take_take, Nat.mul_zero, List.drop_zero, show min 2 48 = 2 from rfl]
 unfold Quill.rowB
 rw [List.take_left' (Quill.numB_length 2 t.length), Quill.tell_numB]
 omega
theorem textO_broken {M : List (List UInt8)} {t : List UInt8} {g a i0 : Nat} (ht : t ≠ [] ∧ t.length ≤ 1400) (h : ∀ i, i < szT t.length → OkM g ((a : Int) + (i : Int))) (hi0 : i0 < szT t.length) (hs : ∀ i, i < i0 → M[a + i]? = some (secT t g (a : Int) i)) (hn : payO M g ((a : Int) + (i0 : Int)) = none) : textO M g (a : Int) = none := by
 by_cases h0 : i0 = 0
 ·subst h0
  rw [Int.natCast_zero, Int.add_zero] at hn
  unfold textO; rw [hn]
 ·have hp := payO_sec (L := M) (h 0 (by omega)) (by rw [show ((a : Int) + ((0 : Nat) : Int)).toNat = a + 0 by omega]; exact hs 0 (by omega))
  rw [Int.natCast_zero, Int.add_zero] at hp
  unfold textO
  rw [hp]
  simp only
  rw [tell_first ht, if_neg (by omega), if_pos]
  have hle := paysO_len M g (szT t.length) (a : Int)
  apply Classical.byContradiction
  intro hc
  have := paysO_at M g (szT t.length) (a : Int) i0 (by omega)
  rw [hn, List.getElem?_eq_getElem (by omega)] at this
  cases this
theorem scanO_laid {M : List (List UInt8)} {g : Nat} (hg : 1 ≤ g ∧ g ≤ 1099511627776) : ∀ (l : List (List UInt8)) (a f : Nat), GoodL l → a + lenL l ≤ 1000000 → (∀ i, i < lenL l → M[a + i]? = (laidL g a l)[i]?) → textO M g ((a + lenL l : Nat) : Int) = none → l.length < f → scanO M g f (a : Int) = (l, ((a + lenL l : Nat) : Int))
 | [], a, f, _, _, _, hn, hf => by
  obtain ⟨f, rfl⟩ : ∃ f', f = f' + 1 := ⟨f - 1, by omega⟩
  simp only [lenL, Nat.add_zero] at hn ⊢
  unfold scanO; rw [hn]
 | t :: l, a, f, hgd, hle, hs, hn, hf => by
  obtain ⟨f, rfl⟩ : ∃ f', f = f' + 1 := ⟨f - 1, by omega⟩
  have ht := hgd t (by simp)
  have hsz := szT_good ht
  have hl := layT_len (g := g) (a := (a : Int)) ht
  simp only [lenL] at hle hs hn
  have h1 : textO M g (a : Int) = some (t, szT t.length) := by
   refine textO_laid ht.1 (by omega) fun i hi => ⟨by unfold OkM; omega, ?_⟩
   rw [show ((a : Int) + (i : Int)).toNat = a + i by omega, hs i (by omega)]
   simp only [laidL]
   rw [List.getElem?_append_left (by omega), layT_at ht hi]
  have ih := scanO_laid (M := M) hg l (a + szT t.length) f hgd.tail (by omega) (fun i hi => by
   have := hs (szT t.length + i) (by omega)
   simp only [laidL] at this
   rw [List.getElem?_append_right (by omega), hl, Nat.add_sub_cancel_left] at this
   rw [Nat.add_assoc]; exact this) (by rw [Nat.add_assoc]; exact hn) (by simpa using hf)
  unfold scanO
  rw [h1]
  simp only
  rw [show (a : Int) + ((szT t.length : Nat) : Int) = ((a + szT t.length : Nat) : Int) by omega, ih]
  simp only [lenL, Nat.add_assoc]
theorem okM_of {g a : Nat} (hg : 1 ≤ g ∧ g ≤ 1099511627776) (h : a ≤ 1000000) : OkM g (a : Int) := by unfold OkM; omega
theorem secT_ends {t : List UInt8} {g a i : Nat} (h : OkM g ((a + i : Nat) : Int)) : (secT t g (a : Int) i).length = 64 ∧ hdM (secT t g (a : Int) i) = mkT g ((a + i : Nat) : Int) ∧ tlM (secT t g (a : Int) i) = mkT g ((a + i : Nat) : Int) ∧ mkT g ((a + i : Nat) : Int) ≠ 0 := by
 have k : 1 ≤ g ∧ g ≤ 1099511627776 ∧ 0 ≤ ((a + i : Nat) : Int) ∧ ((a + i : Nat) : Int) < 1048575 := h
 unfold secT
 rw [← Int.natCast_add]
 exact ⟨sec_len _ _ (pc48T _ _), hd_sec _ (by unfold mkT; omega), tl_sec _ (by unfold mkT; omega) (pc48T _ _), by unfold mkT; omega⟩
end Go.Proofs.YtbaedepmogkkeaaGreat.Av
