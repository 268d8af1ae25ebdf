/- What the claim stands on, Su34: contracts of functions and plain facts. No conditions. -/
import Derived.Test.YtbaedepmogkkeaaGreatSu30
import Derived.Test.YtbaedepmogkkeaaGreatSu22
import Derived.Test.YtbaedepmogkkeaaGreatSu26
import Derived.Test.YtbaedepmogkkeaaGreatSu32
import Derived.Test.YtbaedepmogkkeaaGreatSu27
namespace Go.Proofs.YtbaedepmogkkeaaGreat.Av
open Go Go.RowKit Tre
set_option linter.unusedVariables false
set_option linter.unusedSimpArgs false
set_option maxRecDepth 100000
set_option maxHeartbeats 4000000
structure Dk where
 q : Pd
 L : List Key
 P : List Wr
 w : Int
def Dk.do1 (d : Dk) (x : Dd) : Dk := if x.sync = true then ⟨.nil, d.L, [], d.w⟩ else ⟨d.q.next, d.L.set x.pl x.text, d.P ++ [(x.pl, x.text, (d.L[x.pl]?).getD [])], d.w + 1⟩
def Dk.run (d : Dk) (l : List Dd) : Dk := l.foldl Dk.do1 d
theorem Dk.run_take (d : Dk) (l : List Dd) {i : Nat} (h : i < l.length) : d.run (l.take (i + 1)) = (d.run (l.take i)).do1 l[i] := by
 unfold Dk.run
 rw [List.take_add_one, List.getElem?_eq_getElem h, List.foldl_append]; rfl
def DdOk (n : Nat) (l : List Dd) : Prop := ∀ x ∈ l, x.sync = true ∨ x.pl < n ∧ x.text.length = 64
def Pd.isSh : Pd → Bool
 | .sh => true
 | _ => false
theorem Dk.do1_len (d : Dk) (x : Dd) : (d.do1 x).L.length = d.L.length := by unfold Dk.do1; split <;> simp
theorem Dk.run_app (d : Dk) (l m : List Dd) : d.run (l ++ m) = (d.run l).run m := List.foldl_append
theorem Dk.run_len : ∀ (l : List Dd) (d : Dk), (d.run l).L.length = d.L.length
 | [], d => rfl
 | x :: l, d => by show ((d.do1 x).run l).L.length = _; rw [Dk.run_len l, Dk.do1_len]
structure Dk.Ok (d : Dk) (m : Nat) : Prop where
 sh : d.q.isSh = false
 pd : PdOk d.q d.P
 few : d.P.length ≤ m
 w0 : 0 ≤ d.w
theorem Dk.Ok.do1 {d : Dk} {m : Nat} (h : d.Ok m) (x : Dd) : (d.do1 x).Ok (m + 1) := by
 obtain ⟨h1, h2, h3, h4⟩ := h
 unfold Dk.do1
 split
 ·exact ⟨rfl, rfl, Nat.zero_le _, h4⟩
 ·refine ⟨?_, ?_, ?_, by simp only; omega⟩
  ·cases hq : d.q <;> rw [hq] at h1 <;> first | rfl | exact absurd h1 (by decide)
  ·cases hq : d.q <;> exact trivial
  ·simp only [List.length_append, List.length_cons, List.length_nil]; omega
theorem Dk.Ok.run {m : Nat} : ∀ (l : List Dd) {d : Dk}, d.Ok m → (d.run l).Ok (m + l.length)
 | [], d, h => h
 | x :: l, d, h => by
  have := Dk.Ok.run l (h.do1 x)
  rw [show m + 1 + l.length = m + (x :: l).length by simp; omega] at this
  exact this
theorem Dk.run_w : ∀ (l : List Dd) (d : Dk), d.w ≤ (d.run l).w ∧ (d.run l).w ≤ d.w + l.length
 | [], d => ⟨Int.le_refl _, by simp [Dk.run]⟩
 | x :: l, d => by
  have h := Dk.run_w l (d.do1 x)
  have e : d.run (x :: l) = (d.do1 x).run l := rfl
  have h2 : d.w ≤ (d.do1 x).w ∧ (d.do1 x).w ≤ d.w + 1 := by unfold Dk.do1; split <;> simp only <;> omega
  rw [e, List.length_cons]
  omega
theorem ddAt {l : List Dd} {i : Nat} (h : i < l.length) : ∀ j v, ([B l[i].sync, Z l[i].pl, T l[i].text] : List AV)[j]? = some v → (ddC l)[i * 3 + j]? = some v := by
 induction l generalizing i with
 | nil => simp at h
 | cons o l ih =>
  intro j v hv
  cases i with
  | zero =>
   simp only [List.getElem_cons_zero, Nat.zero_mul, Nat.zero_add] at hv ⊢
   show ([B o.sync, Z o.pl, T o.text] ++ ddC l)[j]? = _
   rw [List.getElem?_append_left]
   ·exact hv
   ·apply Classical.byContradiction
    intro hn
    rw [List.getElem?_eq_none (by omega)] at hv; cases hv
  | succ i =>
   simp only [List.getElem_cons_succ] at hv
   have := ih (i := i) (by simpa using h) j v hv
   show ([B o.sync, Z o.pl, T o.text] ++ ddC l)[(i + 1) * 3 + j]? = _
   rw [List.getElem?_append_right (by simp only [List.length_cons, List.length_nil]; omega)]
   rw [← this]; congr 1; simp only [List.length_cons, List.length_nil]; omega
theorem ddW {l : List Dd} {i : Nat} (h : i < l.length) : ([B l[i].sync, Z l[i].pl, T l[i].text] : List AV).length = sizeT Tryz.prog 174 ∧ ∀ j v, ([B l[i].sync, Z l[i].pl, T l[i].text] : List AV)[j]? = some v → (ddC l)[mulS (i : Int).toNat (sizeT Tryz.prog 174) + j]? = some v := by
 rw [hsD, mulS_eq, Int.toNat_natCast]; exact ⟨rfl, ddAt h⟩
def dskR (q : Pd) (L : List Key) (P : List Wr) (w : Int) (b : ABlk) : List ABlk := [headN 2 L.length (pdV q 3 P) w, b, secB L] ++ pdB q P
def dskS (q : Pd) (L : List Key) (P : List Wr) (w : Int) (b : ABlk) : List ABlk := [b, headN 2 L.length (pdV q 3 P) w, secB L] ++ pdB q P
theorem perform_ok (d : Dk) (D : List Dd) (fz : Bool) (m : Nat) (hd : d.Ok m) (hD : DdOk d.L.length D) (hm : m + D.length ≤ 999) (hw : d.w + D.length ≤ 1000000) :
  SM 58 [.ptr 0 0, .sl 1 D.length] (dskR d.q d.L d.P d.w (ddB D fz)) [.ptr 0 0] (Z 0) (dsk (d.run D).q (d.run D).L (d.run D).P (d.run D).w) := by
 obtain ⟨R, hR⟩ : ∃ R : Nat → Dk, R = fun i => d.run (D.take i) := ⟨_, rfl⟩
 have hst : ∀ i (h : i < D.length), R (i + 1) = (R i).do1 D[i] := fun i h => by rw [hR]; exact Dk.run_take d D h
 have hok : ∀ i, (R i).Ok (m + D.length) := fun i => by
  rw [hR]
  show (d.run (D.take i)).Ok _
  have h := Dk.Ok.run (D.take i) hd
  obtain ⟨a, b, c, e⟩ := h
  exact ⟨a, b, by rw [List.length_take] at c; omega, e⟩
 have hln : ∀ i, (R i).L.length = d.L.length := fun i => by rw [hR]; exact Dk.run_len _ _
 have hwb : ∀ i, (R i).w ≤ 1000000 := fun i => by
  rw [hR]
  show (d.run (D.take i)).w ≤ _
  have := (Dk.run_w (D.take i) d).2
  rw [List.length_take] at this; omega
 have hfin : R D.length = d.run D := by rw [hR]; show d.run (D.take D.length) = _; rw [List.take_length]
 have h0 : d = R 0 := by rw [hR]; rfl
 rw [← hfin]
 clear hR hfin
 have hq0 := hd.sh
 obtain ⟨q, L, P, w⟩ := d
 cases q with
 | sh => exact absurd (show Pd.isSh .sh = false from hq0) (by decide)
 | _ =>
  refine SM_ Tryz.func58 (by kernel_rfl) rfl (Nat.le_of_ble_eq_true rfl) (Nat.le_succ 1) ?_
  show avc Tryz.prog SP _ _ _ _ _ _
  dsimp only [avc, startS, Array.toList, Tryz.f58]
  repeat' ((try conv => whnf) <;> first | refine Av.Va ?_ | exact True.intro | refine Av.Vb ?_ | exact ⟨rfl, rfl, rfl⟩ | exact ⟨rfl, rfl⟩ | (refine Av.Vc ?_ ?_ <;> intro hBr <;> first | (exfalso; omega) | (exfalso; contradiction) | (exfalso; exact hBr rfl) | skip) | refine Av.Vd ?_ | exact rfl)
  refine ⟨[10, 9, 8, 0], [], fun vs bl => ∃ (i : Nat) (q2 : Pd) (L2 : List Key) (P2 : List Wr) (w2 : Int), i ≤ D.length ∧ (⟨q2, L2, P2, w2⟩ : Dk) = R i ∧ (vs = [Z i, Z D.length, .sl 0 D.length, .ptr 1 0] ∧ bl = dskS q2 L2 P2 w2 (ddB D fz)), muI D.length, ?_, ?_⟩
  ·exact ⟨0, _, _, _, _, by omega, h0, rfl, rfl⟩
  rintro vs bl ⟨i, q2, L2, P2, w2, hi, he, rfl, rfl⟩
  have hok := hok i
  have hln := hln i
  have hwb := hwb i
  have hok : (R i).Ok 999 := ⟨hok.sh, hok.pd, by have := hok.few; omega, hok.w0⟩
  rw [← he] at hok hln hwb
  by_cases hlt : i < D.length
  ·have hst := hst i hlt
   rw [← he] at hst
   have hat := ddW hlt
   have hx := hD _ (List.getElem_mem hlt)
   have hdec : muI D.length [Z ((i : Int) + 1)] [] < muI D.length [Z i] [] := by show D.length - ((i : Int) + 1).toNat < D.length - (i : Int).toNat; omega
   generalize D[i] = y at hst hat hx
   obtain ⟨b, pl, x⟩ := y
   simp only at hat hx
   clear he hD h0 hw hd
   obtain ⟨k1, k2, k3, k4⟩ := hok
   simp only at k1 k2 k3 k4 hwb hln
   cases b with
   | true =>
    have c := dsync_ok q2 L2 P2 w2
    have e1 : Dk.do1 ⟨q2, L2, P2, w2⟩ ⟨true, pl, x⟩ = ⟨.nil, L2, [], w2⟩ := rfl
    rw [e1] at hst
    clear e1
    cases q2 with
    | sh => exact absurd (show Pd.isSh .sh = false from k1) (by decide)
    | _ =>
     repeat' ((try conv => whnf) <;> first | refine Av.Va ?_ | (refine ⟨_, hat, ?_⟩) | refine ⟨_, _, _, c, ?_⟩ | exact True.intro | refine Av.Vb ?_ | exact ⟨rfl, rfl, rfl⟩ | exact ⟨rfl, rfl⟩ | (refine Av.Vc ?_ ?_ <;> intro hBr <;> first | (exfalso; omega) | (exfalso; contradiction) | (exfalso; exact hBr rfl) | skip) | refine Av.Vd ?_ | exact rfl)
     exact ⟨⟨i + 1, _, _, _, _, by omega, hst.symm, rfl, rfl⟩, hdec⟩
   | false =>
    obtain ⟨x1, x2⟩ : pl < L2.length ∧ x.length = 64 := by
     rcases hx with h | h
     ·cases h
     ·rw [hln]; exact h
    have c := dwrite_yes q2 L2 P2 w2 (i := pl) x x1 x2 k2 (by omega) k4 hwb
    have e1 : Dk.do1 ⟨q2, L2, P2, w2⟩ ⟨false, pl, x⟩ = ⟨q2.next, L2.set pl x, P2 ++ [(pl, x, L2[pl])], w2 + 1⟩ := by
     show (⟨_, _, _ ++ [(pl, x, (L2[pl]?).getD [])], _⟩ : Dk) = _
     rw [List.getElem?_eq_getElem x1]; rfl
    rw [e1] at hst
    clear e1
    generalize L2.set pl x = L3 at *
    generalize P2 ++ [(pl, x, L2[pl])] = P3 at *
    cases q2 with
    | sh => exact absurd (show Pd.isSh .sh = false from k1) (by decide)
    | _ =>
     repeat' ((try conv => whnf) <;> first | refine Av.Va ?_ | (refine ⟨_, hat, ?_⟩) | refine ⟨_, _, _, c, ?_⟩ | exact True.intro | refine Av.Vb ?_ | exact ⟨rfl, rfl, rfl⟩ | exact ⟨rfl, rfl⟩ | (refine Av.Vc ?_ ?_ <;> intro hBr <;> first | (exfalso; omega) | (exfalso; contradiction) | (exfalso; exact hBr rfl) | skip) | refine Av.Vd ?_ | exact rfl)
     exact ⟨⟨i + 1, _, _, _, _, by omega, hst.symm, rfl, rfl⟩, hdec⟩
  ·obtain rfl : i = D.length := by omega
   have k1 : q2.isSh = false := by
    have h := hok.sh
    first | exact h | (rw [← he] at h; exact h)
   rw [← he]
   clear he hok hln hwb hst h0 hd hD
   cases q2 with
   | sh => exact absurd (show Pd.isSh .sh = false from k1) (by decide)
   | _ =>
    repeat' ((try conv => whnf) <;> first | refine Av.Va ?_ | exact True.intro | refine Av.Vb ?_ | exact ⟨rfl, rfl, rfl⟩ | exact ⟨rfl, rfl⟩ | (refine Av.Vc ?_ ?_ <;> intro hBr <;> first | (exfalso; omega) | (exfalso; contradiction) | (exfalso; exact hBr rfl) | skip) | refine Av.Vd ?_ | exact rfl)
theorem perform_vs (d : Dk) (D : List Dd) (m : Nat) (hd : d.Ok m) (hD : DdOk d.L.length D) (hm : m + D.length ≤ 999) (hw : d.w + D.length ≤ 1000000) :
  SM 58 [.ptr 0 0, .vs D.length (ddC D)] (dsk d.q d.L d.P d.w) [.ptr 0 0] (Z 0) (dsk (d.run D).q (d.run D).L (d.run D).P (d.run D).w) := by
 obtain ⟨R, hR⟩ : ∃ R : Nat → Dk, R = fun i => d.run (D.take i) := ⟨_, rfl⟩
 have hst : ∀ i (h : i < D.length), R (i + 1) = (R i).do1 D[i] := fun i h => by rw [hR]; exact Dk.run_take d D h
 have hok : ∀ i, (R i).Ok (m + D.length) := fun i => by
  rw [hR]
  show (d.run (D.take i)).Ok _
  have h := Dk.Ok.run (D.take i) hd
  obtain ⟨a, b, c, e⟩ := h
  exact ⟨a, b, by rw [List.length_take] at c; omega, e⟩
 have hln : ∀ i, (R i).L.length = d.L.length := fun i => by rw [hR]; exact Dk.run_len _ _
 have hwb : ∀ i, (R i).w ≤ 1000000 := fun i => by
  rw [hR]
  show (d.run (D.take i)).w ≤ _
  have := (Dk.run_w (D.take i) d).2
  rw [List.length_take] at this; omega
 have hfin : R D.length = d.run D := by rw [hR]; show d.run (D.take D.length) = _; rw [List.take_length]
 have h0 : d = R 0 := by rw [hR]; rfl
 rw [← hfin]
 clear hR hfin
 have hq0 := hd.sh
 obtain ⟨q, L, P, w⟩ := d
 cases q with
 | sh => exact absurd (show Pd.isSh .sh = false from hq0) (by decide)
 | _ =>
  refine SM_ Tryz.func58 (by kernel_rfl) rfl (Nat.le_of_ble_eq_true rfl) (Nat.le_succ 1) ?_
  show avc Tryz.prog SP _ _ _ _ _ _
  dsimp only [avc, startS, Array.toList, Tryz.f58]
  repeat' ((try conv => whnf) <;> first | refine Av.Va ?_ | exact True.intro | refine Av.Vb ?_ | exact ⟨rfl, rfl, rfl⟩ | exact ⟨rfl, rfl⟩ | (refine Av.Vc ?_ ?_ <;> intro hBr <;> first | (exfalso; omega) | (exfalso; contradiction) | (exfalso; exact hBr rfl) | skip) | refine Av.Vd ?_ | exact rfl)
  refine ⟨[10, 9, 8, 0], [], fun vs bl => ∃ (i : Nat) (q2 : Pd) (L2 : List Key) (P2 : List Wr) (w2 : Int), i ≤ D.length ∧ (⟨q2, L2, P2, w2⟩ : Dk) = R i ∧ (vs = [Z i, Z D.length, .vs D.length (ddC D), .ptr 0 0] ∧ bl = dsk q2 L2 P2 w2), muI D.length, ?_, ?_⟩
  ·exact ⟨0, _, _, _, _, by omega, h0, rfl, rfl⟩
  rintro vs bl ⟨i, q2, L2, P2, w2, hi, he, rfl, rfl⟩
  have hok := hok i
  have hln := hln i
  have hwb := hwb i
  have hok : (R i).Ok 999 := ⟨hok.sh, hok.pd, by have := hok.few; omega, hok.w0⟩
  rw [← he] at hok hln hwb
  by_cases hlt : i < D.length
  ·have hst := hst i hlt
   rw [← he] at hst
   have hat := ddW hlt
   have hx := hD _ (List.getElem_mem hlt)
   have hdec : muI D.length [Z ((i : Int) + 1)] [] < muI D.length [Z i] [] := by show D.length - ((i : Int) + 1).toNat < D.length - (i : Int).toNat; omega
   generalize D[i] = y at hst hat hx
   obtain ⟨b, pl, x⟩ := y
   simp only at hat hx
   clear he hD h0 hw hd
   obtain ⟨k1, k2, k3, k4⟩ := hok
   simp only at k1 k2 k3 k4 hwb hln
   cases b with
   | true =>
    have c := dsync_ok q2 L2 P2 w2
    have e1 : Dk.do1 ⟨q2, L2, P2, w2⟩ ⟨true, pl, x⟩ = ⟨.nil, L2, [], w2⟩ := rfl
    rw [e1] at hst
    clear e1
    cases q2 with
    | sh => exact absurd (show Pd.isSh .sh = false from k1) (by decide)
    | _ =>
     repeat' ((try conv => whnf) <;> first | refine Av.Va ?_ | (refine ⟨_, hat, ?_⟩) | refine ⟨_, _, _, c, ?_⟩ | exact True.intro | refine Av.Vb ?_ | exact ⟨rfl, rfl, rfl⟩ | exact ⟨rfl, rfl⟩ | (refine Av.Vc ?_ ?_ <;> intro hBr <;> first | (exfalso; omega) | (exfalso; contradiction) | (exfalso; exact hBr rfl) | skip) | refine Av.Vd ?_ | exact rfl)
     exact ⟨⟨i + 1, _, _, _, _, by omega, hst.symm, rfl, rfl⟩, hdec⟩
   | false =>
    obtain ⟨x1, x2⟩ : pl < L2.length ∧ x.length = 64 := by
     rcases hx with h | h
     ·cases h
     ·rw [hln]; exact h
    have c := dwrite_yes q2 L2 P2 w2 (i := pl) x x1 x2 k2 (by omega) k4 hwb
    have e1 : Dk.do1 ⟨q2, L2, P2, w2⟩ ⟨false, pl, x⟩ = ⟨q2.next, L2.set pl x, P2 ++ [(pl, x, L2[pl])], w2 + 1⟩ := by
     show (⟨_, _, _ ++ [(pl, x, (L2[pl]?).getD [])], _⟩ : Dk) = _
     rw [List.getElem?_eq_getElem x1]; rfl
    rw [e1] at hst
    clear e1
    generalize L2.set pl x = L3 at *
    generalize P2 ++ [(pl, x, L2[pl])] = P3 at *
    cases q2 with
    | sh => exact absurd (show Pd.isSh .sh = false from k1) (by decide)
    | _ =>
     repeat' ((try conv => whnf) <;> first | refine Av.Va ?_ | (refine ⟨_, hat, ?_⟩) | refine ⟨_, _, _, c, ?_⟩ | exact True.intro | refine Av.Vb ?_ | exact ⟨rfl, rfl, rfl⟩ | exact ⟨rfl, rfl⟩ | (refine Av.Vc ?_ ?_ <;> intro hBr <;> first | (exfalso; omega) | (exfalso; contradiction) | (exfalso; exact hBr rfl) | skip) | refine Av.Vd ?_ | exact rfl)
     exact ⟨⟨i + 1, _, _, _, _, by omega, hst.symm, rfl, rfl⟩, hdec⟩
  ·obtain rfl : i = D.length := by omega
   have k1 : q2.isSh = false := by
    have h := hok.sh
    first | exact h | (rw [← he] at h; exact h)
   rw [← he]
   clear he hok hln hwb hst h0 hd hD
   cases q2 with
   | sh => exact absurd (show Pd.isSh .sh = false from k1) (by decide)
   | _ =>
    repeat' ((try conv => whnf) <;> first | refine Av.Va ?_ | exact True.intro | refine Av.Vb ?_ | exact ⟨rfl, rfl, rfl⟩ | exact ⟨rfl, rfl⟩ | (refine Av.Vc ?_ ?_ <;> intro hBr <;> first | (exfalso; omega) | (exfalso; contradiction) | (exfalso; exact hBr rfl) | skip) | refine Av.Vd ?_ | exact rfl)
/-! ### sectors, read -/
def rdL (L : List Key) (f i n : Nat) : List Key := (L.drop f).take i ++ List.replicate (n - i) []
theorem rdL_len {L : List Key} {f i n : Nat} (h : f + n ≤ L.length) (hi : i ≤ n) : (rdL L f i n).length = n := by
 unfold rdL; rw [List.length_append, List.length_take, List.length_drop, List.length_replicate]; omega
theorem rdL_set {L : List Key} {f i n : Nat} (h : f + n ≤ L.length) (hi : i < n) : (rdL L f i n).set i (L[f + i]'(by omega)) = rdL L f (i + 1) n := by
 unfold rdL
 have hl : ((L.drop f).take i).length = i := by rw [List.length_take, List.length_drop]; omega
 rw [List.set_append_right _ _ (by omega), hl, Nat.sub_self, show n - i = (n - (i + 1)) + 1 by omega, List.replicate_succ, List.set_cons_zero, List.take_add_one, List.append_assoc]
 congr 1
 rw [List.getElem?_drop, List.getElem?_eq_getElem (by omega)]
 rfl
theorem rdL_all {L : List Key} {f n : Nat} : rdL L f n n = (L.drop f).take n := by unfold rdL; simp
theorem sread_ok (q : Pd) (L : List Key) (P : List Wr) (w : Int) (f n : Nat) (h : f + n ≤ L.length) (hL : L.length ≤ 100000) :
  SM 85 [.ptr 0 0, Z f, Z n] (dsk q L P w) [.ptr 0 0] (.sl 1 n) (dskR q L P w ⟨((L.drop f).take n).map T, some 9, false, true⟩) := by
 have hr : (0 : Int) ≤ (n : Int) ∧ (n : Int) ≤ (n : Int) ∧ room (n : Int).toNat (bytesT Tryz.prog 9) := ⟨by omega, by omega, room_s (by omega)⟩
 have hz : zeroL (AV.ex (.string { data := #[] })).cells n = (rdL L f 0 n).map T := by
  rw [zeroL_S]; unfold rdL; simp
 have hs := fun i (hi : i < n) => secSet (rdL L f i n) i (L[f + i]'(by omega))
 have hidx := fun i (hi : i < n) => secIdx (L := rdL L f i n) (a := i) (by rw [rdL_len h (by omega)]; exact hi)
 have hn := fun i (hi : i < n) => rdL_set h hi
 have hl := rdL_all (L := L) (f := f) (n := n)
 have hc := fun i (hi : i < n) => dread_yes q L P w (i := f + i) (by omega)
 have hcast : ∀ i : Nat, ((f + i : Nat) : Int) = (f : Int) + (i : Int) := fun i => by omega
 rw [← hl]
 clear hl
 obtain ⟨SB, hSB⟩ : ∃ SB : List AV → List ABlk, SB = fun C => dskS q L P w ⟨C, some 9, false, true⟩ := ⟨_, rfl⟩
 cases q
 all_goals
  refine SM_ Tryz.func85 (by kernel_rfl) rfl (Nat.le_of_ble_eq_true rfl) (show 1 ≤ 3 by omega) ?_
  show avc Tryz.prog SP _ _ _ _ _ _
  dsimp only [avc, startS, Array.toList, Tryz.f85]
  repeat' ((try conv => whnf) <;> first | refine Av.Va ?_ | (refine And.intro hr ?_) | exact True.intro | refine Av.Vb ?_ | exact ⟨rfl, rfl, rfl⟩ | exact ⟨rfl, rfl⟩ | (refine Av.Vc ?_ ?_ <;> intro hBr <;> first | (exfalso; omega) | (exfalso; contradiction) | (exfalso; exact hBr rfl) | skip) | refine Av.Vd ?_ | exact rfl)
  refine ⟨[13, 12, 7, 0, 1], [], fun vs bl => ∃ (i : Nat) (C : List AV), i ≤ n ∧ C = (rdL L f i n).map T ∧ (vs = [Z i, Z n, .sl 0 n, .ptr 1 0, Z f] ∧ bl = SB C), muI n, ?_, ?_⟩
  ·exact ⟨0, _, by omega, hz, rfl, by rw [hSB]; rfl⟩
  rintro vs bl ⟨i, C, hi, hC, rfl, rfl⟩
  subst hSB
  by_cases hlt : i < n
  ·have hs := hs i hlt
   have hidx := hidx i hlt
   have hn := hn i hlt
   have hc := hc i hlt
   rw [hcast] at hc
   rw [hn] at hs
   rw [← hC] at hs hidx
   have hdec : muI n [Z ((i : Int) + 1)] [] < muI n [Z i] [] := by show n - ((i : Int) + 1).toNat < n - (i : Int).toNat; omega
   clear hz hC hn hcast
   generalize L[f + i]'(by omega) = v at *
   repeat' ((try conv => whnf) <;> first | refine Av.Va ?_ | refine ⟨_, _, _, hc, ?_⟩ | (refine And.intro hidx ?_) | exact True.intro | refine Av.Vb ?_ | exact ⟨rfl, rfl, rfl⟩ | exact ⟨rfl, rfl⟩ | (refine Av.Vc ?_ ?_ <;> intro hBr <;> first | (exfalso; omega) | (exfalso; contradiction) | (exfalso; exact hBr rfl) | skip) | refine Av.Vd ?_ | exact rfl)
   exact ⟨⟨i + 1, _, by omega, hs, rfl, rfl⟩, hdec⟩
  ·obtain rfl : i = n := by omega
   rw [← hC]
   clear hz hC hn hcast hs hidx hc
   repeat' ((try conv => whnf) <;> first | refine Av.Va ?_ | exact True.intro | refine Av.Vb ?_ | exact ⟨rfl, rfl, rfl⟩ | exact ⟨rfl, rfl⟩ | (refine Av.Vc ?_ ?_ <;> intro hBr <;> first | (exfalso; omega) | (exfalso; contradiction) | (exfalso; exact hBr rfl) | skip) | refine Av.Vd ?_ | exact rfl)
/-! ### whether ops have room -/
def fitsE (A : Nat) (l : List Pr) (os : List OpP) : Int := if os.length = 0 then 2 else if (encOps os).2 ≠ 0 then (encOps os).2 else if npc (Shf.encB (applyL os l)) ≤ A then 0 else 7
def FewO (os : List OpP) : Prop := os.length ≤ 50 ∧ ∀ o ∈ os, o.2.1.length ≤ 150 ∧ o.2.2.length ≤ 1000
theorem FewO.sized {os : List OpP} (h : FewO os) : Sized os := ⟨by have := h.1; omega, fun o ho => by have := h.2 o ho; omega⟩
theorem FewO.ok {os : List OpP} (h : FewO os) {A : Nat} {t : Tr} (hf : Fit A t) : OpsOk t os := by
 have h1 := h.1
 have h2 := hf.cn
 have h3 := hf.wt
 refine ⟨by omega, fun o ho => by have := h.2 o ho; omega, ?_⟩
 have : (os.length : Int) * 2000004 ≤ 50 * 2000004 := Int.mul_le_mul_of_nonneg_right (by omega) (by omega)
 omega
theorem Fit.apply {A : Nat} {t : Tr} (hf : Fit A t) (os : List OpP) : Tr.Good (Tr.apply os t) ∧ (Tr.apply os t).toL = applyL os t.toL := apply_good os t hf.good
theorem Fit.applied {A : Nat} {t : Tr} (hf : Fit A t) {os : List OpP} (h : npc (Shf.encB (applyL os t.toL)) ≤ A) : Fit A (Tr.apply os t) := ⟨(hf.apply os).1, by rw [(hf.apply os).2]; exact h, hf.top⟩
theorem FewO.wt {os : List OpP} (h : FewO os) {A : Nat} {t : Tr} (hf : Fit A t) : (Tr.apply os t).wt ≤ 1000000000000 := by
 rw [Tr.wt_len, (hf.apply os).2]
 have h1 := (applyL_len (a := 150) (b := 1000) os t.toL fun o ho => h.2 o ho).2
 have h2 := h.1
 have h3 := hf.bytes
 have : (4 + 150 + 1000) * os.length ≤ 1154 * 50 := Nat.mul_le_mul_left _ h2
 omega
theorem sfits_ok {A L : Nat} {t : Tr} (hf : Fit A t) (g a z u pl : Nat) (nx : Option Tr) (hg : 1 ≤ g) (os : List OpP) (ho : FewO os) :
  SM 45 [.ptr 0 0, .vs os.length (opC os)] [stB A L t g a z u pl nx] [.ptr 0 0] (Z (fitsE A t.toL os)) [stB A L t g a z u pl nx] := by
 have c := sok_ok A L t g a z u pl nx hg
 have c1 := encode_ok os ho.sized
 have c2 := tapply_ok hf.good (ho.ok hf) _ rfl
 have c3 := holds_ok (A := A) (L := L) (ho.wt hf)
 rw [(hf.apply os).2] at c3
 have hn := ho.1
 unfold fitsE
 clear ho hf
 by_cases h0 : os.length = 0
 ·rw [if_pos h0]
  have h0 : (os.length : Int) = 0 := by omega
  cases nx
  all_goals
   refine SM_ Tryz.func45 (by kernel_rfl) rfl (Nat.le_of_ble_eq_true rfl) (Nat.le_succ 1) ?_
   show avc Tryz.prog SP _ _ _ _ _ _
   dsimp only [avc, startS, Array.toList, Tryz.f45]
   repeat' ((try conv => whnf) <;> first | refine Av.Va ?_ | refine ⟨_, _, _, c, ?_⟩ | refine ⟨[], [0,1,3,7,0,16,48,112,0,496,1023,2047], Av.len_ok rfl (by kernel_rfl), ?_⟩ | exact True.intro | refine Av.Vb ?_ | exact ⟨rfl, rfl, rfl⟩ | exact ⟨rfl, rfl⟩ | (refine Av.Vc ?_ ?_ <;> intro hBr <;> first | (exfalso; omega) | (exfalso; contradiction) | (exfalso; exact hBr rfl) | skip) | refine Av.Vd ?_ | exact rfl)
 rw [if_neg h0]
 have h0 : ¬ (os.length : Int) = 0 := by omega
 generalize (encOps os).1 = E at *
 generalize (encOps os).2 = e at *
 by_cases h1 : e ≠ 0
 ·rw [if_pos h1]
  cases nx
  all_goals
   refine SM_ Tryz.func45 (by kernel_rfl) rfl (Nat.le_of_ble_eq_true rfl) (Nat.le_succ 1) ?_
   show avc Tryz.prog SP _ _ _ _ _ _
   dsimp only [avc, startS, Array.toList, Tryz.f45]
   repeat' ((try conv => whnf) <;> first | refine Av.Va ?_ | refine ⟨_, _, _, c, ?_⟩ | refine ⟨_, c1, ?_⟩ | refine ⟨[], [0,1,3,7,0,16,48,112,0,496,1023,2047], Av.len_ok rfl (by kernel_rfl), ?_⟩ | exact True.intro | refine Av.Vb ?_ | exact ⟨rfl, rfl, rfl⟩ | exact ⟨rfl, rfl⟩ | (refine Av.Vc ?_ ?_ <;> intro hBr <;> first | (exfalso; omega) | (exfalso; contradiction) | (exfalso; exact hBr rfl) | skip) | refine Av.Vd ?_ | exact rfl)
 rw [if_neg h1]
 obtain rfl : e = 0 := by simpa using h1
 by_cases h2 : npc (Shf.encB (applyL os t.toL)) ≤ A
 ·rw [if_pos h2]
  rw [decide_eq_true h2] at c3
  clear h2
  generalize Tr.apply os t = t2 at *
  cases nx
  all_goals
   refine SM_ Tryz.func45 (by kernel_rfl) rfl (Nat.le_of_ble_eq_true rfl) (Nat.le_succ 1) ?_
   show avc Tryz.prog SP _ _ _ _ _ _
   dsimp only [avc, startS, Array.toList, Tryz.f45]
   repeat' ((try conv => whnf) <;> first | refine Av.Va ?_ | refine ⟨_, _, _, c, ?_⟩ | refine ⟨_, c1, ?_⟩ | refine ⟨_, c2, ?_⟩ | refine ⟨_, c3, ?_⟩ | refine ⟨[], [0,1,3,7,0,16,48,112,0,496,1023,2047], Av.len_ok rfl (by kernel_rfl), ?_⟩ | exact True.intro | refine Av.Vb ?_ | exact ⟨rfl, rfl, rfl⟩ | exact ⟨rfl, rfl⟩ | (refine Av.Vc ?_ ?_ <;> intro hBr <;> first | (exfalso; omega) | (exfalso; contradiction) | (exfalso; exact hBr rfl) | skip) | refine Av.Vd ?_ | exact rfl)
 ·rw [if_neg h2]
  rw [decide_eq_false h2] at c3
  clear h2
  generalize Tr.apply os t = t2 at *
  cases nx
  all_goals
   refine SM_ Tryz.func45 (by kernel_rfl) rfl (Nat.le_of_ble_eq_true rfl) (Nat.le_succ 1) ?_
   show avc Tryz.prog SP _ _ _ _ _ _
   dsimp only [avc, startS, Array.toList, Tryz.f45]
   repeat' ((try conv => whnf) <;> first | refine Av.Va ?_ | refine ⟨_, _, _, c, ?_⟩ | refine ⟨_, c1, ?_⟩ | refine ⟨_, c2, ?_⟩ | refine ⟨_, c3, ?_⟩ | refine ⟨[], [0,1,3,7,0,16,48,112,0,496,1023,2047], Av.len_ok rfl (by kernel_rfl), ?_⟩ | exact True.intro | refine Av.Vb ?_ | exact ⟨rfl, rfl, rfl⟩ | exact ⟨rfl, rfl⟩ | (refine Av.Vc ?_ ?_ <;> intro hBr <;> first | (exfalso; omega) | (exfalso; contradiction) | (exfalso; exact hBr rfl) | skip) | refine Av.Vd ?_ | exact rfl)
def replayT (A : Nat) : Tr → List Key → Tr
 | t, [] => t
 | t, x :: xs => if (decOps x).2 ≠ 0 then t else if npc (Shf.encB (applyL (decOps x).1 t.toL)) ≤ A then replayT A (Tr.apply (decOps x).1 t) xs else t
theorem few_dec {x : Key} (h : (decOps x).2 = 0) : FewO (decOps x).1 := by
 obtain ⟨_, h1, h2⟩ := enc_dec h
 exact ⟨by omega, fun o ho => by obtain ⟨_, _, h3, h4, _⟩ := checkP_zero (h1 o ho); omega⟩
theorem replayT_fit {A : Nat} : ∀ (xs : List Key) {t : Tr}, Fit A t → Fit A (replayT A t xs)
 | [], t, h => h
 | x :: xs, t, h => by
  unfold replayT
  split
  ·exact h
  ·split
   ·rename_i h2
    exact replayT_fit xs (h.applied h2)
   ·exact h
theorem replayT_step {A : Nat} {t : Tr} {xs : List Key} {i : Nat} (h : i < xs.length) : replayT A t (xs.drop i) = if (decOps xs[i]).2 ≠ 0 then t else if npc (Shf.encB (applyL (decOps xs[i]).1 t.toL)) ≤ A then replayT A (Tr.apply (decOps xs[i]).1 t) (xs.drop (i + 1)) else t := by
 rw [List.drop_eq_getElem_cons h]; rfl
theorem replay_ok {A L : Nat} {t : Tr} (hf : Fit A t) (xs : List Key) (hx : ∀ x ∈ xs, x.length ≤ 1048576) (hn : xs.length ≤ 1000000) (R : Tr) (hR : replayT A t xs = R) :
  SP 87 [shA A L, trA t, .vs xs.length (xs.map T)] (trA R) := by
 refine S_ Tryz.func87 (by kernel_rfl) rfl (Nat.le_of_ble_eq_true rfl) ?_
 show avc Tryz.prog SP _ _ _ _ _ _
 dsimp only [avc, startS, Array.toList, Tryz.f87]
 repeat' ((try conv => whnf) <;> first | refine Av.Va ?_ | exact True.intro | refine Av.Vb ?_ | exact ⟨rfl, rfl, rfl⟩ | exact ⟨rfl, rfl⟩ | (refine Av.Vc ?_ ?_ <;> intro hBr <;> first | (exfalso; omega) | (exfalso; contradiction) | (exfalso; exact hBr rfl) | skip) | refine Av.Vd ?_ | exact rfl)
 refine ⟨[14, 13, 12, 3, 4, 6], [], fun vs bl => ∃ (i : Nat) (t2 : Tr), i ≤ xs.length ∧ Fit A t2 ∧ replayT A t2 (xs.drop i) = R ∧ (vs = [Z i, Z xs.length, .vs xs.length (xs.map T), .ptr 0 0, .ptr 1 0, .ptr 2 0] ∧ bl = [⟨[Z A, Z L], none, false, true⟩, ⟨[ndA t2], none, false, true⟩, ⟨[.ex (.pointer none)], none, false, true⟩]), muI xs.length, ?_, ?_⟩
 ·exact ⟨0, t, by omega, hf, by rw [List.drop_zero]; exact hR, rfl, rfl⟩
 rintro vs bl ⟨i, t2, hi, hf2, hR2, rfl, rfl⟩
 by_cases hlt : i < xs.length
 ·have hat := secAt hlt
  have cd := decode_ok xs[i] (hx _ (List.getElem_mem hlt))
  have hdec : muI xs.length [Z ((i : Int) + 1)] [] < muI xs.length [Z i] [] := by show xs.length - ((i : Int) + 1).toNat < xs.length - (i : Int).toNat; omega
  rw [replayT_step hlt] at hR2
  clear hR hx hf
  generalize xs[i] = x at *
  by_cases h0 : (decOps x).2 ≠ 0
  ·rw [if_pos h0] at hR2
   subst hR2
   generalize (decOps x).1 = os at *
   generalize (decOps x).2 = e at *
   repeat' ((try conv => whnf) <;> first | refine Av.Va ?_ | (refine ⟨_, hat, ?_⟩) | refine ⟨_, cd, ?_⟩ | exact True.intro | refine Av.Vb ?_ | exact ⟨rfl, rfl, rfl⟩ | exact ⟨rfl, rfl⟩ | (refine Av.Vc ?_ ?_ <;> intro hBr <;> first | (exfalso; omega) | (exfalso; contradiction) | (exfalso; exact hBr rfl) | skip) | refine Av.Vd ?_ | exact rfl)
  rw [if_neg h0] at hR2
  have h0 : (decOps x).2 = 0 := by simpa using h0
  have ho := few_dec h0
  rw [h0] at cd
  have c2 := tapply_ok hf2.good (ho.ok hf2) _ rfl
  have c3 := holds_ok (A := A) (L := L) (ho.wt hf2)
  rw [(hf2.apply (decOps x).1).2] at c3
  by_cases h1 : npc (Shf.encB (applyL (decOps x).1 t2.toL)) ≤ A
  ·rw [if_pos h1] at hR2
   have hf3 := hf2.applied h1
   rw [decide_eq_true h1] at c3
   clear h1 h0 ho hf2
   generalize Tr.apply (decOps x).1 t2 = t3 at *
   generalize (decOps x).1 = os at *
   repeat' ((try conv => whnf) <;> first | refine Av.Va ?_ | (refine ⟨_, hat, ?_⟩) | refine ⟨_, cd, ?_⟩ | refine ⟨_, c2, ?_⟩ | refine ⟨_, c3, ?_⟩ | exact True.intro | refine Av.Vb ?_ | exact ⟨rfl, rfl, rfl⟩ | exact ⟨rfl, rfl⟩ | (refine Av.Vc ?_ ?_ <;> intro hBr <;> first | (exfalso; omega) | (exfalso; contradiction) | (exfalso; exact hBr rfl) | skip) | refine Av.Vd ?_ | exact rfl)
   exact ⟨⟨i + 1, t3, by omega, hf3, hR2, rfl, rfl⟩, hdec⟩
  ·rw [if_neg h1] at hR2
   rw [decide_eq_false h1] at c3
   subst hR2
   clear h1 h0 ho hf2
   generalize Tr.apply (decOps x).1 t2 = t3 at *
   generalize (decOps x).1 = os at *
   repeat' ((try conv => whnf) <;> first | refine Av.Va ?_ | (refine ⟨_, hat, ?_⟩) | refine ⟨_, cd, ?_⟩ | refine ⟨_, c2, ?_⟩ | refine ⟨_, c3, ?_⟩ | exact True.intro | refine Av.Vb ?_ | exact ⟨rfl, rfl, rfl⟩ | exact ⟨rfl, rfl⟩ | (refine Av.Vc ?_ ?_ <;> intro hBr <;> first | (exfalso; omega) | (exfalso; contradiction) | (exfalso; exact hBr rfl) | skip) | refine Av.Vd ?_ | exact rfl)
 ·obtain rfl : i = xs.length := by omega
  rw [List.drop_length] at hR2
  obtain rfl : t2 = R := hR2
  clear hR hx hf hf2
  repeat' ((try conv => whnf) <;> first | refine Av.Va ?_ | exact True.intro | refine Av.Vb ?_ | exact ⟨rfl, rfl, rfl⟩ | exact ⟨rfl, rfl⟩ | (refine Av.Vc ?_ ?_ <;> intro hBr <;> first | (exfalso; omega) | (exfalso; contradiction) | (exfalso; exact hBr rfl) | skip) | refine Av.Vd ?_ | exact rfl)
/-! ### roots, picked -/
theorem er_ne (s : List UInt8) : erR s ≠ 0 := by
 unfold erR
 split
 ·decide
 ·assumption
abbrev Rt := Nat × Nat × Nat × Nat
inductive PickS (s t : Key) : Option (Rt × Int) → Prop
 | no : NoR s → NoR t → PickS s t none
 | fst {g a z u : Nat} : OkR g a z → u < 4294967296 → s = rootS g a z u → (NoR t ∨ ∃ g' a' z' u' : Nat, OkR g' a' z' ∧ u' < 4294967296 ∧ t = rootS g' a' z' u' ∧ g' ≤ g) → PickS s t (some ((g, a, z, u), 0))
 | snd {g a z u : Nat} : OkR g a z → u < 4294967296 → t = rootS g a z u → (NoR s ∨ ∃ g' a' z' u' : Nat, OkR g' a' z' ∧ u' < 4294967296 ∧ s = rootS g' a' z' u' ∧ g' < g) → PickS s t (some ((g, a, z, u), 1))
theorem PickS.ok {s t : Key} {g a z u : Nat} {i : Int} (h : PickS s t (some ((g, a, z, u), i))) : OkR g a z ∧ u < 4294967296 := by
 cases h with
 | fst h1 h2 _ _ => exact ⟨h1, h2⟩
 | snd h1 h2 _ _ => exact ⟨h1, h2⟩
theorem pick_some {s t : Key} {g a z u : Nat} {i : Int} (h : PickS s t (some ((g, a, z, u), i))) : SP 139 [T s, T t] (.tup [rt g a z u, Z i, Z 0]) := by
 cases h with
 | fst h1 h2 h3 h4 =>
  have hg := h1.nat.1
  subst h3
  rcases h4 with h4 | ⟨g', a', z', u', k1, k2, rfl, k4⟩
  ·exact pick_yn _ t _ _ _ _ _ _ _ _ _ _ rfl (er_ne t) (by omega) (rootopen_yes h1 h2) (rootopen_no h4)
  ·exact pick_le _ _ _ _ _ _ _ _ _ _ _ _ rfl rfl (by omega) (by omega) (rootopen_yes h1 h2) (rootopen_yes k1 k2)
 | snd h1 h2 h3 h4 =>
  have hg := h1.nat.1
  subst h3
  rcases h4 with h4 | ⟨g', a', z', u', k1, k2, rfl, k4⟩
  ·exact pick_ny s _ _ _ _ _ _ _ _ _ _ _ (er_ne s) rfl (by omega) (rootopen_no h4) (rootopen_yes h1 h2)
  ·exact pick_gt _ _ _ _ _ _ _ _ _ _ _ _ rfl rfl (by have := k1.nat.1; omega) (by omega) (rootopen_yes k1 k2) (rootopen_yes h1 h2)
theorem rpick_some {s t : Key} {g a z u : Nat} {i : Int} (h : PickS s t (some ((g, a, z, u), i))) : SP 145 [T s, T t] (.tup [rt g a z u, Z i, Z 0]) := by
 cases h with
 | fst h1 h2 h3 h4 =>
  have hg := h1.nat.1
  subst h3
  rcases h4 with h4 | ⟨g', a', z', u', k1, k2, rfl, k4⟩
  ·exact rpick_yn _ t _ _ _ _ _ _ _ _ _ _ rfl (er_ne t) (by omega) (rrootopen_yes h1 h2) (rrootopen_no h4)
  ·exact rpick_le _ _ _ _ _ _ _ _ _ _ _ _ rfl rfl (by omega) (by omega) (rrootopen_yes h1 h2) (rrootopen_yes k1 k2)
 | snd h1 h2 h3 h4 =>
  have hg := h1.nat.1
  subst h3
  rcases h4 with h4 | ⟨g', a', z', u', k1, k2, rfl, k4⟩
  ·exact rpick_ny s _ _ _ _ _ _ _ _ _ _ _ (er_ne s) rfl (by omega) (rrootopen_no h4) (rrootopen_yes h1 h2)
  ·exact rpick_gt _ _ _ _ _ _ _ _ _ _ _ _ rfl rfl (by have := k1.nat.1; omega) (by omega) (rrootopen_yes k1 k2) (rrootopen_yes h1 h2)
def areaL (L : List Key) (A a : Nat) : List Key := (L.drop (areaA A a)).take A
theorem areaL_len {L : List Key} {A a : Nat} (h : areaA A a + A ≤ L.length) : (areaL L A a).length = A := by unfold areaL; rw [List.length_take, List.length_drop]; omega
theorem areaA_le {A a : Nat} (ha : a ≤ 1) : areaA A a + A ≤ 2 + 2 * A := by
 have : a * A ≤ 1 * A := Nat.mul_le_mul ha (Nat.le_refl _)
 unfold areaA; omega
theorem read_at {q : Pd} {L : List Key} {P : List Wr} {w : Int} {A a : Nat} (h : areaA A a + A ≤ L.length) (hL : L.length ≤ 100000) :
  SM 85 [.ptr 0 0, Z (areaA A a), Z A] (dsk q L P w) [.ptr 0 0] (.sl 1 A) (dskR q L P w ⟨(areaL L A a).map T, some 9, false, true⟩) := sread_ok q L P w _ _ h hL
section
variable (q : Pd) (L : List Key) (P : List Wr) (w : Int) (A Lg : Nat)
theorem two_at {L : List Key} (h : 2 ≤ L.length) : ((L.drop 0).take 2).map T = [T (L[0]'(by omega)), T (L[1]'(by omega))] := by
 match L, h with
 | a :: b :: L, _ => rfl
theorem treeO_2 {l : List Pr} {f : FuncId} {x : AV} {ys : List AV} {r : AV} (h : SP f (x :: trA (ofL l) :: ys) r) : SP f (x :: treeO l :: ys) r := by
 cases l with
 | cons a l => exact h
 | nil =>
  refine Sound.weak h (by simp) fun w F j h1 h2 x hx => ?_
  match j with
  | 0 => exact hx
  | 1 => exact zrepO hx
  | j + 2 => exact hx
theorem treeO_or (l : List Pr) : (l = [] ∧ treeO l = zTr) ∨ treeO l = trA (ofL l) := by
 cases l with
 | nil => exact .inl ⟨rfl, rfl⟩
 | cons a l => exact .inr rfl
theorem load_walk (hq : q.isSh = false) {g a z u : Nat} {i : Int} (hN : 2 + 2 * A ≤ L.length) (hA : 1 ≤ A) (hA2 : A ≤ 512) (hL : L.length ≤ 100000) (hp : PickS (L[0]'(by omega)) (L[1]'(by omega)) (some ((g, a, z, u), i))) (tv tw : AV) (V : Tr) (htv : tv = zTr ∨ tv = trA V) (e : Int) (z1 : Int) (u1 : Int)
  (cr : SP 16 [lsA (areaL L A a), U g, Z z] (.tup [tv, Z e])) (ct : e = 0 → SP 98 [tv] (.tup [Z z1, U32 u1])) (R : AV)
  (hR : (e = 0 ∧ z1 = z ∧ u1 = u ∧ R = .tup [rt g a z u, tv, Z 0]) ∨ (e ≠ 0 ∧ R = .tup [rt 0 0 0 0, zTr, Z 4]) ∨ (e = 0 ∧ (z1 ≠ z ∨ z1 = z ∧ u1 ≠ u) ∧ R = .tup [rt 0 0 0 0, zTr, Z 4])) :
  SM 83 [.ptr 0 0, shA A Lg] (dsk q L P w) [.ptr 0 0] R (dsk q L P w) := by
 have hok := hp.ok
 have ha : a ≤ 1 := by have := hok.1.nat; omega
 have hle := areaA_le (A := A) ha
 have c1 := sread_ok q L P w 0 2 (by omega) hL
 have c2 := pick_some hp
 have c3 := area_ok (A := A) (L := Lg) (a := a) (by omega) (by omega)
 have c4 := read_at (q := q) (P := P) (w := w) (A := A) (a := a) (by omega) hL
 have hl := areaL_len (L := L) (A := A) (a := a) (by omega)
 have cr : SP 16 [.vs A ((areaL L A a).map T), U g, Z z] (.tup [tv, Z e]) := by
  have h : SP 16 [.vs (areaL L A a).length ((areaL L A a).map T), U g, Z z] (.tup [tv, Z e]) := cr
  rwa [hl] at h
 rw [two_at (by omega)] at c1
 generalize L[0]'(by omega) = s0 at *
 generalize L[1]'(by omega) = s1 at *
 clear hp hok hl hle
 generalize (areaL L A a).map T = C at *
 generalize areaA A a = F at *
 rcases hR with ⟨rfl, rfl, rfl, rfl⟩ | ⟨h, rfl⟩ | ⟨rfl, h, rfl⟩
 ·have ct := ct rfl
  rcases htv with rfl | rfl
  all_goals
   cases q with
   | sh => exact absurd (show Pd.isSh .sh = false from hq) (by decide)
   | _ =>
    refine SM_ Tryz.func83 (by kernel_rfl) rfl (Nat.le_of_ble_eq_true rfl) (Nat.le_succ 1) ?_
    show avc Tryz.prog SP _ _ _ _ _ _
    dsimp only [avc, startS, Array.toList, Tryz.f83]
    repeat' ((try conv => whnf) <;> first | refine Av.Va ?_ | refine ⟨_, _, _, c1, ?_⟩ | refine ⟨_, c2, ?_⟩ | refine ⟨_, c3, ?_⟩ | refine ⟨_, _, _, c4, ?_⟩ | refine ⟨_, cr, ?_⟩ | refine ⟨_, ct, ?_⟩ | refine ⟨[], [0,0,0,4,14,0,32,127,0,256,0,1024,4095,8191,16383,16383,0,98303,262143], Av.len_ok rfl (by kernel_rfl), ?_⟩ | refine ⟨[], [0,1,3,0,8,24,63,127,255,255,255,0,2559,7167,16383], Av.len_ok rfl (by kernel_rfl), ?_⟩ | refine ⟨[], [0,0,1,7,15], Av.len_ok rfl (by kernel_rfl), ?_⟩ | exact True.intro | refine Av.Vb ?_ | exact ⟨rfl, rfl, rfl⟩ | exact ⟨rfl, rfl⟩ | (refine Av.Vc ?_ ?_ <;> intro hBr <;> first | (exfalso; omega) | (exfalso; contradiction) | (exfalso; exact hBr rfl) | skip) | refine Av.Vd ?_ | exact rfl)
 ·clear ct
  rcases htv with rfl | rfl
  all_goals
   cases q with
   | sh => exact absurd (show Pd.isSh .sh = false from hq) (by decide)
   | _ =>
    refine SM_ Tryz.func83 (by kernel_rfl) rfl (Nat.le_of_ble_eq_true rfl) (Nat.le_succ 1) ?_
    show avc Tryz.prog SP _ _ _ _ _ _
    dsimp only [avc, startS, Array.toList, Tryz.f83]
    repeat' ((try conv => whnf) <;> first | refine Av.Va ?_ | refine ⟨_, _, _, c1, ?_⟩ | refine ⟨_, c2, ?_⟩ | refine ⟨_, c3, ?_⟩ | refine ⟨_, _, _, c4, ?_⟩ | refine ⟨_, cr, ?_⟩ | refine ⟨[], [0,0,0,4,14,0,32,127,0,256,0,1024,4095,8191,16383,16383,0,98303,262143], Av.len_ok rfl (by kernel_rfl), ?_⟩ | refine ⟨[], [0,1,3,0,8,24,63,127,255,255,255,0,2559,7167,16383], Av.len_ok rfl (by kernel_rfl), ?_⟩ | refine ⟨[], [0,0,1,7,15], Av.len_ok rfl (by kernel_rfl), ?_⟩ | exact True.intro | refine Av.Vb ?_ | exact ⟨rfl, rfl, rfl⟩ | exact ⟨rfl, rfl⟩ | (refine Av.Vc ?_ ?_ <;> intro hBr <;> first | (exfalso; omega) | (exfalso; contradiction) | (exfalso; exact hBr rfl) | skip) | refine Av.Vd ?_ | exact rfl)
 ·have ct := ct rfl
  rcases h with h | ⟨h1, h⟩
  all_goals
   rcases htv with rfl | rfl
   all_goals
    cases q with
    | sh => exact absurd (show Pd.isSh .sh = false from hq) (by decide)
    | _ =>
     refine SM_ Tryz.func83 (by kernel_rfl) rfl (Nat.le_of_ble_eq_true rfl) (Nat.le_succ 1) ?_
     show avc Tryz.prog SP _ _ _ _ _ _
     dsimp only [avc, startS, Array.toList, Tryz.f83]
     repeat' ((try conv => whnf) <;> first | refine Av.Va ?_ | refine ⟨_, _, _, c1, ?_⟩ | refine ⟨_, c2, ?_⟩ | refine ⟨_, c3, ?_⟩ | refine ⟨_, _, _, c4, ?_⟩ | refine ⟨_, cr, ?_⟩ | refine ⟨_, ct, ?_⟩ | refine ⟨[], [0,0,0,4,14,0,32,127,0,256,0,1024,4095,8191,16383,16383,0,98303,262143], Av.len_ok rfl (by kernel_rfl), ?_⟩ | refine ⟨[], [0,1,3,0,8,24,63,127,255,255,255,0,2559,7167,16383], Av.len_ok rfl (by kernel_rfl), ?_⟩ | refine ⟨[], [0,0,1,7,15], Av.len_ok rfl (by kernel_rfl), ?_⟩ | exact True.intro | refine Av.Vb ?_ | exact ⟨rfl, rfl, rfl⟩ | exact ⟨rfl, rfl⟩ | (refine Av.Vc ?_ ?_ <;> intro hBr <;> first | (exfalso; omega) | (exfalso; contradiction) | (exfalso; exact hBr rfl) | skip) | refine Av.Vd ?_ | exact rfl)
end
end Go.Proofs.YtbaedepmogkkeaaGreat.Av
