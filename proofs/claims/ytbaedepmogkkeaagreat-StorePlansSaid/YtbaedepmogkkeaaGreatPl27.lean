/- What the claim stands on, Pl27: contracts of functions and plain facts. No conditions. -/
import Derived.Test.YtbaedepmogkkeaaGreatPl26
namespace Go.Proofs.YtbaedepmogkkeaaGreat.Av
open Go Go.RowKit Tre
set_option linter.unusedVariables false
set_option linter.unusedSimpArgs false
set_option maxRecDepth 100000
set_option maxHeartbeats 4000000
theorem room_r {k : Nat} (hk : k ≤ 1000000000000) : room k (bytesT Tryz.prog 124) := by
 rw [show bytesT Tryz.prog 124 = 40 by kernel_rfl]; unfold room; omega
theorem opsOneR (o : OpP) : ([.ex (.int .u8 o.1), T o.2.1, T o.2.2] : List AV).length = 1 * sizeT Tryz.prog 124 ∧ ∀ v ∈ ([.ex (.int .u8 o.1), T o.2.1, T o.2.2] : List AV), one1 v = true := by
 rw [hsRt]; exact ⟨rfl, one_op [o]⟩
theorem decode13_no (s t : List UInt8) (e : Int) (he : e ≠ 0) (co : SP 196 [T s] (TE t e)) : SP 147 [T s] (.tup [.vs 0 [], Z e]) := by
 refine S_ Tryz.func147 (by kernel_rfl) rfl (Nat.le_of_ble_eq_true rfl) ?_
 show avc Tryz.prog SP _ _ _ _ _ _
 dsimp only [avc, startS, Array.toList, Tryz.f147]
 repeat' ((try conv => whnf) <;> first | refine Av.Va ?_ | refine ⟨_, co, ?_⟩ | refine ⟨[], [0,1,0,7], Av.len_ok rfl (by kernel_rfl), ?_⟩ | exact True.intro | refine Av.Vb ?_ | exact ⟨rfl, rfl, rfl⟩ | exact ⟨rfl, rfl⟩ | (refine Av.Vc ?_ ?_ <;> intro hBr <;> first | (exfalso; omega) | (exfalso; contradiction) | (exfalso; exact hBr rfl) | skip) | refine Av.Vd ?_ | exact rfl)
theorem decode13_bad (s t : List UInt8) (n : Nat) (p b : Int) (hb : b ≠ 0) (co : SP 196 [T s] (TE t 0)) (cn : SP 135 [scM t 0 0, Z 1] (numM n t p b)) : SP 147 [T s] (.tup [.vs 0 [], Z b]) := by
 refine S_ Tryz.func147 (by kernel_rfl) rfl (Nat.le_of_ble_eq_true rfl) ?_
 show avc Tryz.prog SP _ _ _ _ _ _
 dsimp only [avc, startS, Array.toList, Tryz.f147]
 repeat' ((try conv => whnf) <;> first | refine Av.Va ?_ | refine ⟨_, co, ?_⟩ | refine ⟨_, cn, ?_⟩ | refine ⟨[], [0,1,0,7], Av.len_ok rfl (by kernel_rfl), ?_⟩ | exact True.intro | refine Av.Vb ?_ | exact ⟨rfl, rfl, rfl⟩ | exact ⟨rfl, rfl⟩ | (refine Av.Vc ?_ ?_ <;> intro hBr <;> first | (exfalso; omega) | (exfalso; contradiction) | (exfalso; exact hBr rfl) | skip) | refine Av.Vd ?_ | exact rfl)
theorem decode13_many (s t : List UInt8) (n : Nat) (p : Int) (hn : 40 < n) (co : SP 196 [T s] (TE t 0)) (cn : SP 135 [scM t 0 0, Z 1] (numM n t p 0)) : SP 147 [T s] (.tup [.vs 0 [], Z 24]) := by
 refine S_ Tryz.func147 (by kernel_rfl) rfl (Nat.le_of_ble_eq_true rfl) ?_
 show avc Tryz.prog SP _ _ _ _ _ _
 dsimp only [avc, startS, Array.toList, Tryz.f147]
 repeat' ((try conv => whnf) <;> first | refine Av.Va ?_ | refine ⟨_, co, ?_⟩ | refine ⟨_, cn, ?_⟩ | refine ⟨[], [0,1,0,7], Av.len_ok rfl (by kernel_rfl), ?_⟩ | exact True.intro | refine Av.Vb ?_ | exact ⟨rfl, rfl, rfl⟩ | exact ⟨rfl, rfl⟩ | (refine Av.Vc ?_ ?_ <;> intro hBr <;> first | (exfalso; omega) | (exfalso; contradiction) | (exfalso; exact hBr rfl) | skip) | refine Av.Vd ?_ | exact rfl)
theorem takerow_snd (t : List UInt8) (p b : Int) (hl : t.length ≤ 70368744177664) : SP 136 [scM t p b] (rowM (Quill.Sc.row ⟨t, p, b⟩).1 t (Quill.Sc.row ⟨t, p, b⟩).2.pos (Quill.Sc.row ⟨t, p, b⟩).2.bad) :=
 rrow_snd ⟨t, p, b⟩ hl
theorem fin_in {t : List UInt8} {p : Nat} (h : p ≤ t.length) : Quill.Sc.fin ⟨t, (p : Int), 0⟩ = if (p : Int) = (t.length : Int) then 0 else 4 := by
 by_cases e : (p : Int) = (t.length : Int)
 ·rw [if_pos e, e]; exact fin_zero t
 ·rw [if_neg e]
  unfold Quill.Sc.fin
  rw [if_neg (by simp)]
  rw [if_neg (by unfold Quill.Sc.stands; rw [decide_eq_true ⟨by show (0 : Int) ≤ p; omega, by show (p : Int) ≤ t.length; omega⟩]; simp), if_pos (by show (p : Int) < t.length; omega)]
theorem decode13_walk (s t : List UInt8) (n : Nat) (p0 : Nat) (hp0 : p0 ≤ t.length) (hn : n ≤ 40) (hs : (bs s).size ≤ 1000000000) (htl : t.length ≤ 1000000000) (co : SP 196 [T s] (TE t 0)) (cn : SP 135 [scM t 0 0, Z 1] (numM n t p0 0))
  (L : List OpP) (sf : Quill.Sc) (hL : scanN n ⟨t, p0, 0⟩ = (L, sf)) (R : List OpP) (e : Int)
  (h1 : sf.fin ≠ 0 → R = [] ∧ e = sf.fin) (h2 : sf.fin = 0 → 1400 < (bs s).size → R = [] ∧ e = 7) (h3 : sf.fin = 0 → ¬ 1400 < (bs s).size → R = L ∧ e = 0) :
  SP 147 [T s] (.tup [.vs R.length (opC R), Z e]) := by
 refine S_ Tryz.func147 (by kernel_rfl) rfl (Nat.le_of_ble_eq_true rfl) ?_
 show avc Tryz.prog SP _ _ _ _ _ _
 dsimp only [avc, startS, Array.toList, Tryz.f147]
 repeat' ((try conv => whnf) <;> first | refine Av.Va ?_ | refine ⟨_, co, ?_⟩ | refine ⟨_, cn, ?_⟩ | refine ⟨[], [0,1,0,7], Av.len_ok rfl (by kernel_rfl), ?_⟩ | exact True.intro | refine Av.Vb ?_ | exact ⟨rfl, rfl, rfl⟩ | exact ⟨rfl, rfl⟩ | (refine Av.Vc ?_ ?_ <;> intro hBr <;> first | (exfalso; omega) | (exfalso; contradiction) | (exfalso; exact hBr rfl) | skip) | refine Av.Vd ?_ | exact rfl)
 refine ⟨[9, 6, 7, 8, 4, 0], [(8, some 124)], fun vs bl => ∃ (k p : Nat) (D : List AV), k ≤ n ∧ p ≤ t.length ∧ D.length = k * 3 ∧ (∀ N, scanN (n - k) ⟨t, p, 0⟩ = (N, sf) → D ++ opC N = opC L) ∧ (scanN (n - k) ⟨t, p, 0⟩).2 = sf ∧ (vs = [Z k, U n, .ptr 0 0, .sl 1 k, T t, T s] ∧ bl = [⟨[T t, Z p, Z 0], none, false, true⟩, ⟨D, some 124, false, true⟩]), muI n, ?_, ?_⟩
 ·refine ⟨0, p0, [], by omega, hp0, rfl, fun N hN => ?_, by rw [Nat.sub_zero, hL], rfl, rfl⟩
  rw [Nat.sub_zero, hL] at hN
  injection hN with hN _
  rw [← hN]; rfl
 clear co cn hL
 rintro vs bl ⟨k, p, D, hi, hp, hD, hM, hsf, rfl, rfl⟩
 have hDl : D.length = k * sizeT Tryz.prog 124 := by rw [hsRt]; exact hD
 by_cases hlt : k < n
 ·have hdec : n - ((k : Int) + 1).toNat < n - (k : Int).toNat := by omega
  obtain ⟨m, hm⟩ : ∃ m, n - k = m + 1 := ⟨n - k - 1, by omega⟩
  have hm2 : n - (k + 1) = m := by omega
  rw [hm] at hM hsf
  have es : scanN (m + 1) ⟨t, p, 0⟩ = if (scanP ⟨t, p, 0⟩).2.bad ≠ 0 then ([], (scanP ⟨t, p, 0⟩).2) else ((scanP ⟨t, p, 0⟩).1 :: (scanN m (scanP ⟨t, p, 0⟩).2).1, (scanN m (scanP ⟨t, p, 0⟩).2).2) := rfl
  rw [es] at hM hsf
  clear es
  have hback := scan_back t p
  -- what is bad ends it
  have ends : ∀ o q b, scanP ⟨t, p, 0⟩ = (o, ⟨t, q, b⟩) → b ≠ 0 → R = [] ∧ e = b := fun o q b h hb => by
   rw [h, if_pos (show (Quill.Sc.mk t q b).bad ≠ 0 from hb)] at hsf
   have hsf : Quill.Sc.mk t q b = sf := hsf
   have hf : sf.fin = b := by rw [← hsf]; unfold Quill.Sc.fin; rw [if_pos (show (Quill.Sc.mk t q b).bad ≠ 0 from hb)]
   have := h1 (by rw [hf]; exact hb)
   rw [hf] at this; exact this
  -- what is not goes on
  have goes : ∀ o q, scanP ⟨t, p, 0⟩ = (o, ⟨t, q, 0⟩) → ∃ q' : Nat, q = q' ∧ q' ≤ t.length ∧ (∀ N, scanN (n - (k + 1)) ⟨t, q', 0⟩ = (N, sf) → (D ++ [.ex (.int .u8 o.1), T o.2.1, T o.2.2]) ++ opC N = opC L) ∧ (scanN (n - (k + 1)) ⟨t, q', 0⟩).2 = sf := fun o q h => by
   obtain ⟨o', _, k2, _, k4⟩ := hback (by rw [h])
   rw [h] at k4
   injection k4 with k5 k6
   injection k6 with _ k6 _
   rw [h, if_neg (by simp)] at hsf
   rw [h, if_neg (by simp)] at hM
   simp only at hsf hM
   subst k6
   refine ⟨_, rfl, k2, fun N hN => ?_, by rw [hm2]; exact hsf⟩
   rw [hm2] at hN
   have := hM (o :: N) (by rw [hN])
   rw [← this, List.append_assoc]; rfl
  have cn := takenum_snd t p 0 1 (by omega)
  have hnl := num_lt t p 0
  have e1 := sc_eta _ _ (Quill.Sc.num_text ⟨t, p, 0⟩ 1)
  unfold scanP at ends goes
  rw [e1] at ends goes
  clear hsf hM hback h1 h2 h3
  generalize (Quill.Sc.num ⟨t, p, 0⟩ 1).2.pos = p1 at *
  generalize (Quill.Sc.num ⟨t, p, 0⟩ 1).2.bad = b1 at *
  generalize (Quill.Sc.num ⟨t, p, 0⟩ 1).1 = c at *
  clear e1
  by_cases hb : b1 ≠ 0
  ·obtain ⟨rfl, rfl⟩ := ends _ _ _ (if_pos (show (Quill.Sc.mk t p1 b1).bad ≠ 0 from hb)) hb
   clear ends goes
   repeat' ((try conv => whnf) <;> first | refine Av.Va ?_ | refine ⟨_, cn, ?_⟩ | refine ⟨[], [0,1,0,7], Av.len_ok rfl (by kernel_rfl), ?_⟩ | exact True.intro | refine Av.Vb ?_ | exact ⟨rfl, rfl, rfl⟩ | exact ⟨rfl, rfl⟩ | (refine Av.Vc ?_ ?_ <;> intro hBr <;> first | (exfalso; omega) | (exfalso; contradiction) | (exfalso; exact hBr rfl) | skip) | refine Av.Vd ?_ | exact rfl)
  obtain rfl : b1 = 0 := by simpa using hb
  rw [if_neg (show ¬ (Quill.Sc.mk t p1 0).bad ≠ 0 by simp)] at ends goes
  simp only at ends goes
  by_cases hk : c < 1 ∨ 3 < c
  ·obtain ⟨rfl, rfl⟩ := ends _ _ _ (if_pos hk) (by decide)
   clear ends goes
   rcases hk with hk | hk
   ·repeat' ((try conv => whnf) <;> first | refine Av.Va ?_ | refine ⟨_, cn, ?_⟩ | refine ⟨[], [0,1,0,7], Av.len_ok rfl (by kernel_rfl), ?_⟩ | exact True.intro | refine Av.Vb ?_ | exact ⟨rfl, rfl, rfl⟩ | exact ⟨rfl, rfl⟩ | (refine Av.Vc ?_ ?_ <;> intro hBr <;> first | (exfalso; omega) | (exfalso; contradiction) | (exfalso; exact hBr rfl) | skip) | refine Av.Vd ?_ | exact rfl)
   ·repeat' ((try conv => whnf) <;> first | refine Av.Va ?_ | refine ⟨_, cn, ?_⟩ | refine ⟨[], [0,1,0,7], Av.len_ok rfl (by kernel_rfl), ?_⟩ | exact True.intro | refine Av.Vb ?_ | exact ⟨rfl, rfl, rfl⟩ | exact ⟨rfl, rfl⟩ | (refine Av.Vc ?_ ?_ <;> intro hBr <;> first | (exfalso; omega) | (exfalso; contradiction) | (exfalso; exact hBr rfl) | skip) | refine Av.Vd ?_ | exact rfl)
  rw [if_neg hk] at ends goes
  have cr := takerow_snd t p1 0 (by omega)
  have hr1 := row_len t p1 0
  have e2 := sc_eta _ _ (Quill.Sc.row_text ⟨t, p1, 0⟩)
  rw [e2] at ends goes
  generalize (Quill.Sc.row ⟨t, p1, 0⟩).2.pos = p2 at *
  generalize (Quill.Sc.row ⟨t, p1, 0⟩).2.bad = b2 at *
  generalize (Quill.Sc.row ⟨t, p1, 0⟩).1 = key at *
  clear e2
  have hw : IntKind.u8.wrap (c : Int) = (c : Int) := wrap_u8 (by omega) (by omega)
  by_cases k1 : c = 1
  ·rw [if_pos k1] at ends goes
   subst k1
   have cr2 := takerow_snd t p2 b2 (by omega)
   have hr2 := row_len t p2 b2
   have e3 := sc_eta _ _ (Quill.Sc.row_text ⟨t, p2, b2⟩)
   rw [e3] at ends goes
   generalize (Quill.Sc.row ⟨t, p2, b2⟩).2.pos = p3 at *
   generalize (Quill.Sc.row ⟨t, p2, b2⟩).2.bad = b3 at *
   generalize (Quill.Sc.row ⟨t, p2, b2⟩).1 = val at *
   clear e3
   by_cases h3 : b3 = 0
   ·subst h3
    rw [if_pos rfl] at ends goes
    have cc := one13_raw 1 key val (by omega) (by omega) _ rfl
    have ho := opsOneR (1, key, val)
    generalize checkP (1, key, val) = z at *
    by_cases hz : z ≠ 0
    ·obtain ⟨rfl, rfl⟩ := ends _ _ _ rfl hz
     clear ends goes
     repeat' ((try conv => whnf) <;> first | refine Av.Va ?_ | refine ⟨_, cn, ?_⟩ | refine ⟨_, cr, ?_⟩ | refine ⟨_, cr2, ?_⟩ | refine ⟨_, cc, ?_⟩ | refine ⟨[], [0,1,0,7], Av.len_ok rfl (by kernel_rfl), ?_⟩ | exact True.intro | refine Av.Vb ?_ | exact ⟨rfl, rfl, rfl⟩ | exact ⟨rfl, rfl⟩ | (refine Av.Vc ?_ ?_ <;> intro hBr <;> first | (exfalso; omega) | (exfalso; contradiction) | (exfalso; exact hBr rfl) | skip) | refine Av.Vd ?_ | exact rfl)
    ·obtain rfl : z = 0 := by simpa using hz
     obtain ⟨q', rfl, hq, g1, g2⟩ := goes _ _ rfl
     clear ends goes
     repeat' ((try conv => whnf) <;> first | refine Av.Va ?_ | refine ⟨_, cn, ?_⟩ | refine ⟨_, cr, ?_⟩ | refine ⟨_, cr2, ?_⟩ | refine ⟨_, cc, ?_⟩ | (refine ⟨true, ?_⟩) | (refine And.intro ⟨room_r (by omega), hDl, ho⟩ ?_) | refine ⟨[], [0,1,0,7], Av.len_ok rfl (by kernel_rfl), ?_⟩ | exact True.intro | refine Av.Vb ?_ | exact ⟨rfl, rfl, rfl⟩ | exact ⟨rfl, rfl⟩ | (refine Av.Vc ?_ ?_ <;> intro hBr <;> first | (exfalso; omega) | (exfalso; contradiction) | (exfalso; exact hBr rfl) | skip) | refine Av.Vd ?_ | exact rfl)
     exact ⟨⟨k + 1, q', _, by omega, hq, by rw [List.length_append, hD]; show k * 3 + 3 = _; omega, g1, g2, rfl, rfl⟩, hdec⟩
   ·rw [if_neg (show ¬ (Quill.Sc.mk t p3 b3).bad = 0 from h3)] at ends
    obtain ⟨rfl, rfl⟩ := ends _ _ _ rfl h3
    clear ends goes
    repeat' ((try conv => whnf) <;> first | refine Av.Va ?_ | refine ⟨_, cn, ?_⟩ | refine ⟨_, cr, ?_⟩ | refine ⟨_, cr2, ?_⟩ | refine ⟨[], [0,1,0,7], Av.len_ok rfl (by kernel_rfl), ?_⟩ | exact True.intro | refine Av.Vb ?_ | exact ⟨rfl, rfl, rfl⟩ | exact ⟨rfl, rfl⟩ | (refine Av.Vc ?_ ?_ <;> intro hBr <;> first | (exfalso; omega) | (exfalso; contradiction) | (exfalso; exact hBr rfl) | skip) | refine Av.Vd ?_ | exact rfl)
  ·rw [if_neg k1] at ends goes
   have g1 : ¬ (c : Int) = 1 := by omega
   by_cases h3 : b2 = 0
   ·subst h3
    rw [if_pos rfl] at ends goes
    have cc := one13_raw c key [] (by omega) (by simp) _ rfl
    have ho := opsOneR (c, key, [])
    generalize checkP (c, key, []) = z at *
    by_cases hz : z ≠ 0
    ·obtain ⟨rfl, rfl⟩ := ends _ _ _ rfl hz
     clear ends goes
     repeat' ((try conv => whnf) <;> first | refine Av.Va ?_ | refine ⟨_, cn, ?_⟩ | refine ⟨_, cr, ?_⟩ | refine ⟨_, cc, ?_⟩ | (refine ⟨_, hw, ?_⟩) | refine ⟨[], [0,1,0,7], Av.len_ok rfl (by kernel_rfl), ?_⟩ | exact True.intro | refine Av.Vb ?_ | exact ⟨rfl, rfl, rfl⟩ | exact ⟨rfl, rfl⟩ | (refine Av.Vc ?_ ?_ <;> intro hBr <;> first | (exfalso; omega) | (exfalso; contradiction) | (exfalso; exact hBr rfl) | skip) | refine Av.Vd ?_ | exact rfl)
    ·obtain rfl : z = 0 := by simpa using hz
     obtain ⟨q', rfl, hq, g1', g2⟩ := goes _ _ rfl
     clear ends goes
     repeat' ((try conv => whnf) <;> first | refine Av.Va ?_ | refine ⟨_, cn, ?_⟩ | refine ⟨_, cr, ?_⟩ | refine ⟨_, cc, ?_⟩ | (refine ⟨true, ?_⟩) | (refine And.intro ⟨room_r (by omega), hDl, ho⟩ ?_) | refine ⟨[], [0,1,0,7], Av.len_ok rfl (by kernel_rfl), ?_⟩ | exact True.intro | refine Av.Vb ?_ | exact ⟨rfl, rfl, rfl⟩ | exact ⟨rfl, rfl⟩ | (refine Av.Vc ?_ ?_ <;> intro hBr <;> first | (exfalso; omega) | (exfalso; contradiction) | (exfalso; exact hBr rfl) | skip) | refine Av.Vd ?_ | exact rfl)
     exact ⟨⟨k + 1, q', _, by omega, hq, by rw [List.length_append, hD]; show k * 3 + 3 = _; omega, g1', g2, rfl, rfl⟩, hdec⟩
   ·rw [if_neg (show ¬ (Quill.Sc.mk t p2 b2).bad = 0 from h3)] at ends
    obtain ⟨rfl, rfl⟩ := ends _ _ _ rfl h3
    clear ends goes
    repeat' ((try conv => whnf) <;> first | refine Av.Va ?_ | refine ⟨_, cn, ?_⟩ | refine ⟨_, cr, ?_⟩ | refine ⟨[], [0,1,0,7], Av.len_ok rfl (by kernel_rfl), ?_⟩ | exact True.intro | refine Av.Vb ?_ | exact ⟨rfl, rfl, rfl⟩ | exact ⟨rfl, rfl⟩ | (refine Av.Vc ?_ ?_ <;> intro hBr <;> first | (exfalso; omega) | (exfalso; contradiction) | (exfalso; exact hBr rfl) | skip) | refine Av.Vd ?_ | exact rfl)
 ·obtain rfl : k = n := by omega
  rw [Nat.sub_self] at hsf hM
  have hsf : Quill.Sc.mk t p 0 = sf := hsf
  have hD2 : D = opC L := by have := hM [] (by rw [← hsf]; rfl); rwa [show opC [] = [] from rfl, List.append_nil] at this
  have hkl : k = L.length := by have := opC_len L; rw [← hD2, hD] at this; omega
  rw [← hsf, fin_in hp] at h1 h2 h3
  have hz := bs_size t
  clear hM hsf
  by_cases hf : (p : Int) = (t.length : Int)
  ·rw [if_pos hf] at h1 h2 h3
   by_cases hl : 1400 < (bs s).size
   ·obtain ⟨rfl, rfl⟩ := h2 rfl hl
    clear h1 h2 h3
    repeat' ((try conv => whnf) <;> first | refine Av.Va ?_ | refine ⟨[], [0,1,0,7], Av.len_ok rfl (by kernel_rfl), ?_⟩ | exact True.intro | refine Av.Vb ?_ | exact ⟨rfl, rfl, rfl⟩ | exact ⟨rfl, rfl⟩ | (refine Av.Vc ?_ ?_ <;> intro hBr <;> first | (exfalso; omega) | (exfalso; contradiction) | (exfalso; exact hBr rfl) | skip) | refine Av.Vd ?_ | exact rfl)
   ·obtain ⟨rfl, rfl⟩ := h3 rfl hl
    clear h1 h2 h3
    rw [← hkl, ← hD2]
    repeat' ((try conv => whnf) <;> first | refine Av.Va ?_ | refine ⟨[], [0,1,0,7], Av.len_ok rfl (by kernel_rfl), ?_⟩ | exact True.intro | refine Av.Vb ?_ | exact ⟨rfl, rfl, rfl⟩ | exact ⟨rfl, rfl⟩ | (refine Av.Vc ?_ ?_ <;> intro hBr <;> first | (exfalso; omega) | (exfalso; contradiction) | (exfalso; exact hBr rfl) | skip) | refine Av.Vd ?_ | exact rfl)
  ·rw [if_neg hf] at h1 h2 h3
   obtain ⟨rfl, rfl⟩ := h1 (by decide)
   clear h1 h2 h3
   repeat' ((try conv => whnf) <;> first | refine Av.Va ?_ | refine ⟨[], [0,1,0,7], Av.len_ok rfl (by kernel_rfl), ?_⟩ | exact True.intro | refine Av.Vb ?_ | exact ⟨rfl, rfl, rfl⟩ | exact ⟨rfl, rfl⟩ | (refine Av.Vc ?_ ?_ <;> intro hBr <;> first | (exfalso; omega) | (exfalso; contradiction) | (exfalso; exact hBr rfl) | skip) | refine Av.Vd ?_ | exact rfl)
theorem decode13_ok (s : List UInt8) (hs : s.length ≤ 1048576) : SP 147 [T s] (.tup [.vs (decOps s).1.length (opC (decOps s).1), Z (decOps s).2]) := by
 have co := rcrcopen_ok s hs
 have hol := opened_len s
 unfold decOps
 generalize (Crc.opened s).1 = t at co hol ⊢
 generalize (Crc.opened s).2 = e at co ⊢
 by_cases h0 : e ≠ 0
 ·rw [if_pos h0]; exact decode13_no s t e h0 co
 rw [if_neg h0]
 obtain rfl : e = 0 := by simpa using h0
 have cn := takenum_snd t 0 0 1 (by omega)
 have hnb := num_back t 0 1 (by omega) (by omega)
 have hnb : (Quill.Sc.num ⟨t, 0, 0⟩ 1).2.bad = 0 → 0 + 1 ≤ t.length ∧ Quill.Sc.num ⟨t, 0, 0⟩ 1 = (Quill.tell ((t.drop 0).take 1), ⟨t, ((0 + 1 : Nat) : Int), 0⟩) := hnb
 have hbad : (Quill.Sc.num ⟨t, 0, 0⟩ 1).2.bad ≠ 0 → (Quill.Sc.num ⟨t, 0, 0⟩ 1).1 = 0 := fun h2 => by
  unfold Quill.Sc.num at h2 ⊢
  split
  ·rfl
  ·split
   ·rfl
   ·split
    ·rfl
    ·rename_i a1 a2 a3; exact absurd (by rw [if_neg a1, if_neg a2, if_neg a3]) h2
 have e1 := sc_eta _ _ (Quill.Sc.num_text ⟨t, 0, 0⟩ 1)
 simp only at e1
 have hpos : (Quill.Sc.num ⟨t, 0, 0⟩ 1).2.bad = 0 → (Quill.Sc.num ⟨t, 0, 0⟩ 1).2.pos = ((1 : Nat) : Int) ∧ 1 ≤ t.length := fun h => by
  obtain ⟨a, b⟩ := hnb h
  rw [b]; exact ⟨rfl, by omega⟩
 clear hnb
 generalize (Quill.Sc.num ⟨t, 0, 0⟩ 1).1 = n at cn hbad ⊢
 rw [e1]
 generalize (Quill.Sc.num ⟨t, 0, 0⟩ 1).2.pos = p at cn hpos ⊢
 generalize (Quill.Sc.num ⟨t, 0, 0⟩ 1).2.bad = b at cn hbad hpos ⊢
 by_cases hb : b ≠ 0
 ·obtain rfl := hbad hb
  have hf : (Quill.Sc.mk t p b).fin = b := by unfold Quill.Sc.fin; rw [if_pos (show (Quill.Sc.mk t p b).bad ≠ 0 from hb)]
  rw [if_neg (by omega), show (scanN 0 ⟨t, p, b⟩) = ([], ⟨t, p, b⟩) from rfl]
  simp only
  rw [hf, if_pos hb]
  exact decode13_bad s t 0 p b hb co cn
 obtain rfl : b = 0 := by simpa using hb
 obtain ⟨rfl, hp⟩ := hpos rfl
 by_cases h40 : 40 < n
 ·rw [if_pos h40]; exact decode13_many s t n _ h40 co cn
 rw [if_neg h40]
 obtain ⟨L, sf, hL⟩ : ∃ L sf, scanN n ⟨t, ((1 : Nat) : Int), 0⟩ = (L, sf) := ⟨_, _, rfl⟩
 rw [hL]
 have hz := bs_size s
 refine decode13_walk s t n 1 hp (by omega) (by omega) (by omega) co cn L sf hL _ _ (fun h => ?_) (fun h h2 => ?_) (fun h h2 => ?_)
 ·simp only; rw [if_pos h]; exact ⟨rfl, rfl⟩
 ·simp only; rw [if_neg (by rw [h]; simp), if_pos (by omega)]; exact ⟨rfl, rfl⟩
 ·simp only; rw [if_neg (by rw [h]; simp), if_neg (by omega)]; exact ⟨rfl, rfl⟩
end Go.Proofs.YtbaedepmogkkeaaGreat.Av
