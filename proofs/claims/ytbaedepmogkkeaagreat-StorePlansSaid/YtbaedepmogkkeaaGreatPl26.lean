/- What the claim stands on, Pl26: contracts of functions and plain facts. No conditions. -/
import Derived.Test.YtbaedepmogkkeaaGreatPl25
import Derived.Test.YtbaedepmogkkeaaGreatPl23
import Derived.Test.YtbaedepmogkkeaaGreatPl12
import Derived.Test.YtbaedepmogkkeaaGreatPl20
import Derived.Test.YtbaedepmogkkeaaGreatPl24
namespace Go.Proofs.YtbaedepmogkkeaaGreat.Av
open Go Go.RowKit Tre
set_option linter.unusedVariables false
set_option linter.unusedSimpArgs false
set_option maxRecDepth 100000
set_option maxHeartbeats 1000000
theorem scanrow_snd (t : List UInt8) (p b : Int) (hl : t.length ≤ 70368744177664) : SP 127 [scM t p b] (.ex (.tuple #[.string (bs (Quill.Sc.row ⟨t, p, b⟩).1), .agg #[.string (bs t), .int .i64 (Quill.Sc.row ⟨t, p, b⟩).2.pos, .int .i64 (Quill.Sc.row ⟨t, p, b⟩).2.bad]])) :=
 sound_ex (vs := [_]) Tryz.func127 (by kernel_rfl) rfl (fun w => srow ⟨t, p, b⟩ w hl)
theorem scanend_snd (t : List UInt8) (p b : Int) (hl : t.length ≤ 70368744177664) : SP 128 [scM t p b] (Z (Quill.Sc.fin ⟨t, p, b⟩)) :=
 sound_ex (vs := [_]) Tryz.func128 (by kernel_rfl) rfl (fun w => sfin ⟨t, p, b⟩ w (by simp only; omega))
abbrev rowM (k : List UInt8) (t : List UInt8) (p b : Int) : AV := .ex (.tuple #[.string (bs k), .agg #[.string (bs t), .int .i64 p, .int .i64 b]])
theorem scanOp_bad (t : List UInt8) (p b p1 b1 : Int) (n : Nat) (hb : b1 ≠ 0) (cn : SP 126 [scM t p b, Z 1] (numM n t p1 b1)) :
  SP 192 [scM t p b] (.tup [.ex (.agg #[.int .u8 0, .string (bs []), .string (bs [])]), scM t p1 b1]) := by
 refine S_ Tryz.func192 (by kernel_rfl) rfl (Nat.le_of_ble_eq_true rfl) ?_
 show avc Tryz.prog SP _ _ _ _ _ _
 dsimp only [avc, startS, Array.toList, Tryz.f192]
 have hW0 : Av.Mk 4 [0,0,1,7] := ⟨⟩
 exact Av.W
theorem scanOp_kind (t : List UInt8) (p b p1 : Int) (n : Nat) (hn : n < 256) (hk : n < 1 ∨ 3 < n) (cn : SP 126 [scM t p b, Z 1] (numM n t p1 0)) :
  SP 192 [scM t p b] (.tup [.ex (.agg #[.int .u8 n, .string (bs []), .string (bs [])]), scM t p1 22]) := by
 refine S_ Tryz.func192 (by kernel_rfl) rfl (Nat.le_of_ble_eq_true rfl) ?_
 show avc Tryz.prog SP _ _ _ _ _ _
 dsimp only [avc, startS, Array.toList, Tryz.f192]
 have hW1 : Av.Mk 4 [0,0,1,7] := ⟨⟩
 exact Av.W
theorem scanOp_two (t : List UInt8) (p b p1 p2 b2 p3 b3 e : Int) (k v : List UInt8) (cn : SP 126 [scM t p b, Z 1] (numM 1 t p1 0)) (cr : SP 127 [scM t p1 0] (rowM k t p2 b2)) (cr2 : SP 127 [scM t p2 b2] (rowM v t p3 b3))
  (cc : b3 = 0 → SP 202 [.ex (.agg #[.int .u8 1, .string (bs k), .string (bs v)])] (Z e)) (r : Int) (hr0 : b3 = 0 → r = e) (hr1 : b3 ≠ 0 → r = b3) :
  SP 192 [scM t p b] (.tup [.ex (.agg #[.int .u8 1, .string (bs k), .string (bs v)]), scM t p3 r]) := by
 by_cases h : b3 = 0
 ·obtain rfl := hr0 h
  have c := cc h
  subst h
  clear cc hr0 hr1
  refine S_ Tryz.func192 (by kernel_rfl) rfl (Nat.le_of_ble_eq_true rfl) ?_
  show avc Tryz.prog SP _ _ _ _ _ _
  dsimp only [avc, startS, Array.toList, Tryz.f192]
  have hW2 : Av.Mk 4 [0,0,1,7] := ⟨⟩
  exact Av.W
 ·obtain rfl := hr1 h
  clear cc hr0 hr1
  refine S_ Tryz.func192 (by kernel_rfl) rfl (Nat.le_of_ble_eq_true rfl) ?_
  show avc Tryz.prog SP _ _ _ _ _ _
  dsimp only [avc, startS, Array.toList, Tryz.f192]
  have hW3 : Av.Mk 4 [0,0,1,7] := ⟨⟩
  exact Av.W
theorem scanOp_one (t : List UInt8) (p b p1 p2 b2 e : Int) (n : Nat) (hn : n = 2 ∨ n = 3) (k : List UInt8) (cn : SP 126 [scM t p b, Z 1] (numM n t p1 0)) (cr : SP 127 [scM t p1 0] (rowM k t p2 b2))
  (cc : b2 = 0 → SP 202 [.ex (.agg #[.int .u8 n, .string (bs k), .string (bs [])])] (Z e)) (r : Int) (hr0 : b2 = 0 → r = e) (hr1 : b2 ≠ 0 → r = b2) :
  SP 192 [scM t p b] (.tup [.ex (.agg #[.int .u8 n, .string (bs k), .string (bs [])]), scM t p2 r]) := by
 have g1 : ¬ (n : Int) = 1 := by omega
 by_cases h : b2 = 0
 ·obtain rfl := hr0 h
  have c := cc h
  subst h
  clear cc hr0 hr1
  refine S_ Tryz.func192 (by kernel_rfl) rfl (Nat.le_of_ble_eq_true rfl) ?_
  show avc Tryz.prog SP _ _ _ _ _ _
  dsimp only [avc, startS, Array.toList, Tryz.f192]
  have hW4 : Av.Mk 4 [0,0,1,7] := ⟨⟩
  exact Av.W
 ·obtain rfl := hr1 h
  clear cc hr0 hr1
  refine S_ Tryz.func192 (by kernel_rfl) rfl (Nat.le_of_ble_eq_true rfl) ?_
  show avc Tryz.prog SP _ _ _ _ _ _
  dsimp only [avc, startS, Array.toList, Tryz.f192]
  have hW5 : Av.Mk 4 [0,0,1,7] := ⟨⟩
  exact Av.W
theorem row_len (t : List UInt8) (p b : Int) : (Quill.Sc.row ⟨t, p, b⟩).1.length ≤ t.length := by
 unfold Quill.Sc.row
 split
 ·simp
 ·split
  ·simp
  ·simp only [List.length_take, List.length_drop]; omega
theorem num_lt (t : List UInt8) (p b : Int) : (Quill.Sc.num ⟨t, p, b⟩ 1).1 < 256 := by
 unfold Quill.Sc.num
 split
 ·simp
 ·split
  ·simp
  ·split
   ·simp
   ·simp only
    have h := Quill.tell_lt ((t.drop p.toNat).take (1 : Int).toNat)
    have hl : ((t.drop p.toNat).take (1 : Int).toNat).length ≤ 1 := by rw [List.length_take]; exact Nat.min_le_left _ _
    exact Nat.lt_of_lt_of_le h (Nat.le_trans (Nat.pow_le_pow_right (by omega) hl) (by omega))
theorem sc_eta (s : Quill.Sc) (t : List UInt8) (h : s.text = t) : s = ⟨t, s.pos, s.bad⟩ := by subst h; rfl
theorem scanOp_ok (t : List UInt8) (p b : Int) (hl : t.length ≤ 1000000000) : SP 192 [scM t p b] (.tup [opA (scanP ⟨t, p, b⟩).1, scM t (scanP ⟨t, p, b⟩).2.pos (scanP ⟨t, p, b⟩).2.bad]) := by
 have cn := scannum_snd t p b 1 (by omega)
 have hn := num_lt t p b
 have et := Quill.Sc.num_text ⟨t, p, b⟩ 1
 have e1 := sc_eta _ _ et
 unfold scanP
 rw [e1]
 generalize (Quill.Sc.num ⟨t, p, b⟩ 1).2.pos = p1 at cn ⊢
 generalize (Quill.Sc.num ⟨t, p, b⟩ 1).2.bad = b1 at cn ⊢
 generalize (Quill.Sc.num ⟨t, p, b⟩ 1).1 = n at cn hn ⊢
 by_cases hb : b1 ≠ 0
 ·rw [if_pos (show (Quill.Sc.mk t p1 b1).bad ≠ 0 from hb)]
  exact scanOp_bad t p b p1 b1 n hb cn
 rw [if_neg (show ¬ (Quill.Sc.mk t p1 b1).bad ≠ 0 from hb)]
 obtain rfl : b1 = 0 := by simpa using hb
 by_cases hk : n < 1 ∨ 3 < n
 ·rw [if_pos hk]
  exact scanOp_kind t p b p1 n hn hk cn
 rw [if_neg hk]
 have cr := scanrow_snd t p1 0 (by omega)
 have hr1 := row_len t p1 0
 have e2 := sc_eta _ _ (Quill.Sc.row_text ⟨t, p1, 0⟩)
 rw [e2]
 generalize (Quill.Sc.row ⟨t, p1, 0⟩).2.pos = p2 at cr ⊢
 generalize (Quill.Sc.row ⟨t, p1, 0⟩).2.bad = b2 at cr ⊢
 generalize (Quill.Sc.row ⟨t, p1, 0⟩).1 = k at cr hr1 ⊢
 by_cases k1 : n = 1
 ·rw [if_pos k1]
  subst k1
  have cr2 := scanrow_snd t p2 b2 (by omega)
  have hr2 := row_len t p2 b2
  have e3 := sc_eta _ _ (Quill.Sc.row_text ⟨t, p2, b2⟩)
  rw [e3]
  generalize (Quill.Sc.row ⟨t, p2, b2⟩).2.pos = p3 at cr2 ⊢
  generalize (Quill.Sc.row ⟨t, p2, b2⟩).2.bad = b3 at cr2 ⊢
  generalize (Quill.Sc.row ⟨t, p2, b2⟩).1 = v at cr2 hr2 ⊢
  have cc := opCheck_raw 1 k v (by omega) (by omega)
  by_cases h3 : b3 = 0
  ·rw [if_pos (show (Quill.Sc.mk t p3 b3).bad = 0 from h3)]
   exact scanOp_two t p b p1 p2 b2 p3 b3 _ k v cn cr cr2 (fun _ => cc) _ (fun _ => rfl) (fun h => absurd h3 h)
  ·rw [if_neg (show ¬ (Quill.Sc.mk t p3 b3).bad = 0 from h3)]
   exact scanOp_two t p b p1 p2 b2 p3 b3 0 k v cn cr cr2 (fun h => absurd h h3) _ (fun h => absurd h h3) (fun _ => rfl)
 ·rw [if_neg k1]
  have cc := opCheck_raw n k [] (by omega) (by simp)
  by_cases h3 : b2 = 0
  ·rw [if_pos (show (Quill.Sc.mk t p2 b2).bad = 0 from h3)]
   exact scanOp_one t p b p1 p2 b2 _ n (by omega) k cn cr (fun _ => cc) _ (fun _ => rfl) (fun h => absurd h3 h)
  ·rw [if_neg (show ¬ (Quill.Sc.mk t p2 b2).bad = 0 from h3)]
   exact scanOp_one t p b p1 p2 b2 0 n (by omega) k cn cr (fun h => absurd h h3) _ (fun h => absurd h h3) (fun _ => rfl)
theorem decode_no (s : List UInt8) (t : List UInt8) (e : Int) (he : e ≠ 0) (co : SP 191 [T s] (TE t e)) : SP 142 [T s] (.tup [.vs 0 [], Z e]) := by
 refine S_ Tryz.func142 (by kernel_rfl) rfl (Nat.le_of_ble_eq_true rfl) ?_
 show avc Tryz.prog SP _ _ _ _ _ _
 dsimp only [avc, startS, Array.toList, Tryz.f142]
 have hW0 : Av.Mk 4 [0,1,0,7] := ⟨⟩
 exact Av.W
theorem decode_many (s t : List UInt8) (n : Nat) (p b : Int) (hn : 40 < n) (co : SP 191 [T s] (TE t 0)) (cn : SP 126 [scM t 0 0, Z 1] (numM n t p b)) : SP 142 [T s] (.tup [.vs 0 [], Z 24]) := by
 refine S_ Tryz.func142 (by kernel_rfl) rfl (Nat.le_of_ble_eq_true rfl) ?_
 show avc Tryz.prog SP _ _ _ _ _ _
 dsimp only [avc, startS, Array.toList, Tryz.f142]
 have hW1 : Av.Mk 4 [0,1,0,7] := ⟨⟩
 exact Av.W
theorem opsOne (o : OpP) : ([.ex (.int .u8 o.1), T o.2.1, T o.2.2] : List AV).length = 1 * sizeT Tryz.prog 82 ∧ ∀ v ∈ ([.ex (.int .u8 o.1), T o.2.1, T o.2.2] : List AV), one1 v = true := by
 rw [hsO]; exact ⟨rfl, one_op [o]⟩
theorem decode_walk (s t : List UInt8) (n : Nat) (p b : Int) (hn : n ≤ 40) (hs : (bs s).size ≤ 1000000000) (co : SP 191 [T s] (TE t 0)) (cn : SP 126 [scM t 0 0, Z 1] (numM n t p b))
  (cs : ∀ x : Quill.Sc, x.text = t → SP 192 [scM t x.pos x.bad] (.tup [opA (scanP x).1, scM t (scanP x).2.pos (scanP x).2.bad])) (ht : ∀ x : Quill.Sc, x.text = t → (scanP x).2.text = t)
  (ce : ∀ x : Quill.Sc, x.text = t → SP 128 [scM t x.pos x.bad] (Z x.fin)) (L : List OpP) (sf : Quill.Sc) (hL : scanN n ⟨t, p, b⟩ = (L, sf)) (R : List OpP) (e : Int) (hfb : sf.bad ≠ 0 → sf.fin = sf.bad)
  (h1 : sf.fin ≠ 0 → R = [] ∧ e = sf.fin) (h2 : sf.fin = 0 → 1400 < (bs s).size → R = [] ∧ e = 7) (h3 : sf.fin = 0 → ¬ 1400 < (bs s).size → R = L ∧ e = 0) :
  SP 142 [T s] (.tup [.vs R.length (opC R), Z e]) := by
 refine S_ Tryz.func142 (by kernel_rfl) rfl (Nat.le_of_ble_eq_true rfl) ?_
 show avc Tryz.prog SP _ _ _ _ _ _
 dsimp only [avc, startS, Array.toList, Tryz.f142]
 have hW2 : Av.Mk 4 [0,1,0,7] := ⟨⟩
 refine Av.Wk ?_
 refine ⟨[28, 27, 7, 8, 0], [(8, some 82)], fun vs bl => ∃ (i : Nat) (x : Quill.Sc) (M : List OpP) (D : List AV) (k : Nat), i ≤ n ∧ x.text = t ∧ k = i ∧ D.length = k * 3 ∧ (∀ N, scanN (n - i) x = (N, sf) → D ++ opC N = opC L) ∧ (scanN (n - i) x).2 = sf ∧ (vs = [U i, U n, .ptr 0 0, .sl 1 k, T s] ∧ bl = [⟨[T t, Z x.pos, Z x.bad], none, false, true⟩, ⟨D, some 82, false, true⟩]), fun vs bl => match vs with | .ex (.int _ i) :: _ => n - i.toNat | _ => 0, ?_, ?_⟩
 ·refine ⟨0, ⟨t, p, b⟩, [], [], 0, by omega, rfl, rfl, rfl, fun N hN => ?_, by rw [Nat.sub_zero, hL], rfl, rfl⟩
  rw [Nat.sub_zero, hL] at hN
  injection hN with hN _
  rw [← hN]; rfl
 rintro vs bl ⟨i, x, M, D, k, hi, hx, rfl, hD, hM, hsf, rfl, rfl⟩
 have hDl : D.length = k * sizeT Tryz.prog 82 := by rw [hsO]; exact hD
 by_cases hlt : k < n
 ·have hdec : n - ((k : Int) + 1).toNat < n - (k : Int).toNat := by omega
  have c := cs x hx
  have hxt := ht x hx
  obtain ⟨m, hm⟩ : ∃ m, n - k = m + 1 := ⟨n - k - 1, by omega⟩
  have hm2 : n - (k + 1) = m := by omega
  rw [hm] at hM hsf
  have es : scanN (m + 1) x = if (scanP x).2.bad ≠ 0 then ([], (scanP x).2) else ((scanP x).1 :: (scanN m (scanP x).2).1, (scanN m (scanP x).2).2) := rfl
  rw [es] at hM hsf
  clear es
  generalize scanP x = y at c hxt hM hsf
  obtain ⟨o, x2⟩ := y
  simp only at c hxt hM hsf
  by_cases hb : x2.bad ≠ 0
  ·rw [if_pos hb] at hsf
   obtain rfl : x2 = sf := hsf
   have hf := hfb hb
   obtain ⟨rfl, rfl⟩ := h1 (by rw [hf]; exact hb)
   rw [hf]
   clear hM h1 h2 h3 cs ht ce hL hDl hD
   have hW3 : Av.Mk 4 [0,1,0,7] := ⟨⟩
   exact Av.W
  ·have hb0 : x2.bad = 0 := by simpa using hb
   rw [if_neg hb] at hsf
   rw [if_neg hb] at hM
   have hM2 : ∀ N, scanN (n - (k + 1)) x2 = (N, sf) → (D ++ [.ex (.int .u8 o.1), T o.2.1, T o.2.2]) ++ opC N = opC L := fun N hN => by
    rw [hm2] at hN
    have := hM (o :: N) (by rw [hN])
    rw [← this, List.append_assoc]; rfl
   have hsf2 : (scanN (n - (k + 1)) x2).2 = sf := by rw [hm2]; exact hsf
   have hDl2 : (D ++ [.ex (.int .u8 o.1), T o.2.1, T o.2.2]).length = (k + 1) * 3 := by rw [List.length_append, hD]; show k * 3 + 3 = _; omega
   have ho := opsOne o
   clear hM h1 h2 h3 cs ht ce hL hD hsf
   have c : SP 192 [scM t x.pos x.bad] (.tup [opA o, scM t x2.pos 0]) := by rw [← hb0]; exact c
   repeat' ((try conv => whnf) <;> first | refine Av.Va ?_ | refine ⟨_, c, ?_⟩ | (refine ⟨true, ?_⟩) | (refine And.intro ⟨room_o (by omega), hDl, ho⟩ ?_) | refine ⟨[], [0,1,0,7], Av.len_ok rfl (by kernel_rfl), ?_⟩ | exact True.intro | refine Av.Vb ?_ | exact ⟨rfl, rfl, rfl⟩ | exact ⟨rfl, rfl⟩ | (refine Av.Vc ?_ ?_ <;> intro hBr <;> first | (exfalso; omega) | (exfalso; contradiction) | (exfalso; exact hBr rfl) | skip) | refine Av.Vd ?_ | exact rfl)
   refine ⟨⟨k + 1, x2, [], _, k + 1, by omega, hxt, rfl, hDl2, hM2, hsf2, rfl, ?_⟩, hdec⟩
   rw [hb0]
 ·obtain rfl : k = n := by omega
  rw [Nat.sub_self] at hsf hM
  obtain rfl : x = sf := hsf
  have hD2 : D = opC L := by have := hM [] rfl; rwa [show opC [] = [] from rfl, List.append_nil] at this
  have hkl : k = L.length := by have := opC_len L; rw [← hD2, hD] at this; omega
  have c := ce x hx
  clear hM cs ht ce hL hfb
  by_cases hf : x.fin ≠ 0
  ·obtain ⟨rfl, rfl⟩ := h1 hf
   clear h1 h2 h3
   have hW4 : Av.Mk 4 [0,1,0,7] := ⟨⟩
   exact Av.W
  have hf : x.fin = 0 := by simpa using hf
  rw [hf] at c
  by_cases hl : 1400 < (bs s).size
  ·obtain ⟨rfl, rfl⟩ := h2 hf hl
   clear h1 h2 h3
   have hW5 : Av.Mk 4 [0,1,0,7] := ⟨⟩
   exact Av.W
  ·obtain ⟨rfl, rfl⟩ := h3 hf hl
   clear h1 h2 h3
   rw [← hkl, ← hD2]
   have hW6 : Av.Mk 4 [0,1,0,7] := ⟨⟩
   exact Av.W
theorem scanP_text (x : Quill.Sc) : (scanP x).2.text = x.text := by
 unfold scanP
 have e := x.num_text 1
 split
 ·exact e
 ·split
  ·rfl
  ·split
   ·split
    ·rfl
    ·rw [Quill.Sc.row_text, Quill.Sc.row_text, e]
   ·split
    ·rfl
    ·rw [Quill.Sc.row_text, e]
theorem opened_len (s : List UInt8) : (Crc.opened s).1.length ≤ s.length := by
 unfold Crc.opened
 split
 ·simp
 ·split
  ·simp only [List.length_take]; omega
  ·simp
theorem decode_ok (s : List UInt8) (hs : s.length ≤ 1048576) : SP 142 [T s] (.tup [.vs (decOps s).1.length (opC (decOps s).1), Z (decOps s).2]) := by
 have co := crcopen_ok s hs
 have hol := opened_len s
 unfold decOps
 generalize (Crc.opened s).1 = t at co hol ⊢
 generalize (Crc.opened s).2 = e at co ⊢
 by_cases h0 : e ≠ 0
 ·rw [if_pos h0]; exact decode_no s t e h0 co
 rw [if_neg h0]
 obtain rfl : e = 0 := by simpa using h0
 have cn := scannum_snd t 0 0 1 (by omega)
 have e1 := sc_eta _ _ (Quill.Sc.num_text ⟨t, 0, 0⟩ 1)
 simp only at e1
 generalize (Quill.Sc.num ⟨t, 0, 0⟩ 1).1 = n at cn ⊢
 rw [e1]
 generalize (Quill.Sc.num ⟨t, 0, 0⟩ 1).2.pos = p at cn ⊢
 generalize (Quill.Sc.num ⟨t, 0, 0⟩ 1).2.bad = b at cn ⊢
 by_cases h40 : 40 < n
 ·rw [if_pos h40]; exact decode_many s t n p b h40 co cn
 rw [if_neg h40]
 obtain ⟨L, sf, hL⟩ : ∃ L sf, scanN n ⟨t, p, b⟩ = (L, sf) := ⟨_, _, rfl⟩
 rw [hL]
 have hz := bs_size s
 refine decode_walk s t n p b (by omega) (by omega) co cn (fun x hx => ?_) (fun x hx => by rw [scanP_text, hx]) (fun x hx => ?_) L sf hL _ _ (fun h => ?_) (fun h => ?_) (fun h h2 => ?_) (fun h h2 => ?_)
 ·have := scanOp_ok t x.pos x.bad (by omega)
  rwa [← sc_eta x t hx] at this
 ·have := scanend_snd t x.pos x.bad (by omega)
  rwa [← sc_eta x t hx] at this
 ·unfold Quill.Sc.fin; rw [if_pos h]
 ·simp only; rw [if_pos h]; exact ⟨rfl, rfl⟩
 ·simp only; rw [if_neg (by rw [h]; simp), if_pos (by omega)]; exact ⟨rfl, rfl⟩
 ·simp only; rw [if_neg (by rw [h]; simp), if_neg (by omega)]; exact ⟨rfl, rfl⟩
theorem one13_raw (n : Nat) (a v : Key) (h1 : a.length ≤ 1000000000) (h2 : v.length ≤ 1000000000) (e : Int) (he : checkP (n, a, v) = e) : SP 197 [.ex (.agg #[.int .u8 n, .string (bs a), .string (bs v)])] (Z e) := by
 have sa := bs_size a
 have sv := bs_size v
 have ea : ((bs a).toList == (bs []).toList) = decide (a = []) := eqT_ a []
 have ev : (!((bs v).toList == (bs []).toList)) = !decide (v = []) := congrArg (!·) (eqT_ v [])
 unfold checkP at he
 simp only at he
 by_cases k0 : n < 1
 ·rw [if_pos (.inl k0)] at he
  subst he
  refine S_ Tryz.func197 (by kernel_rfl) rfl (Nat.le_of_ble_eq_true rfl) ?_
  show avc Tryz.prog SP _ _ _ _ _ _
  dsimp only [avc, startS, Array.toList, Tryz.f197]
  exact Av.W
 by_cases k3 : 3 < n
 ·rw [if_pos (.inr k3)] at he
  subst he
  refine S_ Tryz.func197 (by kernel_rfl) rfl (Nat.le_of_ble_eq_true rfl) ?_
  show avc Tryz.prog SP _ _ _ _ _ _
  dsimp only [avc, startS, Array.toList, Tryz.f197]
  exact Av.W
 rw [if_neg (by omega)] at he
 by_cases l1 : 100 < a.length
 ·rw [if_pos (.inl l1)] at he
  subst he
  refine S_ Tryz.func197 (by kernel_rfl) rfl (Nat.le_of_ble_eq_true rfl) ?_
  show avc Tryz.prog SP _ _ _ _ _ _
  dsimp only [avc, startS, Array.toList, Tryz.f197]
  exact Av.W
 by_cases l2 : 900 < v.length
 ·rw [if_pos (.inr l2)] at he
  subst he
  refine S_ Tryz.func197 (by kernel_rfl) rfl (Nat.le_of_ble_eq_true rfl) ?_
  show avc Tryz.prog SP _ _ _ _ _ _
  dsimp only [avc, startS, Array.toList, Tryz.f197]
  exact Av.W
 rw [if_neg (by omega)] at he
 by_cases q1 : n < 3 ∧ a = []
 ·rw [if_pos (.inl q1)] at he
  subst he
  obtain ⟨q1, q2⟩ := q1
  rw [decide_eq_true q2] at ea
  refine S_ Tryz.func197 (by kernel_rfl) rfl (Nat.le_of_ble_eq_true rfl) ?_
  show avc Tryz.prog SP _ _ _ _ _ _
  dsimp only [avc, startS, Array.toList, Tryz.f197]
  exact Av.W
 by_cases q2 : 1 < n ∧ v ≠ []
 ·rw [if_pos (.inr q2)] at he
  subst he
  obtain ⟨q2, q3⟩ := q2
  rw [decide_eq_false q3] at ev
  by_cases q4 : a = []
  ·rw [decide_eq_true q4] at ea
   refine S_ Tryz.func197 (by kernel_rfl) rfl (Nat.le_of_ble_eq_true rfl) ?_
   show avc Tryz.prog SP _ _ _ _ _ _
   dsimp only [avc, startS, Array.toList, Tryz.f197]
   exact Av.W
  ·rw [decide_eq_false q4] at ea
   refine S_ Tryz.func197 (by kernel_rfl) rfl (Nat.le_of_ble_eq_true rfl) ?_
   show avc Tryz.prog SP _ _ _ _ _ _
   dsimp only [avc, startS, Array.toList, Tryz.f197]
   exact Av.W
 rw [if_neg (fun h => h.elim q1 q2)] at he
 subst he
 by_cases q4 : a = []
 ·rw [decide_eq_true q4] at ea
  obtain rfl : n = 3 := by
   by_cases h3 : n = 3
   ·exact h3
   ·exact absurd ⟨by omega, q4⟩ q1
  obtain rfl : v = [] := by
   apply Classical.byContradiction
   intro h; exact q2 ⟨by omega, h⟩
  rw [decide_eq_true rfl] at ev
  refine S_ Tryz.func197 (by kernel_rfl) rfl (Nat.le_of_ble_eq_true rfl) ?_
  show avc Tryz.prog SP _ _ _ _ _ _
  dsimp only [avc, startS, Array.toList, Tryz.f197]
  exact Av.W
 ·rw [decide_eq_false q4] at ea
  by_cases q5 : v = []
  ·rw [decide_eq_true q5] at ev
   refine S_ Tryz.func197 (by kernel_rfl) rfl (Nat.le_of_ble_eq_true rfl) ?_
   show avc Tryz.prog SP _ _ _ _ _ _
   dsimp only [avc, startS, Array.toList, Tryz.f197]
   exact Av.W
  ·have q6 : ¬ 1 < n := fun h => q2 ⟨h, q5⟩
   refine S_ Tryz.func197 (by kernel_rfl) rfl (Nat.le_of_ble_eq_true rfl) ?_
   show avc Tryz.prog SP _ _ _ _ _ _
   dsimp only [avc, startS, Array.toList, Tryz.f197]
   exact Av.W
theorem one13_ok (o : OpP) (h1 : o.2.1.length ≤ 1000000000) (h2 : o.2.2.length ≤ 1000000000) : SP 197 [opA o] (Z (checkP o)) := one13_raw o.1 o.2.1 o.2.2 h1 h2 _ rfl
theorem check13_ok (l : List OpP) (hl : Sized l) (res : Int) (hres : checkL l = res) : SP 158 [.vs l.length (opC l)] (Z res) := by
 obtain ⟨hl, ho⟩ := hl
 by_cases h40 : 40 < l.length
 ·obtain rfl : 24 = res := (if_pos h40).symm.trans hres
  refine S_ Tryz.func158 (by kernel_rfl) rfl (Nat.le_of_ble_eq_true rfl) ?_
  show avc Tryz.prog SP _ _ _ _ _ _
  dsimp only [avc, startS, Array.toList, Tryz.f158]
  exact Av.W
 have hr : firstE l = res := (if_neg h40).symm.trans hres
 refine S_ Tryz.func158 (by kernel_rfl) rfl (Nat.le_of_ble_eq_true rfl) ?_
 show avc Tryz.prog SP _ _ _ _ _ _
 dsimp only [avc, startS, Array.toList, Tryz.f158]
 refine Av.Wk ?_
 refine ⟨[3, 0], [], fun vs bl => ∃ i : Nat, i ≤ l.length ∧ firstE (l.drop i) = res ∧ (vs = [Z i, .vs l.length (opC l)] ∧ bl = []), muI l.length, ?_, ?_⟩
 ·exact ⟨0, by omega, by rw [List.drop_zero]; exact hr, rfl, rfl⟩
 rintro vs bl ⟨i, hi, he, rfl, rfl⟩
 by_cases hlt : i < l.length
 ·have hw := opRW hlt
  have hb := ho _ (List.getElem_mem hlt)
  have c := one13_ok l[i] (by omega) (by omega)
  have hdec := mu_I hlt
  rw [firstE_drop hlt] at he
  clear hres hr ho
  generalize l[i] = o at c hw he hb
  by_cases h0 : checkP o = 0
  ·rw [if_pos h0] at he
   rw [h0] at c
   repeat' ((try conv => whnf) <;> first | refine Av.Va ?_ | (refine ⟨_, hw, ?_⟩) | refine ⟨_, c, ?_⟩ | exact True.intro | refine Av.Vb ?_ | exact ⟨rfl, rfl, rfl⟩ | exact ⟨rfl, rfl⟩ | (refine Av.Vc ?_ ?_ <;> intro hBr <;> first | (exfalso; omega) | (exfalso; contradiction) | (exfalso; exact hBr rfl) | skip) | refine Av.Vd ?_ | exact rfl)
   exact ⟨⟨i + 1, by omega, he, rfl, rfl⟩, hdec _ _ _ _⟩
  ·rw [if_neg h0] at he
   rw [he] at c h0
   repeat' ((try conv => whnf) <;> first | refine Av.Va ?_ | (refine ⟨_, hw, ?_⟩) | refine ⟨_, c, ?_⟩ | exact True.intro | refine Av.Vb ?_ | exact ⟨rfl, rfl, rfl⟩ | exact ⟨rfl, rfl⟩ | (refine Av.Vc ?_ ?_ <;> intro hBr <;> first | (exfalso; omega) | (exfalso; contradiction) | (exfalso; exact hBr rfl) | skip) | refine Av.Vd ?_ | exact rfl)
 ·obtain rfl : i = l.length := by omega
  rw [List.drop_length] at he
  obtain rfl : 0 = res := he
  clear hres hr ho
  repeat' ((try conv => whnf) <;> first | refine Av.Va ?_ | exact True.intro | refine Av.Vb ?_ | exact ⟨rfl, rfl, rfl⟩ | exact ⟨rfl, rfl⟩ | (refine Av.Vc ?_ ?_ <;> intro hBr <;> first | (exfalso; omega) | (exfalso; contradiction) | (exfalso; exact hBr rfl) | skip) | refine Av.Vd ?_ | exact rfl)
abbrev muI2 (n : Nat) : List AV → List ABlk → Nat := fun vs _ => match vs with
 | _ :: .ex (.int _ i) :: _ => n - i.toNat
 | _ => 0
theorem size13_ok (l : List OpP) (hl : Sized l) (res : Nat) (hres : 5 + sizeL l = res) : SP 159 [.vs l.length (opC l)] (Z res) := by
 obtain ⟨hl, ho⟩ := hl
 have hz := sizeL_le ho
 refine S_ Tryz.func159 (by kernel_rfl) rfl (Nat.le_of_ble_eq_true rfl) ?_
 show avc Tryz.prog SP _ _ _ _ _ _
 dsimp only [avc, startS, Array.toList, Tryz.f159]
 refine Av.Wk ?_
 refine ⟨[3, 4, 0], [], fun vs bl => ∃ (i s : Nat), i ≤ l.length ∧ s + sizeL (l.drop i) = res ∧ (vs = [Z s, Z i, .vs l.length (opC l)] ∧ bl = []), muI2 l.length, ?_, ?_⟩
 ·exact ⟨0, 5, by omega, by rw [List.drop_zero]; exact hres, rfl, rfl⟩
 rintro vs bl ⟨i, s, hi, he, rfl, rfl⟩
 by_cases hlt : i < l.length
 ·have h0 := opR0 hlt
  have h1 := opR1 hlt
  have h2 := opR2 hlt
  have hb := ho _ (List.getElem_mem hlt)
  have hdec : l.length - ((i : Int) + 1).toNat < l.length - (i : Int).toNat := by omega
  have e : sizeL (l.drop i) = sizeO l[i] + sizeL (l.drop (i + 1)) := by rw [List.drop_eq_getElem_cons hlt]; rfl
  rw [e] at he
  clear e ho
  generalize l[i] = o at *
  have sa := bs_size o.2.1
  have sv := bs_size o.2.2
  unfold sizeO at he
  by_cases k1 : o.1 = 1
  ·rw [if_pos k1] at he
   rw [k1] at h0
   repeat' ((try conv => whnf) <;> first | refine Av.Va ?_ | (refine ⟨_, h0, ?_⟩) | (refine ⟨_, h1, ?_⟩) | (refine ⟨_, h2, ?_⟩) | exact True.intro | refine Av.Vb ?_ | exact ⟨rfl, rfl, rfl⟩ | exact ⟨rfl, rfl⟩ | (refine Av.Vc ?_ ?_ <;> intro hBr <;> first | (exfalso; omega) | (exfalso; contradiction) | (exfalso; exact hBr rfl) | skip) | refine Av.Vd ?_ | exact rfl)
   refine ⟨⟨i + 1, s + 3 + o.2.1.length + 2 + o.2.2.length, by omega, by omega, ?_, rfl⟩, hdec⟩
   rw [show ((s + 3 + o.2.1.length + 2 + o.2.2.length : Nat) : Int) = (s : Int) + 3 + ((bs o.2.1).size : Int) + 2 + ((bs o.2.2).size : Int) by omega]
   rfl
  ·rw [if_neg k1] at he
   have k1 : ¬ (o.1 : Int) = 1 := by omega
   repeat' ((try conv => whnf) <;> first | refine Av.Va ?_ | (refine ⟨_, h0, ?_⟩) | (refine ⟨_, h1, ?_⟩) | exact True.intro | refine Av.Vb ?_ | exact ⟨rfl, rfl, rfl⟩ | exact ⟨rfl, rfl⟩ | (refine Av.Vc ?_ ?_ <;> intro hBr <;> first | (exfalso; omega) | (exfalso; contradiction) | (exfalso; exact hBr rfl) | skip) | refine Av.Vd ?_ | exact rfl)
   refine ⟨⟨i + 1, s + 3 + o.2.1.length, by omega, by omega, ?_, rfl⟩, hdec⟩
   rw [show ((s + 3 + o.2.1.length : Nat) : Int) = (s : Int) + 3 + ((bs o.2.1).size : Int) by omega]
   rfl
 ·obtain rfl : i = l.length := by omega
  rw [List.drop_length] at he
  obtain rfl : s = res := by simpa [sizeL] using he
  clear ho
  repeat' ((try conv => whnf) <;> first | refine Av.Va ?_ | exact True.intro | refine Av.Vb ?_ | exact ⟨rfl, rfl, rfl⟩ | exact ⟨rfl, rfl⟩ | (refine Av.Vc ?_ ?_ <;> intro hBr <;> first | (exfalso; omega) | (exfalso; contradiction) | (exfalso; exact hBr rfl) | skip) | refine Av.Vd ?_ | exact rfl)
theorem encode13_ok (l : List OpP) (hl : Sized l) : SP 105 [.vs l.length (opC l)] (.tup [T (encOps l).1, Z (encOps l).2]) := by
 have c1 := check13_ok l hl _ rfl
 have c2 := size13_ok l hl _ rfl
 obtain ⟨hl, ho⟩ := hl
 by_cases h0 : checkL l ≠ 0
 ·rw [show encOps l = ([], checkL l) from if_pos h0]
  generalize checkL l = e at c1 h0
  refine S_ Tryz.func105 (by kernel_rfl) rfl (Nat.le_of_ble_eq_true rfl) ?_
  show avc Tryz.prog SP _ _ _ _ _ _
  dsimp only [avc, startS, Array.toList, Tryz.f105]
  repeat' ((try conv => whnf) <;> first | refine Av.Va ?_ | refine ⟨_, c1, ?_⟩ | refine ⟨[], [0,0,0,6,14,30,62,127,0,0,768,1792,3840,8191,16383,32767,32767,65535], Av.len_ok rfl (by kernel_rfl), ?_⟩ | exact True.intro | refine Av.Vb ?_ | exact ⟨rfl, rfl, rfl⟩ | exact ⟨rfl, rfl⟩ | (refine Av.Vc ?_ ?_ <;> intro hBr <;> first | (exfalso; omega) | (exfalso; contradiction) | (exfalso; exact hBr rfl) | skip) | refine Av.Vd ?_ | exact rfl)
 have h0 : checkL l = 0 := by simpa using h0
 rw [h0] at c1
 by_cases h1 : 1400 < 5 + sizeL l
 ·rw [show encOps l = ([], 7) from (if_neg (by rw [h0]; simp)).trans (if_pos h1)]
  generalize 5 + sizeL l = z at c2 h1
  refine S_ Tryz.func105 (by kernel_rfl) rfl (Nat.le_of_ble_eq_true rfl) ?_
  show avc Tryz.prog SP _ _ _ _ _ _
  dsimp only [avc, startS, Array.toList, Tryz.f105]
  repeat' ((try conv => whnf) <;> first | refine Av.Va ?_ | refine ⟨_, c1, ?_⟩ | refine ⟨_, c2, ?_⟩ | refine ⟨[], [0,0,0,6,14,30,62,127,0,0,768,1792,3840,8191,16383,32767,32767,65535], Av.len_ok rfl (by kernel_rfl), ?_⟩ | exact True.intro | refine Av.Vb ?_ | exact ⟨rfl, rfl, rfl⟩ | exact ⟨rfl, rfl⟩ | (refine Av.Vc ?_ ?_ <;> intro hBr <;> first | (exfalso; omega) | (exfalso; contradiction) | (exfalso; exact hBr rfl) | skip) | refine Av.Vd ?_ | exact rfl)
 rw [show encOps l = (Crc.sealed (bodyB l), 0) from (if_neg (by rw [h0]; simp)).trans (if_neg h1)]
 obtain ⟨hn, hz⟩ := checkL_zero h0
 have hlb := laysB_len l
 have c3 := rcrcseal_ok (bodyB l) (by show (laysB l).length + 1 ≤ _; omega)
 obtain ⟨Y, hY⟩ : ∃ Y : Nat → List UInt8, Y = fun i => UInt8.ofNat l.length :: laysB (l.take i) := ⟨_, rfl⟩
 have hYl : ∀ i, (Y i).length ≤ 2000 := fun i => by
  have hle : (laysB (l.take i)).length ≤ (laysB l).length := by
   have := laysB_app (l.take i) (l.drop i)
   rw [List.take_append_drop] at this
   rw [this, List.length_append]; omega
  rw [hY]; simp only [List.length_cons]; omega
 have hYs : ∀ i (h : i < l.length), Y (i + 1) = (Y i ++ [UInt8.ofNat l[i].1]) ++ Quill.rowB l[i].2.1 ++ (if l[i].1 = 1 then Quill.rowB l[i].2.2 else []) := fun i h => by
  rw [hY]; simp only
  rw [List.take_add_one, List.getElem?_eq_getElem h, laysB_app]
  simp [laysB, layB]
 have hb0 : AV.ex (.int .u8 (l.length : Int)) = byteA (UInt8.ofNat l.length) := by
  show _ = AV.ex (.int .u8 (((UInt8.ofNat l.length).toNat : Nat) : Int))
  rw [UInt8.toNat_ofNat_of_lt' (by show l.length < 256; omega)]
 have hst0 : ([.ex (.int .u8 (l.length : Int))] : List AV) = bytesA (Y 0) := by rw [hb0, hY]; rfl
 have hln0 : (1 : Nat) = (Y 0).length := by rw [hY]; rfl
 have hfin : Y l.length = bodyB l := by rw [hY]; simp only; rw [List.take_length]; rfl
 generalize bodyB l = X at c3 hfin
 generalize 5 + sizeL l = z at c2 h1
 clear hY hlb hb0 ho h0
 refine S_ Tryz.func105 (by kernel_rfl) rfl (Nat.le_of_ble_eq_true rfl) ?_
 show avc Tryz.prog SP _ _ _ _ _ _
 dsimp only [avc, startS, Array.toList, Tryz.f105]
 repeat' ((try conv => whnf) <;> first | refine Av.Va ?_ | refine ⟨_, c1, ?_⟩ | refine ⟨_, c2, ?_⟩ | (refine ⟨true, ?_⟩) | refine ⟨[], [0,0,0,6,14,30,62,127,0,0,768,1792,3840,8191,16383,32767,32767,65535], Av.len_ok rfl (by kernel_rfl), ?_⟩ | exact True.intro | refine Av.Vb ?_ | exact ⟨rfl, rfl, rfl⟩ | exact ⟨rfl, rfl⟩ | (refine Av.Vc ?_ ?_ <;> intro hBr <;> first | (exfalso; omega) | (exfalso; contradiction) | (exfalso; exact hBr rfl) | skip) | refine Av.Vd ?_ | exact rfl)
 refine ⟨[6, 5, 0], [], fun vs bl => ∃ i : Nat, i ≤ l.length ∧ (vs = [Z i, .sl 0 (Y i).length, .vs l.length (opC l)] ∧ bl = [rowB8 (Y i)]), muI l.length, ?_, ?_⟩
 ·refine ⟨0, by omega, ?_, ?_⟩
  ·rw [← hln0]; rfl
  ·show _ = [(⟨bytesA (Y 0), some 5, true, true⟩ : ABlk)]
   rw [← hst0]
 clear hst0 hln0
 rintro vs bl ⟨i, hi, rfl, rfl⟩
 by_cases hlt : i < l.length
 ·have w0 := opR0 hlt
  have w1 := opR1 hlt
  have w2 := opR2 hlt
  have hdec := mu_I hlt
  have hYs := hYs i hlt
  have hYl := hYl i
  obtain ⟨q1, q2, q3, q4, _⟩ := checkP_zero (hz _ (List.getElem_mem hlt))
  generalize l[i] = o at *
  obtain ⟨n, a, v⟩ := o
  simp only at w0 w1 w2 hYs q1 q2 q3 q4
  have hk := kind_byte q1 q2
  generalize Y i = y at *
  have e1 : bytesA y ++ [AV.ex (.int .u8 (n : Int))] = bytesA (y ++ [UInt8.ofNat n]) := by rw [hk]; simp [bytesA]
  have hb : (bytesA y).length = y.length * sizeT Tryz.prog 5 := by rw [hs8, bytesA_length]; omega
  have hc : ([AV.ex (.int .u8 (n : Int))] : List AV).length = 1 * sizeT Tryz.prog 5 ∧ ∀ u ∈ ([AV.ex (.int .u8 (n : Int))] : List AV), one1 u = true := by
   rw [hs8]; exact ⟨rfl, fun u hu => by rw [List.mem_singleton] at hu; subst hu; rfl⟩
  have hr : room (y.length + 1) (bytesT Tryz.prog 5) := room_8 (by omega)
  have r1 : SP 132 [.vs (y.length + 1) (bytesA y ++ [AV.ex (.int .u8 (n : Int))]), T a] (.tup [.own 5 ((y ++ [UInt8.ofNat n]) ++ Quill.rowB a).length (bytesA ((y ++ [UInt8.ofNat n]) ++ Quill.rowB a)), Z 0]) := by
   have := rrowk_snd (y ++ [UInt8.ofNat n]) a (by simp; omega) (by omega)
   rwa [← e1, show (y ++ [UInt8.ofNat n]).length = y.length + 1 by simp] at this
  have r2 := rrowk_snd ((y ++ [UInt8.ofNat n]) ++ Quill.rowB a) v (by simp [Quill.rowB_length]; omega) (by omega)
  by_cases k1 : n = 1
  ·rw [if_pos k1] at hYs
   rw [← hYs] at r2
   clear e1 hk hYs hYl hfin hz hn
   generalize (y ++ [UInt8.ofNat n]) ++ Quill.rowB a = W at *
   subst k1
   repeat' ((try conv => whnf) <;> first | refine Av.Va ?_ | (refine ⟨_, w0, ?_⟩) | (refine ⟨_, w1, ?_⟩) | (refine ⟨_, w2, ?_⟩) | (refine ⟨true, ?_⟩) | (refine And.intro ⟨hr, hb, hc⟩ ?_) | refine ⟨_, r1, ?_⟩ | refine ⟨_, r2, ?_⟩ | refine ⟨[], [0,0,0,6,14,30,62,127,0,0,768,1792,3840,8191,16383,32767,32767,65535], Av.len_ok rfl (by kernel_rfl), ?_⟩ | exact True.intro | refine Av.Vb ?_ | exact ⟨rfl, rfl, rfl⟩ | exact ⟨rfl, rfl⟩ | (refine Av.Vc ?_ ?_ <;> intro hBr <;> first | (exfalso; omega) | (exfalso; contradiction) | (exfalso; exact hBr rfl) | skip) | refine Av.Vd ?_ | exact rfl)
   exact ⟨⟨i + 1, by omega, rfl, rfl⟩, hdec _ _ _ _⟩
  ·rw [if_neg k1, List.append_nil] at hYs
   rw [← hYs] at r1
   have g1 : ¬ (n : Int) = 1 := by omega
   clear e1 hk r2 hfin hz hn
   repeat' ((try conv => whnf) <;> first | refine Av.Va ?_ | (refine ⟨_, w0, ?_⟩) | (refine ⟨_, w1, ?_⟩) | (refine ⟨true, ?_⟩) | (refine And.intro ⟨hr, hb, hc⟩ ?_) | refine ⟨_, r1, ?_⟩ | refine ⟨[], [0,0,0,6,14,30,62,127,0,0,768,1792,3840,8191,16383,32767,32767,65535], Av.len_ok rfl (by kernel_rfl), ?_⟩ | exact True.intro | refine Av.Vb ?_ | exact ⟨rfl, rfl, rfl⟩ | exact ⟨rfl, rfl⟩ | (refine Av.Vc ?_ ?_ <;> intro hBr <;> first | (exfalso; omega) | (exfalso; contradiction) | (exfalso; exact hBr rfl) | skip) | refine Av.Vd ?_ | exact rfl)
   exact ⟨⟨i + 1, by omega, rfl, rfl⟩, hdec _ _ _ _⟩
 ·obtain rfl : i = l.length := by omega
  rw [hfin]
  clear hYs hYl
  repeat' ((try conv => whnf) <;> first | refine Av.Va ?_ | (refine ⟨X, ⟨rfl, rfl⟩, ?_⟩) | refine ⟨_, c3, ?_⟩ | refine ⟨[], [0,0,0,6,14,30,62,127,0,0,768,1792,3840,8191,16383,32767,32767,65535], Av.len_ok rfl (by kernel_rfl), ?_⟩ | exact True.intro | refine Av.Vb ?_ | exact ⟨rfl, rfl, rfl⟩ | exact ⟨rfl, rfl⟩ | (refine Av.Vc ?_ ?_ <;> intro hBr <;> first | (exfalso; omega) | (exfalso; contradiction) | (exfalso; exact hBr rfl) | skip) | refine Av.Vd ?_ | exact rfl)
end Go.Proofs.YtbaedepmogkkeaaGreat.Av
namespace Go.Proofs.YtbaedepmogkkeaaGreat
set_option linter.unusedSimpArgs false
set_option linter.unusedVariables false
open Go.RowKit
set_option maxHeartbeats 400000 in
theorem refopen_short (l : List UInt8) (w : World) (h4 : l.length < 4) :
  Calls Tryz.prog 196 #[.string (bs l)] w fun e w' => e = .returned (.tuple #[.string (bs []), .int .i64 3]) ∧ Below w.heap.size w w' := by
 go_enter Tryz.func196, Tryz.ntmps196
 go_wp2
 go_ret2
 exact ⟨rfl, Below.refl _ _⟩
set_option maxHeartbeats 400000 in
theorem refopen_no (l : List UInt8) (w : World) (hs : l.length ≤ 1048576) (h4 : (4 : Int) ≤ l.length) (hq : (Crc.sealed (l.take (l.length - 4)) == l) = false) :
  Calls Tryz.prog 196 #[.string (bs l)] w fun e w' => e = .returned (.tuple #[.string (bs []), .int .i64 10]) ∧ Below w.heap.size w w' := by
 have hi : (l.length : Int) - 4 ≤ l.length := by omega
 have hj : ((l.length : Int) - 4).toNat = l.length - 4 := by omega
 have hl : (l.take (l.length - 4)).length ≤ 1048576 := Nat.le_trans (List.length_take_le _ _) (by omega)
 go_enter Tryz.func196, Tryz.ntmps196
 go_wp2_with (go_at_call 152; refine (refseal_any _ _ (by omega)).mono ?_; rintro e w' ⟨rfl, hb⟩)
 go_ret2
 exact ⟨rfl, hb⟩
set_option maxHeartbeats 400000 in
theorem refopen_yes (l : List UInt8) (w : World) (hs : l.length ≤ 1048576) (h4 : (4 : Int) ≤ l.length) (hq : (Crc.sealed (l.take (l.length - 4)) == l) = true) :
  Calls Tryz.prog 196 #[.string (bs l)] w fun e w' => e = .returned (.tuple #[.string (bs (l.take (l.length - 4))), .int .i64 0]) ∧ Below w.heap.size w w' := by
 have hi : (l.length : Int) - 4 ≤ l.length := by omega
 have hj : ((l.length : Int) - 4).toNat = l.length - 4 := by omega
 have hl : (l.take (l.length - 4)).length ≤ 1048576 := Nat.le_trans (List.length_take_le _ _) (by omega)
 go_enter Tryz.func196, Tryz.ntmps196
 go_wp2_with (go_at_call 152; refine (refseal_any _ _ (by omega)).mono ?_; rintro e w' ⟨rfl, hb⟩)
 go_ret2
 exact ⟨rfl, hb⟩
theorem refopen_any (l : List UInt8) (w : World) (hs : l.length ≤ 1048576) :
  Calls Tryz.prog 196 #[.string (bs l)] w fun e w' => e = .returned (.tuple #[.string (bs (Crc.opened l).1), .int .i64 (Crc.opened l).2]) ∧ Below w.heap.size w w' := by
 by_cases h4 : l.length < 4
 ·rw [Crc.opened_short h4]; exact refopen_short l w h4
 ·cases hq : (Crc.four (Crc.sum (l.take (l.length - 4))) == l.drop (l.length - 4))
  ·rw [Crc.opened_no h4 hq]; exact refopen_no l w hs (by omega) (by rw [Crc.sealed_eq]; exact hq)
  ·rw [Crc.opened_yes h4 hq]; exact refopen_yes l w hs (by omega) (by rw [Crc.sealed_eq]; exact hq)
end Go.Proofs.YtbaedepmogkkeaaGreat
namespace Go.Proofs.YtbaedepmogkkeaaGreat.Av
open Go Go.RowKit
theorem rcrcopen_ok (l : List UInt8) (hs : l.length ≤ 1048576) : SP 196 [T l] (TE (Crc.opened l).1 (Crc.opened l).2) :=
 sound_ex (vs := [.string (bs l)]) Tryz.func196 (by kernel_rfl) rfl (fun w => refopen_any l w hs)
end Go.Proofs.YtbaedepmogkkeaaGreat.Av
