/- What the claim stands on, Su27: contracts of functions and plain facts. No conditions. -/
import Derived.Test.YtbaedepmogkkeaaGreatSu26
import Derived.Test.YtbaedepmogkkeaaGreatSu24
import Derived.Test.YtbaedepmogkkeaaGreatSu12
import Derived.Test.YtbaedepmogkkeaaGreatSu20
import Derived.Test.YtbaedepmogkkeaaGreatSu25
namespace Go.Proofs.YtbaedepmogkkeaaGreat.Av
open Go Go.RowKit Tre
set_option linter.unusedVariables false
set_option linter.unusedSimpArgs false
set_option maxRecDepth 100000
set_option maxHeartbeats 1000000
theorem scanrow_snd (t : List UInt8) (p b : Int) (hl : t.length ≤ 70368744177664) : SP 127 [scM t p b] (.ex (.tuple #[.string (bs (Quill.Sc.row ⟨t, p, b⟩).1), .agg #[.string (bs t), .int .i64 (Quill.Sc.row ⟨t, p, b⟩).2.pos, .int .i64 (Quill.Sc.row ⟨t, p, b⟩).2.bad]])) :=
 sound_ex (vs := [_]) Tryz.func127 (by kernel_rfl) rfl (fun w => srow ⟨t, p, b⟩ w hl)
theorem scanend_snd (t : List UInt8) (p b : Int) (hl : t.length ≤ 70368744177664) : SP 128 [scM t p b] (Z (Quill.Sc.fin ⟨t, p, b⟩)) :=
 sound_ex (vs := [_]) Tryz.func128 (by kernel_rfl) rfl (fun w => sfin ⟨t, p, b⟩ w (by simp only; omega))
abbrev rowM (k : List UInt8) (t : List UInt8) (p b : Int) : AV := .ex (.tuple #[.string (bs k), .agg #[.string (bs t), .int .i64 p, .int .i64 b]])
theorem scanOp_bad (t : List UInt8) (p b p1 b1 : Int) (n : Nat) (hb : b1 ≠ 0) (cn : SP 126 [scM t p b, Z 1] (numM n t p1 b1)) :
  SP 192 [scM t p b] (.tup [.ex (.agg #[.int .u8 0, .string (bs []), .string (bs [])]), scM t p1 b1]) := by
 refine S_ Tryz.func192 (by kernel_rfl) rfl (Nat.le_of_ble_eq_true rfl) ?_
 show avc Tryz.prog SP _ _ _ _ _ _
 dsimp only [avc, startS, Array.toList, Tryz.f192]
 have hW0 : Av.Mk 4 [0,0,1,7] := ⟨⟩
 exact Av.W
theorem scanOp_kind (t : List UInt8) (p b p1 : Int) (n : Nat) (hn : n < 256) (hk : n < 1 ∨ 3 < n) (cn : SP 126 [scM t p b, Z 1] (numM n t p1 0)) :
  SP 192 [scM t p b] (.tup [.ex (.agg #[.int .u8 n, .string (bs []), .string (bs [])]), scM t p1 22]) := by
 refine S_ Tryz.func192 (by kernel_rfl) rfl (Nat.le_of_ble_eq_true rfl) ?_
 show avc Tryz.prog SP _ _ _ _ _ _
 dsimp only [avc, startS, Array.toList, Tryz.f192]
 have hW1 : Av.Mk 4 [0,0,1,7] := ⟨⟩
 exact Av.W
theorem scanOp_two (t : List UInt8) (p b p1 p2 b2 p3 b3 e : Int) (k v : List UInt8) (cn : SP 126 [scM t p b, Z 1] (numM 1 t p1 0)) (cr : SP 127 [scM t p1 0] (rowM k t p2 b2)) (cr2 : SP 127 [scM t p2 b2] (rowM v t p3 b3))
  (cc : b3 = 0 → SP 202 [.ex (.agg #[.int .u8 1, .string (bs k), .string (bs v)])] (Z e)) (r : Int) (hr0 : b3 = 0 → r = e) (hr1 : b3 ≠ 0 → r = b3) :
  SP 192 [scM t p b] (.tup [.ex (.agg #[.int .u8 1, .string (bs k), .string (bs v)]), scM t p3 r]) := by
 by_cases h : b3 = 0
 ·obtain rfl := hr0 h
  have c := cc h
  subst h
  clear cc hr0 hr1
  refine S_ Tryz.func192 (by kernel_rfl) rfl (Nat.le_of_ble_eq_true rfl) ?_
  show avc Tryz.prog SP _ _ _ _ _ _
  dsimp only [avc, startS, Array.toList, Tryz.f192]
  have hW2 : Av.Mk 4 [0,0,1,7] := ⟨⟩
  exact Av.W
 ·obtain rfl := hr1 h
  clear cc hr0 hr1
  refine S_ Tryz.func192 (by kernel_rfl) rfl (Nat.le_of_ble_eq_true rfl) ?_
  show avc Tryz.prog SP _ _ _ _ _ _
  dsimp only [avc, startS, Array.toList, Tryz.f192]
  have hW3 : Av.Mk 4 [0,0,1,7] := ⟨⟩
  exact Av.W
theorem scanOp_one (t : List UInt8) (p b p1 p2 b2 e : Int) (n : Nat) (hn : n = 2 ∨ n = 3) (k : List UInt8) (cn : SP 126 [scM t p b, Z 1] (numM n t p1 0)) (cr : SP 127 [scM t p1 0] (rowM k t p2 b2))
  (cc : b2 = 0 → SP 202 [.ex (.agg #[.int .u8 n, .string (bs k), .string (bs [])])] (Z e)) (r : Int) (hr0 : b2 = 0 → r = e) (hr1 : b2 ≠ 0 → r = b2) :
  SP 192 [scM t p b] (.tup [.ex (.agg #[.int .u8 n, .string (bs k), .string (bs [])]), scM t p2 r]) := by
 have g1 : ¬ (n : Int) = 1 := by omega
 by_cases h : b2 = 0
 ·obtain rfl := hr0 h
  have c := cc h
  subst h
  clear cc hr0 hr1
  refine S_ Tryz.func192 (by kernel_rfl) rfl (Nat.le_of_ble_eq_true rfl) ?_
  show avc Tryz.prog SP _ _ _ _ _ _
  dsimp only [avc, startS, Array.toList, Tryz.f192]
  have hW4 : Av.Mk 4 [0,0,1,7] := ⟨⟩
  exact Av.W
 ·obtain rfl := hr1 h
  clear cc hr0 hr1
  refine S_ Tryz.func192 (by kernel_rfl) rfl (Nat.le_of_ble_eq_true rfl) ?_
  show avc Tryz.prog SP _ _ _ _ _ _
  dsimp only [avc, startS, Array.toList, Tryz.f192]
  have hW5 : Av.Mk 4 [0,0,1,7] := ⟨⟩
  exact Av.W
theorem row_len (t : List UInt8) (p b : Int) : (Quill.Sc.row ⟨t, p, b⟩).1.length ≤ t.length := by
 unfold Quill.Sc.row
 split
 ·simp
 ·split
  ·simp
  ·simp only [List.length_take, List.length_drop]; omega
theorem num_lt (t : List UInt8) (p b : Int) : (Quill.Sc.num ⟨t, p, b⟩ 1).1 < 256 := by
 unfold Quill.Sc.num
 split
 ·simp
 ·split
  ·simp
  ·split
   ·simp
   ·simp only
    have h := Quill.tell_lt ((t.drop p.toNat).take (1 : Int).toNat)
    have hl : ((t.drop p.toNat).take (1 : Int).toNat).length ≤ 1 := by rw [List.length_take]; exact Nat.min_le_left _ _
    exact Nat.lt_of_lt_of_le h (Nat.le_trans (Nat.pow_le_pow_right (by omega) hl) (by omega))
theorem sc_eta (s : Quill.Sc) (t : List UInt8) (h : s.text = t) : s = ⟨t, s.pos, s.bad⟩ := by subst h; rfl
theorem scanOp_ok (t : List UInt8) (p b : Int) (hl : t.length ≤ 1000000000) : SP 192 [scM t p b] (.tup [opA (scanP ⟨t, p, b⟩).1, scM t (scanP ⟨t, p, b⟩).2.pos (scanP ⟨t, p, b⟩).2.bad]) := by
 have cn := scannum_snd t p b 1 (by omega)
 have hn := num_lt t p b
 have et := Quill.Sc.num_text ⟨t, p, b⟩ 1
 have e1 := sc_eta _ _ et
 unfold scanP
 rw [e1]
 generalize (Quill.Sc.num ⟨t, p, b⟩ 1).2.pos = p1 at cn ⊢
 generalize (Quill.Sc.num ⟨t, p, b⟩ 1).2.bad = b1 at cn ⊢
 generalize (Quill.Sc.num ⟨t, p, b⟩ 1).1 = n at cn hn ⊢
 by_cases hb : b1 ≠ 0
 ·rw [if_pos (show (Quill.Sc.mk t p1 b1).bad ≠ 0 from hb)]
  exact scanOp_bad t p b p1 b1 n hb cn
 rw [if_neg (show ¬ (Quill.Sc.mk t p1 b1).bad ≠ 0 from hb)]
 obtain rfl : b1 = 0 := by simpa using hb
 by_cases hk : n < 1 ∨ 3 < n
 ·rw [if_pos hk]
  exact scanOp_kind t p b p1 n hn hk cn
 rw [if_neg hk]
 have cr := scanrow_snd t p1 0 (by omega)
 have hr1 := row_len t p1 0
 have e2 := sc_eta _ _ (Quill.Sc.row_text ⟨t, p1, 0⟩)
 rw [e2]
 generalize (Quill.Sc.row ⟨t, p1, 0⟩).2.pos = p2 at cr ⊢
 generalize (Quill.Sc.row ⟨t, p1, 0⟩).2.bad = b2 at cr ⊢
 generalize (Quill.Sc.row ⟨t, p1, 0⟩).1 = k at cr hr1 ⊢
 by_cases k1 : n = 1
 ·rw [if_pos k1]
  subst k1
  have cr2 := scanrow_snd t p2 b2 (by omega)
  have hr2 := row_len t p2 b2
  have e3 := sc_eta _ _ (Quill.Sc.row_text ⟨t, p2, b2⟩)
  rw [e3]
  generalize (Quill.Sc.row ⟨t, p2, b2⟩).2.pos = p3 at cr2 ⊢
  generalize (Quill.Sc.row ⟨t, p2, b2⟩).2.bad = b3 at cr2 ⊢
  generalize (Quill.Sc.row ⟨t, p2, b2⟩).1 = v at cr2 hr2 ⊢
  have cc := opCheck_raw 1 k v (by omega) (by omega)
  by_cases h3 : b3 = 0
  ·rw [if_pos (show (Quill.Sc.mk t p3 b3).bad = 0 from h3)]
   exact scanOp_two t p b p1 p2 b2 p3 b3 _ k v cn cr cr2 (fun _ => cc) _ (fun _ => rfl) (fun h => absurd h3 h)
  ·rw [if_neg (show ¬ (Quill.Sc.mk t p3 b3).bad = 0 from h3)]
   exact scanOp_two t p b p1 p2 b2 p3 b3 0 k v cn cr cr2 (fun h => absurd h h3) _ (fun h => absurd h h3) (fun _ => rfl)
 ·rw [if_neg k1]
  have cc := opCheck_raw n k [] (by omega) (by simp)
  by_cases h3 : b2 = 0
  ·rw [if_pos (show (Quill.Sc.mk t p2 b2).bad = 0 from h3)]
   exact scanOp_one t p b p1 p2 b2 _ n (by omega) k cn cr (fun _ => cc) _ (fun _ => rfl) (fun h => absurd h3 h)
  ·rw [if_neg (show ¬ (Quill.Sc.mk t p2 b2).bad = 0 from h3)]
   exact scanOp_one t p b p1 p2 b2 0 n (by omega) k cn cr (fun h => absurd h h3) _ (fun h => absurd h h3) (fun _ => rfl)
theorem decode_no (s : List UInt8) (t : List UInt8) (e : Int) (he : e ≠ 0) (co : SP 191 [T s] (TE t e)) : SP 142 [T s] (.tup [.vs 0 [], Z e]) := by
 refine S_ Tryz.func142 (by kernel_rfl) rfl (Nat.le_of_ble_eq_true rfl) ?_
 show avc Tryz.prog SP _ _ _ _ _ _
 dsimp only [avc, startS, Array.toList, Tryz.f142]
 have hW0 : Av.Mk 4 [0,1,0,7] := ⟨⟩
 exact Av.W
theorem decode_many (s t : List UInt8) (n : Nat) (p b : Int) (hn : 40 < n) (co : SP 191 [T s] (TE t 0)) (cn : SP 126 [scM t 0 0, Z 1] (numM n t p b)) : SP 142 [T s] (.tup [.vs 0 [], Z 24]) := by
 refine S_ Tryz.func142 (by kernel_rfl) rfl (Nat.le_of_ble_eq_true rfl) ?_
 show avc Tryz.prog SP _ _ _ _ _ _
 dsimp only [avc, startS, Array.toList, Tryz.f142]
 have hW1 : Av.Mk 4 [0,1,0,7] := ⟨⟩
 exact Av.W
theorem opsOne (o : OpP) : ([.ex (.int .u8 o.1), T o.2.1, T o.2.2] : List AV).length = 1 * sizeT Tryz.prog 82 ∧ ∀ v ∈ ([.ex (.int .u8 o.1), T o.2.1, T o.2.2] : List AV), one1 v = true := by
 rw [hsO]; exact ⟨rfl, one_op [o]⟩
theorem decode_walk (s t : List UInt8) (n : Nat) (p b : Int) (hn : n ≤ 40) (hs : (bs s).size ≤ 1000000000) (co : SP 191 [T s] (TE t 0)) (cn : SP 126 [scM t 0 0, Z 1] (numM n t p b))
  (cs : ∀ x : Quill.Sc, x.text = t → SP 192 [scM t x.pos x.bad] (.tup [opA (scanP x).1, scM t (scanP x).2.pos (scanP x).2.bad])) (ht : ∀ x : Quill.Sc, x.text = t → (scanP x).2.text = t)
  (ce : ∀ x : Quill.Sc, x.text = t → SP 128 [scM t x.pos x.bad] (Z x.fin)) (L : List OpP) (sf : Quill.Sc) (hL : scanN n ⟨t, p, b⟩ = (L, sf)) (R : List OpP) (e : Int) (hfb : sf.bad ≠ 0 → sf.fin = sf.bad)
  (h1 : sf.fin ≠ 0 → R = [] ∧ e = sf.fin) (h2 : sf.fin = 0 → 1400 < (bs s).size → R = [] ∧ e = 7) (h3 : sf.fin = 0 → ¬ 1400 < (bs s).size → R = L ∧ e = 0) :
  SP 142 [T s] (.tup [.vs R.length (opC R), Z e]) := by
 refine S_ Tryz.func142 (by kernel_rfl) rfl (Nat.le_of_ble_eq_true rfl) ?_
 show avc Tryz.prog SP _ _ _ _ _ _
 dsimp only [avc, startS, Array.toList, Tryz.f142]
 have hW2 : Av.Mk 4 [0,1,0,7] := ⟨⟩
 refine Av.Wk ?_
 refine ⟨[28, 27, 7, 8, 0], [(8, some 82)], fun vs bl => ∃ (i : Nat) (x : Quill.Sc) (M : List OpP) (D : List AV) (k : Nat), i ≤ n ∧ x.text = t ∧ k = i ∧ D.length = k * 3 ∧ (∀ N, scanN (n - i) x = (N, sf) → D ++ opC N = opC L) ∧ (scanN (n - i) x).2 = sf ∧ (vs = [U i, U n, .ptr 0 0, .sl 1 k, T s] ∧ bl = [⟨[T t, Z x.pos, Z x.bad], none, false, true⟩, ⟨D, some 82, false, true⟩]), fun vs bl => match vs with | .ex (.int _ i) :: _ => n - i.toNat | _ => 0, ?_, ?_⟩
 ·refine ⟨0, ⟨t, p, b⟩, [], [], 0, by omega, rfl, rfl, rfl, fun N hN => ?_, by rw [Nat.sub_zero, hL], rfl, rfl⟩
  rw [Nat.sub_zero, hL] at hN
  injection hN with hN _
  rw [← hN]; rfl
 rintro vs bl ⟨i, x, M, D, k, hi, hx, rfl, hD, hM, hsf, rfl, rfl⟩
 have hDl : D.length = k * sizeT Tryz.prog 82 := by rw [hsO]; exact hD
 by_cases hlt : k < n
 ·have hdec : n - ((k : Int) + 1).toNat < n - (k : Int).toNat := by omega
  have c := cs x hx
  have hxt := ht x hx
  obtain ⟨m, hm⟩ : ∃ m, n - k = m + 1 := ⟨n - k - 1, by omega⟩
  have hm2 : n - (k + 1) = m := by omega
  rw [hm] at hM hsf
  have es : scanN (m + 1) x = if (scanP x).2.bad ≠ 0 then ([], (scanP x).2) else ((scanP x).1 :: (scanN m (scanP x).2).1, (scanN m (scanP x).2).2) := rfl
  rw [es] at hM hsf
  clear es
  generalize scanP x = y at c hxt hM hsf
  obtain ⟨o, x2⟩ := y
  simp only at c hxt hM hsf
  by_cases hb : x2.bad ≠ 0
  ·rw [if_pos hb] at hsf
   obtain rfl : x2 = sf := hsf
   have hf := hfb hb
   obtain ⟨rfl, rfl⟩ := h1 (by rw [hf]; exact hb)
   rw [hf]
   clear hM h1 h2 h3 cs ht ce hL hDl hD
   have hW3 : Av.Mk 4 [0,1,0,7] := ⟨⟩
   exact Av.W
  ·have hb0 : x2.bad = 0 := by simpa using hb
   rw [if_neg hb] at hsf
   rw [if_neg hb] at hM
   have hM2 : ∀ N, scanN (n - (k + 1)) x2 = (N, sf) → (D ++ [.ex (.int .u8 o.1), T o.2.1, T o.2.2]) ++ opC N = opC L := fun N hN => by
    rw [hm2] at hN
    have := hM (o :: N) (by rw [hN])
    rw [← this, List.append_assoc]; rfl
   have hsf2 : (scanN (n - (k + 1)) x2).2 = sf := by rw [hm2]; exact hsf
   have hDl2 : (D ++ [.ex (.int .u8 o.1), T o.2.1, T o.2.2]).length = (k + 1) * 3 := by rw [List.length_append, hD]; show k * 3 + 3 = _; omega
   have ho := opsOne o
   clear hM h1 h2 h3 cs ht ce hL hD hsf
   have c : SP 192 [scM t x.pos x.bad] (.tup [opA o, scM t x2.pos 0]) := by rw [← hb0]; exact c
   repeat' ((try conv => whnf) <;> first | refine Av.Va ?_ | refine ⟨_, c, ?_⟩ | (refine ⟨true, ?_⟩) | (refine And.intro ⟨room_o (by omega), hDl, ho⟩ ?_) | refine ⟨[], [0,1,0,7], Av.len_ok rfl (by kernel_rfl), ?_⟩ | exact True.intro | refine Av.Vb ?_ | exact ⟨rfl, rfl, rfl⟩ | exact ⟨rfl, rfl⟩ | (refine Av.Vc ?_ ?_ <;> intro hBr <;> first | (exfalso; omega) | (exfalso; contradiction) | (exfalso; exact hBr rfl) | skip) | refine Av.Vd ?_ | exact rfl)
   refine ⟨⟨k + 1, x2, [], _, k + 1, by omega, hxt, rfl, hDl2, hM2, hsf2, rfl, ?_⟩, hdec⟩
   rw [hb0]
 ·obtain rfl : k = n := by omega
  rw [Nat.sub_self] at hsf hM
  obtain rfl : x = sf := hsf
  have hD2 : D = opC L := by have := hM [] rfl; rwa [show opC [] = [] from rfl, List.append_nil] at this
  have hkl : k = L.length := by have := opC_len L; rw [← hD2, hD] at this; omega
  have c := ce x hx
  clear hM cs ht ce hL hfb
  by_cases hf : x.fin ≠ 0
  ·obtain ⟨rfl, rfl⟩ := h1 hf
   clear h1 h2 h3
   have hW4 : Av.Mk 4 [0,1,0,7] := ⟨⟩
   exact Av.W
  have hf : x.fin = 0 := by simpa using hf
  rw [hf] at c
  by_cases hl : 1400 < (bs s).size
  ·obtain ⟨rfl, rfl⟩ := h2 hf hl
   clear h1 h2 h3
   have hW5 : Av.Mk 4 [0,1,0,7] := ⟨⟩
   exact Av.W
  ·obtain ⟨rfl, rfl⟩ := h3 hf hl
   clear h1 h2 h3
   rw [← hkl, ← hD2]
   have hW6 : Av.Mk 4 [0,1,0,7] := ⟨⟩
   exact Av.W
theorem scanP_text (x : Quill.Sc) : (scanP x).2.text = x.text := by
 unfold scanP
 have e := x.num_text 1
 split
 ·exact e
 ·split
  ·rfl
  ·split
   ·split
    ·rfl
    ·rw [Quill.Sc.row_text, Quill.Sc.row_text, e]
   ·split
    ·rfl
    ·rw [Quill.Sc.row_text, e]
theorem opened_len (s : List UInt8) : (Crc.opened s).1.length ≤ s.length := by
 unfold Crc.opened
 split
 ·simp
 ·split
  ·simp only [List.length_take]; omega
  ·simp
theorem decode_ok (s : List UInt8) (hs : s.length ≤ 1048576) : SP 142 [T s] (.tup [.vs (decOps s).1.length (opC (decOps s).1), Z (decOps s).2]) := by
 have co := crcopen_ok s hs
 have hol := opened_len s
 unfold decOps
 generalize (Crc.opened s).1 = t at co hol ⊢
 generalize (Crc.opened s).2 = e at co ⊢
 by_cases h0 : e ≠ 0
 ·rw [if_pos h0]; exact decode_no s t e h0 co
 rw [if_neg h0]
 obtain rfl : e = 0 := by simpa using h0
 have cn := scannum_snd t 0 0 1 (by omega)
 have e1 := sc_eta _ _ (Quill.Sc.num_text ⟨t, 0, 0⟩ 1)
 simp only at e1
 generalize (Quill.Sc.num ⟨t, 0, 0⟩ 1).1 = n at cn ⊢
 rw [e1]
 generalize (Quill.Sc.num ⟨t, 0, 0⟩ 1).2.pos = p at cn ⊢
 generalize (Quill.Sc.num ⟨t, 0, 0⟩ 1).2.bad = b at cn ⊢
 by_cases h40 : 40 < n
 ·rw [if_pos h40]; exact decode_many s t n p b h40 co cn
 rw [if_neg h40]
 obtain ⟨L, sf, hL⟩ : ∃ L sf, scanN n ⟨t, p, b⟩ = (L, sf) := ⟨_, _, rfl⟩
 rw [hL]
 have hz := bs_size s
 refine decode_walk s t n p b (by omega) (by omega) co cn (fun x hx => ?_) (fun x hx => by rw [scanP_text, hx]) (fun x hx => ?_) L sf hL _ _ (fun h => ?_) (fun h => ?_) (fun h h2 => ?_) (fun h h2 => ?_)
 ·have := scanOp_ok t x.pos x.bad (by omega)
  rwa [← sc_eta x t hx] at this
 ·have := scanend_snd t x.pos x.bad (by omega)
  rwa [← sc_eta x t hx] at this
 ·unfold Quill.Sc.fin; rw [if_pos h]
 ·simp only; rw [if_pos h]; exact ⟨rfl, rfl⟩
 ·simp only; rw [if_neg (by rw [h]; simp), if_pos (by omega)]; exact ⟨rfl, rfl⟩
 ·simp only; rw [if_neg (by rw [h]; simp), if_neg (by omega)]; exact ⟨rfl, rfl⟩
theorem one13_raw (n : Nat) (a v : Key) (h1 : a.length ≤ 1000000000) (h2 : v.length ≤ 1000000000) (e : Int) (he : checkP (n, a, v) = e) : SP 197 [.ex (.agg #[.int .u8 n, .string (bs a), .string (bs v)])] (Z e) := by
 have sa := bs_size a
 have sv := bs_size v
 have ea : ((bs a).toList == (bs []).toList) = decide (a = []) := eqT_ a []
 have ev : (!((bs v).toList == (bs []).toList)) = !decide (v = []) := congrArg (!·) (eqT_ v [])
 unfold checkP at he
 simp only at he
 by_cases k0 : n < 1
 ·rw [if_pos (.inl k0)] at he
  subst he
  refine S_ Tryz.func197 (by kernel_rfl) rfl (Nat.le_of_ble_eq_true rfl) ?_
  show avc Tryz.prog SP _ _ _ _ _ _
  dsimp only [avc, startS, Array.toList, Tryz.f197]
  exact Av.W
 by_cases k3 : 3 < n
 ·rw [if_pos (.inr k3)] at he
  subst he
  refine S_ Tryz.func197 (by kernel_rfl) rfl (Nat.le_of_ble_eq_true rfl) ?_
  show avc Tryz.prog SP _ _ _ _ _ _
  dsimp only [avc, startS, Array.toList, Tryz.f197]
  exact Av.W
 rw [if_neg (by omega)] at he
 by_cases l1 : 100 < a.length
 ·rw [if_pos (.inl l1)] at he
  subst he
  refine S_ Tryz.func197 (by kernel_rfl) rfl (Nat.le_of_ble_eq_true rfl) ?_
  show avc Tryz.prog SP _ _ _ _ _ _
  dsimp only [avc, startS, Array.toList, Tryz.f197]
  exact Av.W
 by_cases l2 : 900 < v.length
 ·rw [if_pos (.inr l2)] at he
  subst he
  refine S_ Tryz.func197 (by kernel_rfl) rfl (Nat.le_of_ble_eq_true rfl) ?_
  show avc Tryz.prog SP _ _ _ _ _ _
  dsimp only [avc, startS, Array.toList, Tryz.f197]
  exact Av.W
 rw [if_neg (by omega)] at he
 by_cases q1 : n < 3 ∧ a = []
 ·rw [if_pos (.inl q1)] at he
  subst he
  obtain ⟨q1, q2⟩ := q1
  rw [decide_eq_true q2] at ea
  refine S_ Tryz.func197 (by kernel_rfl) rfl (Nat.le_of_ble_eq_true rfl) ?_
  show avc Tryz.prog SP _ _ _ _ _ _
  dsimp only [avc, startS, Array.toList, Tryz.f197]
  exact Av.W
 by_cases q2 : 1 < n ∧ v ≠ []
 ·rw [if_pos (.inr q2)] at he
  subst he
  obtain ⟨q2, q3⟩ := q2
  rw [decide_eq_false q3] at ev
  by_cases q4 : a = []
  ·rw [decide_eq_true q4] at ea
   refine S_ Tryz.func197 (by kernel_rfl) rfl (Nat.le_of_ble_eq_true rfl) ?_
   show avc Tryz.prog SP _ _ _ _ _ _
   dsimp only [avc, startS, Array.toList, Tryz.f197]
   exact Av.W
  ·rw [decide_eq_false q4] at ea
   refine S_ Tryz.func197 (by kernel_rfl) rfl (Nat.le_of_ble_eq_true rfl) ?_
   show avc Tryz.prog SP _ _ _ _ _ _
   dsimp only [avc, startS, Array.toList, Tryz.f197]
   exact Av.W
 rw [if_neg (fun h => h.elim q1 q2)] at he
 subst he
 by_cases q4 : a = []
 ·rw [decide_eq_true q4] at ea
  obtain rfl : n = 3 := by
   by_cases h3 : n = 3
   ·exact h3
   ·exact absurd ⟨by omega, q4⟩ q1
  obtain rfl : v = [] := by
   apply Classical.byContradiction
   intro h; exact q2 ⟨by omega, h⟩
  rw [decide_eq_true rfl] at ev
  refine S_ Tryz.func197 (by kernel_rfl) rfl (Nat.le_of_ble_eq_true rfl) ?_
  show avc Tryz.prog SP _ _ _ _ _ _
  dsimp only [avc, startS, Array.toList, Tryz.f197]
  exact Av.W
 ·rw [decide_eq_false q4] at ea
  by_cases q5 : v = []
  ·rw [decide_eq_true q5] at ev
   refine S_ Tryz.func197 (by kernel_rfl) rfl (Nat.le_of_ble_eq_true rfl) ?_
   show avc Tryz.prog SP _ _ _ _ _ _
   dsimp only [avc, startS, Array.toList, Tryz.f197]
   exact Av.W
  ·have q6 : ¬ 1 < n := fun h => q2 ⟨h, q5⟩
   refine S_ Tryz.func197 (by kernel_rfl) rfl (Nat.le_of_ble_eq_true rfl) ?_
   show avc Tryz.prog SP _ _ _ _ _ _
   dsimp only [avc, startS, Array.toList, Tryz.f197]
   exact Av.W
end Go.Proofs.YtbaedepmogkkeaaGreat.Av
namespace Go.Proofs.YtbaedepmogkkeaaGreat
set_option linter.unusedSimpArgs false
set_option linter.unusedVariables false
open Go.RowKit
set_option maxHeartbeats 400000 in
theorem refopen_short (l : List UInt8) (w : World) (h4 : l.length < 4) :
  Calls Tryz.prog 196 #[.string (bs l)] w fun e w' => e = .returned (.tuple #[.string (bs []), .int .i64 3]) ∧ Below w.heap.size w w' := by
 go_enter Tryz.func196, Tryz.ntmps196
 go_wp2
 go_ret2
 exact ⟨rfl, Below.refl _ _⟩
set_option maxHeartbeats 400000 in
theorem refopen_no (l : List UInt8) (w : World) (hs : l.length ≤ 1048576) (h4 : (4 : Int) ≤ l.length) (hq : (Crc.sealed (l.take (l.length - 4)) == l) = false) :
  Calls Tryz.prog 196 #[.string (bs l)] w fun e w' => e = .returned (.tuple #[.string (bs []), .int .i64 10]) ∧ Below w.heap.size w w' := by
 have hi : (l.length : Int) - 4 ≤ l.length := by omega
 have hj : ((l.length : Int) - 4).toNat = l.length - 4 := by omega
 have hl : (l.take (l.length - 4)).length ≤ 1048576 := Nat.le_trans (List.length_take_le _ _) (by omega)
 go_enter Tryz.func196, Tryz.ntmps196
 go_wp2_with (go_at_call 152; refine (refseal_any _ _ (by omega)).mono ?_; rintro e w' ⟨rfl, hb⟩)
 go_ret2
 exact ⟨rfl, hb⟩
set_option maxHeartbeats 400000 in
theorem refopen_yes (l : List UInt8) (w : World) (hs : l.length ≤ 1048576) (h4 : (4 : Int) ≤ l.length) (hq : (Crc.sealed (l.take (l.length - 4)) == l) = true) :
  Calls Tryz.prog 196 #[.string (bs l)] w fun e w' => e = .returned (.tuple #[.string (bs (l.take (l.length - 4))), .int .i64 0]) ∧ Below w.heap.size w w' := by
 have hi : (l.length : Int) - 4 ≤ l.length := by omega
 have hj : ((l.length : Int) - 4).toNat = l.length - 4 := by omega
 have hl : (l.take (l.length - 4)).length ≤ 1048576 := Nat.le_trans (List.length_take_le _ _) (by omega)
 go_enter Tryz.func196, Tryz.ntmps196
 go_wp2_with (go_at_call 152; refine (refseal_any _ _ (by omega)).mono ?_; rintro e w' ⟨rfl, hb⟩)
 go_ret2
 exact ⟨rfl, hb⟩
theorem refopen_any (l : List UInt8) (w : World) (hs : l.length ≤ 1048576) :
  Calls Tryz.prog 196 #[.string (bs l)] w fun e w' => e = .returned (.tuple #[.string (bs (Crc.opened l).1), .int .i64 (Crc.opened l).2]) ∧ Below w.heap.size w w' := by
 by_cases h4 : l.length < 4
 ·rw [Crc.opened_short h4]; exact refopen_short l w h4
 ·cases hq : (Crc.four (Crc.sum (l.take (l.length - 4))) == l.drop (l.length - 4))
  ·rw [Crc.opened_no h4 hq]; exact refopen_no l w hs (by omega) (by rw [Crc.sealed_eq]; exact hq)
  ·rw [Crc.opened_yes h4 hq]; exact refopen_yes l w hs (by omega) (by rw [Crc.sealed_eq]; exact hq)
end Go.Proofs.YtbaedepmogkkeaaGreat
namespace Go.Proofs.YtbaedepmogkkeaaGreat.Av
open Go Go.RowKit
theorem rcrcopen_ok (l : List UInt8) (hs : l.length ≤ 1048576) : SP 196 [T l] (TE (Crc.opened l).1 (Crc.opened l).2) :=
 sound_ex (vs := [.string (bs l)]) Tryz.func196 (by kernel_rfl) rfl (fun w => refopen_any l w hs)
end Go.Proofs.YtbaedepmogkkeaaGreat.Av
namespace Go.Proofs.YtbaedepmogkkeaaGreat.Av
open Go Go.RowKit Tre
set_option linter.unusedVariables false
set_option linter.unusedSimpArgs false
set_option maxRecDepth 100000
set_option maxHeartbeats 4000000
theorem room_r {k : Nat} (hk : k ≤ 1000000000000) : room k (bytesT Tryz.prog 124) := by
 rw [show bytesT Tryz.prog 124 = 40 by kernel_rfl]; unfold room; omega
theorem opsOneR (o : OpP) : ([.ex (.int .u8 o.1), T o.2.1, T o.2.2] : List AV).length = 1 * sizeT Tryz.prog 124 ∧ ∀ v ∈ ([.ex (.int .u8 o.1), T o.2.1, T o.2.2] : List AV), one1 v = true := by
 rw [hsRt]; exact ⟨rfl, one_op [o]⟩
theorem decode13_no (s t : List UInt8) (e : Int) (he : e ≠ 0) (co : SP 196 [T s] (TE t e)) : SP 147 [T s] (.tup [.vs 0 [], Z e]) := by
 refine S_ Tryz.func147 (by kernel_rfl) rfl (Nat.le_of_ble_eq_true rfl) ?_
 show avc Tryz.prog SP _ _ _ _ _ _
 dsimp only [avc, startS, Array.toList, Tryz.f147]
 repeat' ((try conv => whnf) <;> first | refine Av.Va ?_ | refine ⟨_, co, ?_⟩ | refine ⟨[], [0,1,0,7], Av.len_ok rfl (by kernel_rfl), ?_⟩ | exact True.intro | refine Av.Vb ?_ | exact ⟨rfl, rfl, rfl⟩ | exact ⟨rfl, rfl⟩ | (refine Av.Vc ?_ ?_ <;> intro hBr <;> first | (exfalso; omega) | (exfalso; contradiction) | (exfalso; exact hBr rfl) | skip) | refine Av.Vd ?_ | exact rfl)
theorem decode13_bad (s t : List UInt8) (n : Nat) (p b : Int) (hb : b ≠ 0) (co : SP 196 [T s] (TE t 0)) (cn : SP 135 [scM t 0 0, Z 1] (numM n t p b)) : SP 147 [T s] (.tup [.vs 0 [], Z b]) := by
 refine S_ Tryz.func147 (by kernel_rfl) rfl (Nat.le_of_ble_eq_true rfl) ?_
 show avc Tryz.prog SP _ _ _ _ _ _
 dsimp only [avc, startS, Array.toList, Tryz.f147]
 repeat' ((try conv => whnf) <;> first | refine Av.Va ?_ | refine ⟨_, co, ?_⟩ | refine ⟨_, cn, ?_⟩ | refine ⟨[], [0,1,0,7], Av.len_ok rfl (by kernel_rfl), ?_⟩ | exact True.intro | refine Av.Vb ?_ | exact ⟨rfl, rfl, rfl⟩ | exact ⟨rfl, rfl⟩ | (refine Av.Vc ?_ ?_ <;> intro hBr <;> first | (exfalso; omega) | (exfalso; contradiction) | (exfalso; exact hBr rfl) | skip) | refine Av.Vd ?_ | exact rfl)
theorem decode13_many (s t : List UInt8) (n : Nat) (p : Int) (hn : 40 < n) (co : SP 196 [T s] (TE t 0)) (cn : SP 135 [scM t 0 0, Z 1] (numM n t p 0)) : SP 147 [T s] (.tup [.vs 0 [], Z 24]) := by
 refine S_ Tryz.func147 (by kernel_rfl) rfl (Nat.le_of_ble_eq_true rfl) ?_
 show avc Tryz.prog SP _ _ _ _ _ _
 dsimp only [avc, startS, Array.toList, Tryz.f147]
 repeat' ((try conv => whnf) <;> first | refine Av.Va ?_ | refine ⟨_, co, ?_⟩ | refine ⟨_, cn, ?_⟩ | refine ⟨[], [0,1,0,7], Av.len_ok rfl (by kernel_rfl), ?_⟩ | exact True.intro | refine Av.Vb ?_ | exact ⟨rfl, rfl, rfl⟩ | exact ⟨rfl, rfl⟩ | (refine Av.Vc ?_ ?_ <;> intro hBr <;> first | (exfalso; omega) | (exfalso; contradiction) | (exfalso; exact hBr rfl) | skip) | refine Av.Vd ?_ | exact rfl)
theorem takerow_snd (t : List UInt8) (p b : Int) (hl : t.length ≤ 70368744177664) : SP 136 [scM t p b] (rowM (Quill.Sc.row ⟨t, p, b⟩).1 t (Quill.Sc.row ⟨t, p, b⟩).2.pos (Quill.Sc.row ⟨t, p, b⟩).2.bad) :=
 rrow_snd ⟨t, p, b⟩ hl
theorem fin_in {t : List UInt8} {p : Nat} (h : p ≤ t.length) : Quill.Sc.fin ⟨t, (p : Int), 0⟩ = if (p : Int) = (t.length : Int) then 0 else 4 := by
 by_cases e : (p : Int) = (t.length : Int)
 ·rw [if_pos e, e]; exact fin_zero t
 ·rw [if_neg e]
  unfold Quill.Sc.fin
  rw [if_neg (by simp)]
  rw [if_neg (by unfold Quill.Sc.stands; rw [decide_eq_true ⟨by show (0 : Int) ≤ p; omega, by show (p : Int) ≤ t.length; omega⟩]; simp), if_pos (by show (p : Int) < t.length; omega)]
theorem decode13_walk (s t : List UInt8) (n : Nat) (p0 : Nat) (hp0 : p0 ≤ t.length) (hn : n ≤ 40) (hs : (bs s).size ≤ 1000000000) (htl : t.length ≤ 1000000000) (co : SP 196 [T s] (TE t 0)) (cn : SP 135 [scM t 0 0, Z 1] (numM n t p0 0))
  (L : List OpP) (sf : Quill.Sc) (hL : scanN n ⟨t, p0, 0⟩ = (L, sf)) (R : List OpP) (e : Int)
  (h1 : sf.fin ≠ 0 → R = [] ∧ e = sf.fin) (h2 : sf.fin = 0 → 1400 < (bs s).size → R = [] ∧ e = 7) (h3 : sf.fin = 0 → ¬ 1400 < (bs s).size → R = L ∧ e = 0) :
  SP 147 [T s] (.tup [.vs R.length (opC R), Z e]) := by
 refine S_ Tryz.func147 (by kernel_rfl) rfl (Nat.le_of_ble_eq_true rfl) ?_
 show avc Tryz.prog SP _ _ _ _ _ _
 dsimp only [avc, startS, Array.toList, Tryz.f147]
 repeat' ((try conv => whnf) <;> first | refine Av.Va ?_ | refine ⟨_, co, ?_⟩ | refine ⟨_, cn, ?_⟩ | refine ⟨[], [0,1,0,7], Av.len_ok rfl (by kernel_rfl), ?_⟩ | exact True.intro | refine Av.Vb ?_ | exact ⟨rfl, rfl, rfl⟩ | exact ⟨rfl, rfl⟩ | (refine Av.Vc ?_ ?_ <;> intro hBr <;> first | (exfalso; omega) | (exfalso; contradiction) | (exfalso; exact hBr rfl) | skip) | refine Av.Vd ?_ | exact rfl)
 refine ⟨[9, 6, 7, 8, 4, 0], [(8, some 124)], fun vs bl => ∃ (k p : Nat) (D : List AV), k ≤ n ∧ p ≤ t.length ∧ D.length = k * 3 ∧ (∀ N, scanN (n - k) ⟨t, p, 0⟩ = (N, sf) → D ++ opC N = opC L) ∧ (scanN (n - k) ⟨t, p, 0⟩).2 = sf ∧ (vs = [Z k, U n, .ptr 0 0, .sl 1 k, T t, T s] ∧ bl = [⟨[T t, Z p, Z 0], none, false, true⟩, ⟨D, some 124, false, true⟩]), muI n, ?_, ?_⟩
 ·refine ⟨0, p0, [], by omega, hp0, rfl, fun N hN => ?_, by rw [Nat.sub_zero, hL], rfl, rfl⟩
  rw [Nat.sub_zero, hL] at hN
  injection hN with hN _
  rw [← hN]; rfl
 clear co cn hL
 rintro vs bl ⟨k, p, D, hi, hp, hD, hM, hsf, rfl, rfl⟩
 have hDl : D.length = k * sizeT Tryz.prog 124 := by rw [hsRt]; exact hD
 by_cases hlt : k < n
 ·have hdec : n - ((k : Int) + 1).toNat < n - (k : Int).toNat := by omega
  obtain ⟨m, hm⟩ : ∃ m, n - k = m + 1 := ⟨n - k - 1, by omega⟩
  have hm2 : n - (k + 1) = m := by omega
  rw [hm] at hM hsf
  have es : scanN (m + 1) ⟨t, p, 0⟩ = if (scanP ⟨t, p, 0⟩).2.bad ≠ 0 then ([], (scanP ⟨t, p, 0⟩).2) else ((scanP ⟨t, p, 0⟩).1 :: (scanN m (scanP ⟨t, p, 0⟩).2).1, (scanN m (scanP ⟨t, p, 0⟩).2).2) := rfl
  rw [es] at hM hsf
  clear es
  have hback := scan_back t p
  -- what is bad ends it
  have ends : ∀ o q b, scanP ⟨t, p, 0⟩ = (o, ⟨t, q, b⟩) → b ≠ 0 → R = [] ∧ e = b := fun o q b h hb => by
   rw [h, if_pos (show (Quill.Sc.mk t q b).bad ≠ 0 from hb)] at hsf
   have hsf : Quill.Sc.mk t q b = sf := hsf
   have hf : sf.fin = b := by rw [← hsf]; unfold Quill.Sc.fin; rw [if_pos (show (Quill.Sc.mk t q b).bad ≠ 0 from hb)]
   have := h1 (by rw [hf]; exact hb)
   rw [hf] at this; exact this
  -- what is not goes on
  have goes : ∀ o q, scanP ⟨t, p, 0⟩ = (o, ⟨t, q, 0⟩) → ∃ q' : Nat, q = q' ∧ q' ≤ t.length ∧ (∀ N, scanN (n - (k + 1)) ⟨t, q', 0⟩ = (N, sf) → (D ++ [.ex (.int .u8 o.1), T o.2.1, T o.2.2]) ++ opC N = opC L) ∧ (scanN (n - (k + 1)) ⟨t, q', 0⟩).2 = sf := fun o q h => by
   obtain ⟨o', _, k2, _, k4⟩ := hback (by rw [h])
   rw [h] at k4
   injection k4 with k5 k6
   injection k6 with _ k6 _
   rw [h, if_neg (by simp)] at hsf
   rw [h, if_neg (by simp)] at hM
   simp only at hsf hM
   subst k6
   refine ⟨_, rfl, k2, fun N hN => ?_, by rw [hm2]; exact hsf⟩
   rw [hm2] at hN
   have := hM (o :: N) (by rw [hN])
   rw [← this, List.append_assoc]; rfl
  have cn := takenum_snd t p 0 1 (by omega)
  have hnl := num_lt t p 0
  have e1 := sc_eta _ _ (Quill.Sc.num_text ⟨t, p, 0⟩ 1)
  unfold scanP at ends goes
  rw [e1] at ends goes
  clear hsf hM hback h1 h2 h3
  generalize (Quill.Sc.num ⟨t, p, 0⟩ 1).2.pos = p1 at *
  generalize (Quill.Sc.num ⟨t, p, 0⟩ 1).2.bad = b1 at *
  generalize (Quill.Sc.num ⟨t, p, 0⟩ 1).1 = c at *
  clear e1
  by_cases hb : b1 ≠ 0
  ·obtain ⟨rfl, rfl⟩ := ends _ _ _ (if_pos (show (Quill.Sc.mk t p1 b1).bad ≠ 0 from hb)) hb
   clear ends goes
   repeat' ((try conv => whnf) <;> first | refine Av.Va ?_ | refine ⟨_, cn, ?_⟩ | refine ⟨[], [0,1,0,7], Av.len_ok rfl (by kernel_rfl), ?_⟩ | exact True.intro | refine Av.Vb ?_ | exact ⟨rfl, rfl, rfl⟩ | exact ⟨rfl, rfl⟩ | (refine Av.Vc ?_ ?_ <;> intro hBr <;> first | (exfalso; omega) | (exfalso; contradiction) | (exfalso; exact hBr rfl) | skip) | refine Av.Vd ?_ | exact rfl)
  obtain rfl : b1 = 0 := by simpa using hb
  rw [if_neg (show ¬ (Quill.Sc.mk t p1 0).bad ≠ 0 by simp)] at ends goes
  simp only at ends goes
  by_cases hk : c < 1 ∨ 3 < c
  ·obtain ⟨rfl, rfl⟩ := ends _ _ _ (if_pos hk) (by decide)
   clear ends goes
   rcases hk with hk | hk
   ·repeat' ((try conv => whnf) <;> first | refine Av.Va ?_ | refine ⟨_, cn, ?_⟩ | refine ⟨[], [0,1,0,7], Av.len_ok rfl (by kernel_rfl), ?_⟩ | exact True.intro | refine Av.Vb ?_ | exact ⟨rfl, rfl, rfl⟩ | exact ⟨rfl, rfl⟩ | (refine Av.Vc ?_ ?_ <;> intro hBr <;> first | (exfalso; omega) | (exfalso; contradiction) | (exfalso; exact hBr rfl) | skip) | refine Av.Vd ?_ | exact rfl)
   ·repeat' ((try conv => whnf) <;> first | refine Av.Va ?_ | refine ⟨_, cn, ?_⟩ | refine ⟨[], [0,1,0,7], Av.len_ok rfl (by kernel_rfl), ?_⟩ | exact True.intro | refine Av.Vb ?_ | exact ⟨rfl, rfl, rfl⟩ | exact ⟨rfl, rfl⟩ | (refine Av.Vc ?_ ?_ <;> intro hBr <;> first | (exfalso; omega) | (exfalso; contradiction) | (exfalso; exact hBr rfl) | skip) | refine Av.Vd ?_ | exact rfl)
  rw [if_neg hk] at ends goes
  have cr := takerow_snd t p1 0 (by omega)
  have hr1 := row_len t p1 0
  have e2 := sc_eta _ _ (Quill.Sc.row_text ⟨t, p1, 0⟩)
  rw [e2] at ends goes
  generalize (Quill.Sc.row ⟨t, p1, 0⟩).2.pos = p2 at *
  generalize (Quill.Sc.row ⟨t, p1, 0⟩).2.bad = b2 at *
  generalize (Quill.Sc.row ⟨t, p1, 0⟩).1 = key at *
  clear e2
  have hw : IntKind.u8.wrap (c : Int) = (c : Int) := wrap_u8 (by omega) (by omega)
  by_cases k1 : c = 1
  ·rw [if_pos k1] at ends goes
   subst k1
   have cr2 := takerow_snd t p2 b2 (by omega)
   have hr2 := row_len t p2 b2
   have e3 := sc_eta _ _ (Quill.Sc.row_text ⟨t, p2, b2⟩)
   rw [e3] at ends goes
   generalize (Quill.Sc.row ⟨t, p2, b2⟩).2.pos = p3 at *
   generalize (Quill.Sc.row ⟨t, p2, b2⟩).2.bad = b3 at *
   generalize (Quill.Sc.row ⟨t, p2, b2⟩).1 = val at *
   clear e3
   by_cases h3 : b3 = 0
   ·subst h3
    rw [if_pos rfl] at ends goes
    have cc := one13_raw 1 key val (by omega) (by omega) _ rfl
    have ho := opsOneR (1, key, val)
    generalize checkP (1, key, val) = z at *
    by_cases hz : z ≠ 0
    ·obtain ⟨rfl, rfl⟩ := ends _ _ _ rfl hz
     clear ends goes
     repeat' ((try conv => whnf) <;> first | refine Av.Va ?_ | refine ⟨_, cn, ?_⟩ | refine ⟨_, cr, ?_⟩ | refine ⟨_, cr2, ?_⟩ | refine ⟨_, cc, ?_⟩ | refine ⟨[], [0,1,0,7], Av.len_ok rfl (by kernel_rfl), ?_⟩ | exact True.intro | refine Av.Vb ?_ | exact ⟨rfl, rfl, rfl⟩ | exact ⟨rfl, rfl⟩ | (refine Av.Vc ?_ ?_ <;> intro hBr <;> first | (exfalso; omega) | (exfalso; contradiction) | (exfalso; exact hBr rfl) | skip) | refine Av.Vd ?_ | exact rfl)
    ·obtain rfl : z = 0 := by simpa using hz
     obtain ⟨q', rfl, hq, g1, g2⟩ := goes _ _ rfl
     clear ends goes
     repeat' ((try conv => whnf) <;> first | refine Av.Va ?_ | refine ⟨_, cn, ?_⟩ | refine ⟨_, cr, ?_⟩ | refine ⟨_, cr2, ?_⟩ | refine ⟨_, cc, ?_⟩ | (refine ⟨true, ?_⟩) | (refine And.intro ⟨room_r (by omega), hDl, ho⟩ ?_) | refine ⟨[], [0,1,0,7], Av.len_ok rfl (by kernel_rfl), ?_⟩ | exact True.intro | refine Av.Vb ?_ | exact ⟨rfl, rfl, rfl⟩ | exact ⟨rfl, rfl⟩ | (refine Av.Vc ?_ ?_ <;> intro hBr <;> first | (exfalso; omega) | (exfalso; contradiction) | (exfalso; exact hBr rfl) | skip) | refine Av.Vd ?_ | exact rfl)
     exact ⟨⟨k + 1, q', _, by omega, hq, by rw [List.length_append, hD]; show k * 3 + 3 = _; omega, g1, g2, rfl, rfl⟩, hdec⟩
   ·rw [if_neg (show ¬ (Quill.Sc.mk t p3 b3).bad = 0 from h3)] at ends
    obtain ⟨rfl, rfl⟩ := ends _ _ _ rfl h3
    clear ends goes
    repeat' ((try conv => whnf) <;> first | refine Av.Va ?_ | refine ⟨_, cn, ?_⟩ | refine ⟨_, cr, ?_⟩ | refine ⟨_, cr2, ?_⟩ | refine ⟨[], [0,1,0,7], Av.len_ok rfl (by kernel_rfl), ?_⟩ | exact True.intro | refine Av.Vb ?_ | exact ⟨rfl, rfl, rfl⟩ | exact ⟨rfl, rfl⟩ | (refine Av.Vc ?_ ?_ <;> intro hBr <;> first | (exfalso; omega) | (exfalso; contradiction) | (exfalso; exact hBr rfl) | skip) | refine Av.Vd ?_ | exact rfl)
  ·rw [if_neg k1] at ends goes
   have g1 : ¬ (c : Int) = 1 := by omega
   by_cases h3 : b2 = 0
   ·subst h3
    rw [if_pos rfl] at ends goes
    have cc := one13_raw c key [] (by omega) (by simp) _ rfl
    have ho := opsOneR (c, key, [])
    generalize checkP (c, key, []) = z at *
    by_cases hz : z ≠ 0
    ·obtain ⟨rfl, rfl⟩ := ends _ _ _ rfl hz
     clear ends goes
     repeat' ((try conv => whnf) <;> first | refine Av.Va ?_ | refine ⟨_, cn, ?_⟩ | refine ⟨_, cr, ?_⟩ | refine ⟨_, cc, ?_⟩ | (refine ⟨_, hw, ?_⟩) | refine ⟨[], [0,1,0,7], Av.len_ok rfl (by kernel_rfl), ?_⟩ | exact True.intro | refine Av.Vb ?_ | exact ⟨rfl, rfl, rfl⟩ | exact ⟨rfl, rfl⟩ | (refine Av.Vc ?_ ?_ <;> intro hBr <;> first | (exfalso; omega) | (exfalso; contradiction) | (exfalso; exact hBr rfl) | skip) | refine Av.Vd ?_ | exact rfl)
    ·obtain rfl : z = 0 := by simpa using hz
     obtain ⟨q', rfl, hq, g1', g2⟩ := goes _ _ rfl
     clear ends goes
     repeat' ((try conv => whnf) <;> first | refine Av.Va ?_ | refine ⟨_, cn, ?_⟩ | refine ⟨_, cr, ?_⟩ | refine ⟨_, cc, ?_⟩ | (refine ⟨true, ?_⟩) | (refine And.intro ⟨room_r (by omega), hDl, ho⟩ ?_) | refine ⟨[], [0,1,0,7], Av.len_ok rfl (by kernel_rfl), ?_⟩ | exact True.intro | refine Av.Vb ?_ | exact ⟨rfl, rfl, rfl⟩ | exact ⟨rfl, rfl⟩ | (refine Av.Vc ?_ ?_ <;> intro hBr <;> first | (exfalso; omega) | (exfalso; contradiction) | (exfalso; exact hBr rfl) | skip) | refine Av.Vd ?_ | exact rfl)
     exact ⟨⟨k + 1, q', _, by omega, hq, by rw [List.length_append, hD]; show k * 3 + 3 = _; omega, g1', g2, rfl, rfl⟩, hdec⟩
   ·rw [if_neg (show ¬ (Quill.Sc.mk t p2 b2).bad = 0 from h3)] at ends
    obtain ⟨rfl, rfl⟩ := ends _ _ _ rfl h3
    clear ends goes
    repeat' ((try conv => whnf) <;> first | refine Av.Va ?_ | refine ⟨_, cn, ?_⟩ | refine ⟨_, cr, ?_⟩ | refine ⟨[], [0,1,0,7], Av.len_ok rfl (by kernel_rfl), ?_⟩ | exact True.intro | refine Av.Vb ?_ | exact ⟨rfl, rfl, rfl⟩ | exact ⟨rfl, rfl⟩ | (refine Av.Vc ?_ ?_ <;> intro hBr <;> first | (exfalso; omega) | (exfalso; contradiction) | (exfalso; exact hBr rfl) | skip) | refine Av.Vd ?_ | exact rfl)
 ·obtain rfl : k = n := by omega
  rw [Nat.sub_self] at hsf hM
  have hsf : Quill.Sc.mk t p 0 = sf := hsf
  have hD2 : D = opC L := by have := hM [] (by rw [← hsf]; rfl); rwa [show opC [] = [] from rfl, List.append_nil] at this
  have hkl : k = L.length := by have := opC_len L; rw [← hD2, hD] at this; omega
  rw [← hsf, fin_in hp] at h1 h2 h3
  have hz := bs_size t
  clear hM hsf
  by_cases hf : (p : Int) = (t.length : Int)
  ·rw [if_pos hf] at h1 h2 h3
   by_cases hl : 1400 < (bs s).size
   ·obtain ⟨rfl, rfl⟩ := h2 rfl hl
    clear h1 h2 h3
    repeat' ((try conv => whnf) <;> first | refine Av.Va ?_ | refine ⟨[], [0,1,0,7], Av.len_ok rfl (by kernel_rfl), ?_⟩ | exact True.intro | refine Av.Vb ?_ | exact ⟨rfl, rfl, rfl⟩ | exact ⟨rfl, rfl⟩ | (refine Av.Vc ?_ ?_ <;> intro hBr <;> first | (exfalso; omega) | (exfalso; contradiction) | (exfalso; exact hBr rfl) | skip) | refine Av.Vd ?_ | exact rfl)
   ·obtain ⟨rfl, rfl⟩ := h3 rfl hl
    clear h1 h2 h3
    rw [← hkl, ← hD2]
    repeat' ((try conv => whnf) <;> first | refine Av.Va ?_ | refine ⟨[], [0,1,0,7], Av.len_ok rfl (by kernel_rfl), ?_⟩ | exact True.intro | refine Av.Vb ?_ | exact ⟨rfl, rfl, rfl⟩ | exact ⟨rfl, rfl⟩ | (refine Av.Vc ?_ ?_ <;> intro hBr <;> first | (exfalso; omega) | (exfalso; contradiction) | (exfalso; exact hBr rfl) | skip) | refine Av.Vd ?_ | exact rfl)
  ·rw [if_neg hf] at h1 h2 h3
   obtain ⟨rfl, rfl⟩ := h1 (by decide)
   clear h1 h2 h3
   repeat' ((try conv => whnf) <;> first | refine Av.Va ?_ | refine ⟨[], [0,1,0,7], Av.len_ok rfl (by kernel_rfl), ?_⟩ | exact True.intro | refine Av.Vb ?_ | exact ⟨rfl, rfl, rfl⟩ | exact ⟨rfl, rfl⟩ | (refine Av.Vc ?_ ?_ <;> intro hBr <;> first | (exfalso; omega) | (exfalso; contradiction) | (exfalso; exact hBr rfl) | skip) | refine Av.Vd ?_ | exact rfl)
theorem decode13_ok (s : List UInt8) (hs : s.length ≤ 1048576) : SP 147 [T s] (.tup [.vs (decOps s).1.length (opC (decOps s).1), Z (decOps s).2]) := by
 have co := rcrcopen_ok s hs
 have hol := opened_len s
 unfold decOps
 generalize (Crc.opened s).1 = t at co hol ⊢
 generalize (Crc.opened s).2 = e at co ⊢
 by_cases h0 : e ≠ 0
 ·rw [if_pos h0]; exact decode13_no s t e h0 co
 rw [if_neg h0]
 obtain rfl : e = 0 := by simpa using h0
 have cn := takenum_snd t 0 0 1 (by omega)
 have hnb := num_back t 0 1 (by omega) (by omega)
 have hnb : (Quill.Sc.num ⟨t, 0, 0⟩ 1).2.bad = 0 → 0 + 1 ≤ t.length ∧ Quill.Sc.num ⟨t, 0, 0⟩ 1 = (Quill.tell ((t.drop 0).take 1), ⟨t, ((0 + 1 : Nat) : Int), 0⟩) := hnb
 have hbad : (Quill.Sc.num ⟨t, 0, 0⟩ 1).2.bad ≠ 0 → (Quill.Sc.num ⟨t, 0, 0⟩ 1).1 = 0 := fun h2 => by
  unfold Quill.Sc.num at h2 ⊢
  split
  ·rfl
  ·split
   ·rfl
   ·split
    ·rfl
    ·rename_i a1 a2 a3; exact absurd (by rw [if_neg a1, if_neg a2, if_neg a3]) h2
 have e1 := sc_eta _ _ (Quill.Sc.num_text ⟨t, 0, 0⟩ 1)
 simp only at e1
 have hpos : (Quill.Sc.num ⟨t, 0, 0⟩ 1).2.bad = 0 → (Quill.Sc.num ⟨t, 0, 0⟩ 1).2.pos = ((1 : Nat) : Int) ∧ 1 ≤ t.length := fun h => by
  obtain ⟨a, b⟩ := hnb h
  rw [b]; exact ⟨rfl, by omega⟩
 clear hnb
 generalize (Quill.Sc.num ⟨t, 0, 0⟩ 1).1 = n at cn hbad ⊢
 rw [e1]
 generalize (Quill.Sc.num ⟨t, 0, 0⟩ 1).2.pos = p at cn hpos ⊢
 generalize (Quill.Sc.num ⟨t, 0, 0⟩ 1).2.bad = b at cn hbad hpos ⊢
 by_cases hb : b ≠ 0
 ·obtain rfl := hbad hb
  have hf : (Quill.Sc.mk t p b).fin = b := by unfold Quill.Sc.fin; rw [if_pos (show (Quill.Sc.mk t p b).bad ≠ 0 from hb)]
  rw [if_neg (by omega), show (scanN 0 ⟨t, p, b⟩) = ([], ⟨t, p, b⟩) from rfl]
  simp only
  rw [hf, if_pos hb]
  exact decode13_bad s t 0 p b hb co cn
 obtain rfl : b = 0 := by simpa using hb
 obtain ⟨rfl, hp⟩ := hpos rfl
 by_cases h40 : 40 < n
 ·rw [if_pos h40]; exact decode13_many s t n _ h40 co cn
 rw [if_neg h40]
 obtain ⟨L, sf, hL⟩ : ∃ L sf, scanN n ⟨t, ((1 : Nat) : Int), 0⟩ = (L, sf) := ⟨_, _, rfl⟩
 rw [hL]
 have hz := bs_size s
 refine decode13_walk s t n 1 hp (by omega) (by omega) (by omega) co cn L sf hL _ _ (fun h => ?_) (fun h h2 => ?_) (fun h h2 => ?_)
 ·simp only; rw [if_pos h]; exact ⟨rfl, rfl⟩
 ·simp only; rw [if_neg (by rw [h]; simp), if_pos (by omega)]; exact ⟨rfl, rfl⟩
 ·simp only; rw [if_neg (by rw [h]; simp), if_neg (by omega)]; exact ⟨rfl, rfl⟩
end Go.Proofs.YtbaedepmogkkeaaGreat.Av
