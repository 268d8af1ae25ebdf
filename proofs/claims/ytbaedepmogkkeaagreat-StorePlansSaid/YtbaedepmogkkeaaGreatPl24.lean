/- What the claim stands on, Pl24: contracts of functions and plain facts. No conditions. -/
import Derived.Test.YtbaedepmogkkeaaGreatPl23
import Derived.Test.YtbaedepmogkkeaaGreatPl19
import Derived.Test.YtbaedepmogkkeaaGreatPl17
namespace Go.Proofs.YtbaedepmogkkeaaGreat.Av
open Go Go.RowKit Tre
set_option linter.unusedVariables false
set_option linter.unusedSimpArgs false
set_option maxRecDepth 100000
set_option maxHeartbeats 4000000
def ofL (l : List Pr) : Tr := l.foldl (fun t p => Tr.put p.1 p.2 t) .nil
theorem ofL_snoc (l : List Pr) (p : Pr) : ofL (l ++ [p]) = Tr.put p.1 p.2 (ofL l) := by unfold ofL; rw [List.foldl_append]; rfl
abbrev zTr : AV := .ex (.agg #[.pointer none])
def cellO : List Pr → AV
 | [] => .ex (.pointer none)
 | a :: l => ndA (ofL (a :: l))
def treeO : List Pr → AV
 | [] => zTr
 | a :: l => trA (ofL (a :: l))
theorem zrepO {w : World} {F : Nat → Nat → Prop} {D : Nat → Prop} {x : Value} (h : Rep w p0 c0 F D zTr x) : Rep w p0 c0 F D (trA .nil) x := by
 rw [h.ex_inv]
 refine .agg _ _ _ rfl fun j hj => ?_
 match j, hj with
 | 0, _ => exact .pt0 _ _
theorem treeO_c {l : List Pr} {f : FuncId} {ys : List AV} {r : AV} (h : SP f (trA (ofL l) :: ys) r) : SP f (treeO l :: ys) r := by
 cases l with
 | cons a l => exact h
 | nil =>
  refine Sound.weak h (by simp) fun w F j h1 h2 x hx => ?_
  cases j with
  | zero => exact zrepO hx
  | succ j => exact hx
theorem ofL_good : ∀ (l : List Pr), Tr.Good (ofL l) ∧ (ofL l).cn ≤ l.length ∧ (ofL l).wt ≤ bytesL l := by
 intro l
 have key : ∀ (r : List Pr), Tr.Good (ofL r.reverse) ∧ (ofL r.reverse).cn ≤ r.reverse.length ∧ (ofL r.reverse).wt ≤ bytesL r.reverse := by
  intro r
  induction r with
  | nil => exact ⟨Tr.good_nil, by decide, by decide⟩
  | cons p r ih =>
   obtain ⟨g, c, w⟩ := ih
   rw [List.reverse_cons, ofL_snoc, bytesL_app]
   have h := step_sizes g (1, p.1, p.2)
   have e : (ofL r.reverse).step (1, p.1, p.2) = Tr.put p.1 p.2 (ofL r.reverse) := rfl
   rw [e] at h
   simp only at h
   obtain ⟨a, b⟩ := p
   refine ⟨(g.put a b).1, ?_, ?_⟩
   ·rw [List.length_append]; simp only [List.length_cons, List.length_nil] at *; omega
   ·simp only [bytesL] at *; omega
 have := key l.reverse
 rwa [List.reverse_reverse] at this
theorem ofL_toL : ∀ {l : List Pr}, Srt l → (ofL l).toL = l := by
 intro l h
 have key : ∀ (r : List Pr), Srt r.reverse → (ofL r.reverse).toL = r.reverse := by
  intro r
  induction r with
  | nil => intro _; rfl
  | cons p r ih =>
   intro h
   rw [List.reverse_cons] at h ⊢
   obtain ⟨a, b⟩ := p
   rw [ofL_snoc, ((ofL_good r.reverse).1.put a b).2, ih h.app_left]
   have := putL_less (k := a) (v := b) (l := r.reverse) [] fun x hx => h.app_lt x hx (a, b) (by simp)
   rw [List.append_nil] at this
   rw [this]; rfl
 have := key l.reverse (by rwa [List.reverse_reverse])
 rwa [List.reverse_reverse] at this
theorem row_le (x : Quill.Sc) : x.row.1.length ≤ x.text.length := by
 unfold Quill.Sc.row
 split
 ·exact Nat.zero_le _
 ·split
  ·exact Nat.zero_le _
  ·rw [List.length_take, List.length_drop]; omega
theorem len_bytes : ∀ l : List Pr, 4 * l.length ≤ bytesL l
 | [] => Nat.zero_le _
 | (a, b) :: l => by have := len_bytes l; simp only [List.length_cons, bytesL]; omega
theorem leq_lt (a b : Key) : (Op.bytesLess a b || a == b) = !lt b a := by
 show (lt a b || a == b) = !lt b a
 cases h : lt a b with
 | true => rw [lt_asymm h]; rfl
 | false =>
  cases h2 : lt b a with
  | true =>
   have : a ≠ b := fun e => by subst e; rw [lt_irr] at h2; cases h2
   simpa using this
  | false =>
   have := lt_tri h h2
   simp [this]
def DInv (s : List UInt8) (n : Nat) (vs : List AV) (bl : List ABlk) : Prop :=
 ∃ (i : Nat) (p b : Int) (acc : List Pr) (ah : Key), i ≤ n ∧ Shf.decR (n - i) ⟨s, p, b⟩ acc = Shf.dec s ∧ acc.length = i ∧ (acc = [] ∨ ∃ v, acc.getLast? = some (ah, v)) ∧ (b = 0 → ∃ q : Nat, p = q ∧ bytesL acc ≤ q ∧ q ≤ s.length) ∧
  (vs = [U i, U n, .ptr 0 0, .ptr 1 0, T ah, .ptr 2 0] ∧ bl = [⟨[T s, Z p, Z b], none, false, true⟩, ⟨[cellO acc], none, false, true⟩, ⟨[.ex (.pointer none)], none, false, true⟩])
theorem row_step {s : List UInt8} {q : Nat} (hq : q ≤ s.length) (h : (Quill.Sc.row ⟨s, (q : Int), 0⟩).2.bad = 0) : (Quill.Sc.row ⟨s, (q : Int), 0⟩).2.pos = ((q + 2 + (Quill.Sc.row ⟨s, (q : Int), 0⟩).1.length : Nat) : Int) ∧ q + 2 + (Quill.Sc.row ⟨s, (q : Int), 0⟩).1.length ≤ s.length := by
 have hl : (s.take q).length = q := by rw [List.length_take]; omega
 have h' : (Quill.Sc.row ⟨s, ((s.take q).length : Int), 0⟩).2.bad = 0 := by rw [hl]; exact h
 obtain ⟨k, r, e1, e2, e3⟩ := Shf.row_inv (t := s) (a := s.take q) (r := s.drop q) (List.take_append_drop q s).symm h'
 rw [hl] at e3
 have e4 := congrArg List.length e1
 rw [List.length_drop, List.length_append, Quill.rowB_length] at e4
 rw [e3]
 simp only
 rw [List.length_append, hl, Quill.rowB_length]
 exact ⟨by omega, by omega⟩
theorem sdec_ok (s : List UInt8) (hl : s.length ≤ 100000000) : SP 62 [T s] (.tup [treeO (Shf.dec s).1, Z (Shf.dec s).2]) := by
 have cn := scannum_snd s 0 0 4 (by omega)
 obtain ⟨n, x0, hn⟩ : ∃ n x0, Quill.Sc.num ⟨s, 0, 0⟩ 4 = (n, x0) := ⟨_, _, rfl⟩
 have hx0 : x0.text = s := by have := Quill.Sc.num_text ⟨s, 0, 0⟩ 4; rw [hn] at this; exact this
 have hdec : Shf.decR n x0 [] = Shf.dec s := by unfold Shf.dec; rw [hn]
 have hn32 : n < 4294967296 ∧ (x0.bad = 0 → ∃ q : Nat, x0.pos = q ∧ bytesL [] ≤ q ∧ q ≤ s.length) := by
  by_cases hb : x0.bad = 0
  ·obtain ⟨h4, e⟩ := Shf.num_inv (t := s) (a := []) (r := s) (z := 4) rfl (by omega) (by omega) (by show (Quill.Sc.num ⟨s, 0, 0⟩ 4).2.bad = 0; rw [hn]; exact hb)
   have e : Quill.Sc.num ⟨s, 0, 0⟩ 4 = (Quill.tell (s.take 4), ⟨s, (((s.take 4).length : Nat) : Int), 0⟩) := e
   rw [hn] at e
   injection e with e1 e2
   have := Quill.tell_lt (s.take 4)
   have hl4 : (s.take 4).length = 4 := by rw [List.length_take]; omega
   rw [hl4] at this e2
   refine ⟨by rw [e1]; omega, fun _ => ⟨4, by rw [e2], Nat.zero_le _, h4⟩⟩
  ·refine ⟨?_, fun h => absurd h hb⟩
   have : n = 0 := by
    have h2 : (Quill.Sc.num ⟨s, 0, 0⟩ 4).2.bad ≠ 0 := by rw [hn]; exact hb
    have h1 : (Quill.Sc.num ⟨s, 0, 0⟩ 4).1 = 0 := by
     unfold Quill.Sc.num at h2 ⊢
     split
     ·rfl
     ·split
      ·rfl
      ·split
       ·rfl
       ·rename_i a1 a2 a3; exact absurd (by rw [if_neg a1, if_neg a2, if_neg a3]) h2
    rw [hn] at h1; exact h1
   omega
 rw [hn] at cn
 obtain ⟨t0, p0', b0⟩ := x0
 have hx0 : t0 = s := hx0
 subst hx0
 simp only at cn hn32
 have e0 : DInv t0 n [U 0, U n, .ptr 0 0, .ptr 1 0, T [], .ptr 2 0] [⟨[T t0, Z p0', Z b0], none, false, true⟩, ⟨[.ex (.pointer none)], none, false, true⟩, ⟨[.ex (.pointer none)], none, false, true⟩] := ⟨0, p0', b0, [], [], Nat.zero_le _, hdec, rfl, .inl rfl, hn32.2, rfl, rfl⟩
 have hn32 := hn32.1
 clear hn hdec
 refine S_ Tryz.func62 (by kernel_rfl) rfl (Nat.le_of_ble_eq_true rfl) ?_
 show avc Tryz.prog SP _ _ _ _ _ _
 dsimp only [avc, startS, Array.toList, Tryz.f62]
 refine Av.Wk ?_
 refine ⟨[8, 5, 6, 4, 7, 2], [], DInv t0 n, muI n, e0, ?_⟩
 clear e0 cn
 rintro vs bl ⟨i, p, b, acc, ah, hi, hd, hai, hah, hq, rfl, rfl⟩
 by_cases hgo : i < n ∧ b = 0
 ·obtain ⟨hlt, hb⟩ := hgo
  subst hb
  obtain ⟨q, hq1, hq2, hq3⟩ := hq rfl
  subst hq1
  have hdec : muI n [U ((i : Int) + 1)] [] < muI n [U i] [] := by show n - ((i : Int) + 1).toNat < n - (i : Int).toNat; omega
  rw [show n - i = (n - (i + 1)) + 1 by omega, Shf.decR_succ, if_neg (by simp)] at hd
  have c1 := row_snd ⟨t0, q, 0⟩ (by show t0.length ≤ _; omega)
  have hk := row_le ⟨t0, q, 0⟩
  have ht1 := Quill.Sc.row_text ⟨t0, q, 0⟩
  have hst := row_step (s := t0) hq3
  obtain ⟨k, x1, hr1⟩ : ∃ k x1, Quill.Sc.row ⟨t0, q, 0⟩ = (k, x1) := ⟨_, _, rfl⟩
  rw [hr1] at hd c1 hk ht1 hst
  obtain ⟨s1, p1, b1⟩ := x1
  have ht1 : s1 = t0 := ht1
  subst ht1
  simp only at hd c1 hk hst
  have c2 := row_snd ⟨s1, p1, b1⟩ (by show s1.length ≤ _; omega)
  have hv := row_le ⟨s1, p1, b1⟩
  have ht2 := Quill.Sc.row_text ⟨s1, p1, b1⟩
  have hst2 : b1 = 0 → (Quill.Sc.row ⟨s1, p1, b1⟩).2.bad = 0 → ∃ q' : Nat, (Quill.Sc.row ⟨s1, p1, b1⟩).2.pos = q' ∧ q + 4 + k.length + (Quill.Sc.row ⟨s1, p1, b1⟩).1.length ≤ q' ∧ q' ≤ s1.length := fun h1 h2 => by
   obtain ⟨f1, f2⟩ := hst h1
   rw [f1, h1] at h2 ⊢
   obtain ⟨f3, f4⟩ := row_step f2 h2
   exact ⟨_, f3, by omega, f4⟩
  have hbb : b1 ≠ 0 → (Quill.Sc.row ⟨s1, p1, b1⟩).2.bad = b1 := fun h => by rw [Shf.row_bad s1 p1 b1 h]
  obtain ⟨v, x2, hr2⟩ : ∃ v x2, Quill.Sc.row ⟨s1, p1, b1⟩ = (v, x2) := ⟨_, _, rfl⟩
  rw [hr2] at hd c2 hv ht2 hst2 hbb
  obtain ⟨s2, p2, b2⟩ := x2
  have ht2 : s2 = s1 := ht2
  subst ht2
  simp only at hd c2 hv hst2 hbb
  obtain ⟨_, gc, gw⟩ := ofL_good acc
  have hlb := len_bytes acc
  have cp := treeO_c (l := acc) (tput_ok (t := ofL acc) (k := k) (v := v) ⟨by omega, by omega⟩)
  rw [← ofL_snoc acc (k, v)] at cp
  have hcell : ∀ l : List Pr, l ≠ [] → cellO l = ndA (ofL l) ∧ treeO l = trA (ofL l) := fun l h => by
   cases l with
   | nil => exact absurd rfl h
   | cons a l => exact ⟨rfl, rfl⟩
  have hne : acc ++ [(k, v)] ≠ [] := by simp
  have fin : Shf.decR (n - (i + 1)) ⟨s2, p2, b2⟩ (acc ++ [(k, v)]) = Shf.dec s2 → DInv s2 n [U ((i : Int) + 1), U n, .ptr 0 0, .ptr 1 0, T k, .ptr 2 0] [⟨[T s2, Z p2, Z b2], none, false, true⟩, ⟨[ndA (ofL (acc ++ [(k, v)]))], none, false, true⟩, ⟨[.ex (.pointer none)], none, false, true⟩] := fun h =>
   ⟨i + 1, p2, b2, acc ++ [(k, v)], k, by omega, h, by simp [hai], .inr ⟨v, by simp⟩, fun hb2 => by
    by_cases h1 : b1 = 0
    ·obtain ⟨q', f1, f2, f3⟩ := hst2 h1 hb2
     refine ⟨q', f1, ?_, f3⟩
     rw [bytesL_app]
     simp only [bytesL]
     omega
    ·exact absurd (hb2.symm.trans (hbb h1)) (Ne.symm h1), rfl, by rw [(hcell _ hne).1]⟩
  by_cases hstop : b1 = 0 ∧ Shf.late acc k = true
  ·obtain ⟨h1, h2⟩ := hstop
   rw [if_pos ⟨h1, h2⟩] at hd
   rw [← hd]
   have hcons : 0 < i := by
    rcases hah with rfl | ⟨w, hw⟩
    ·exact absurd h2 (by simp [Shf.late])
    ·cases acc with
     | nil => simp at hw
     | cons a l => rw [← hai]; simp
   have hX : (Op.bytesLess (bs k).toList (bs ah).toList || (bs k).toList == (bs ah).toList) = true := by
    rw [bsl_, bsl_, leq_lt]
    rcases hah with rfl | ⟨w, hw⟩
    ·simp at hai; omega
    ·unfold Shf.late at h2; rw [hw] at h2; exact h2
   clear fin cp hne hcell hlb gc gw hbb hst2 hv hst hk c2
   generalize cellO acc = N at *
   exact Av.W
  ·rw [if_neg hstop] at hd
   have fin := fin hd
   have hX : b1 = 0 → 0 < i → (Op.bytesLess (bs k).toList (bs ah).toList || (bs k).toList == (bs ah).toList) = false := fun h1 h0 => by
    rw [bsl_, bsl_, leq_lt]
    rcases hah with rfl | ⟨w, hw⟩
    ·simp at hai; omega
    ·have : Shf.late acc k ≠ true := fun e => hstop ⟨h1, e⟩
     unfold Shf.late at this; rw [hw] at this; simpa using this
   clear hlb gc gw hbb hst2 hv hst hk hstop hd hcell
   generalize ofL (acc ++ [(k, v)]) = t' at *
   by_cases hb1 : b1 = 0
   ·by_cases hi0 : 0 < i
    ·have hX := hX hb1 hi0
     cases acc with
     | nil => simp at hai; omega
     | cons a l =>
      exact Av.W
    ·clear hX
     cases acc with
     | nil =>
      exact Av.W
     | cons a l => simp at hai; omega
   ·clear hX
    cases acc
    all_goals
     exact Av.W
 ·have hfin : Shf.fin ⟨t0, p, b⟩ acc = Shf.dec t0 := by
   rw [← hd]
   by_cases hb : b = 0
   ·rw [show n - i = 0 by omega]; rfl
   ·rw [Shf.decR_bad (n - i) t0 acc p b hb, Shf.fin_bad t0 acc p b hb]
  have ce := end_snd ⟨t0, p, b⟩ (by show t0.length ≤ _; omega)
  unfold Shf.fin at hfin
  have hex : ¬ (i < n) ∨ b ≠ 0 := by omega
  obtain ⟨e, he⟩ : ∃ e, Quill.Sc.fin ⟨t0, p, b⟩ = e := ⟨_, rfl⟩
  rw [he] at ce hfin
  simp only at ce
  by_cases h0 : e = 0
  ·rw [if_pos h0] at hfin
   rw [← hfin]
   clear hfin hd hah hq
   cases acc
   all_goals
    exact Av.W
  ·rw [if_neg h0] at hfin
   rw [← hfin]
   clear hfin hd hah hq
   generalize cellO acc = N at *
   exact Av.W
theorem rsize_ok (l : List Pr) (hl : l.length ≤ 1000000) (hb : bytesL l ≤ 1000000000000) : SP 160 [.vs l.length (prC l)] (Z (4 + (bytesL l : Int))) := by
 have c := pbytes_ok l hl hb _ rfl
 refine S_ Tryz.func160 (by kernel_rfl) rfl (Nat.le_of_ble_eq_true rfl) ?_
 show avc Tryz.prog SP _ _ _ _ _ _
 dsimp only [avc, startS, Array.toList, Tryz.f160]
 exact Av.W
theorem rrowk_snd (l s : List UInt8) (hl : l.length ≤ 17592186044416) (hs : s.length ≤ 65535) : SP 132 [.vs l.length (bytesA l), T s] (.tup [.own 5 (l ++ Quill.rowB s).length (bytesA (l ++ Quill.rowB s)), Z 0]) :=
 sound_bytesE (vs := [.string (bs s)]) Tryz.func132 (by kernel_rfl) rfl (fun w A n c hr => refrow_any A n c l s w w.heap.size hr (by have := hr.1; omega) hs (Nat.le_refl _)) _ (.inl rfl)
def RInv (l : List Pr) (vs : List AV) (bl : List ABlk) : Prop :=
 ∃ (i m : Nat) (D : List UInt8), i ≤ l.length ∧ D = Quill.numB 4 l.length ++ Shf.encR (l.take i) ∧ m = D.length ∧ (vs = [Z i, .sl 0 m, .vs l.length (prC l)] ∧ bl = [byB D])
theorem renc_ok (l : List Pr) (hl : l.length ≤ 1000000) (hs : Shf.Short l) : SP 68 [.vs l.length (prC l)] (.tup [T (Shf.encB l), Z 0]) := by
 have cn := rnumk_nil 4 l.length (by omega) (by omega) (by omega)
 have h4 := Quill.numB_length 4 l.length
 have e0 : RInv l [Z 0, .sl 0 (Quill.numB 4 l.length).length, .vs l.length (prC l)] [byB (Quill.numB 4 l.length)] := ⟨0, _, _, Nat.zero_le _, by simp [Shf.encR], rfl, rfl, rfl⟩
 obtain ⟨R, hR⟩ : ∃ R, R = Shf.encB l := ⟨_, rfl⟩
 rw [← hR]
 refine S_ Tryz.func68 (by kernel_rfl) rfl (Nat.le_of_ble_eq_true rfl) ?_
 show avc Tryz.prog SP _ _ _ _ _ _
 dsimp only [avc, startS, Array.toList, Tryz.f68]
 refine Av.Wk ?_
 refine ⟨[5, 4, 0], [], RInv l, muI l.length, e0, ?_⟩
 clear e0 cn
 rintro vs bl ⟨i, m, D, hi, hD, hm, rfl, rfl⟩
 subst hm
 have hb := bytesL_le (l := l.take i) fun y hy => hs y (List.mem_of_mem_take hy)
 have hDl : D.length = 4 + bytesL (l.take i) := by rw [hD, List.length_append, h4, Shf.encR_len]
 have hti : (l.take i).length ≤ 1000000 := by rw [List.length_take]; omega
 by_cases hlt : i < l.length
 ·have h1 := prK hlt
  have h2 := prV hlt
  have hx := hs _ (List.getElem_mem hlt)
  have hdec : muI l.length [Z ((i : Int) + 1)] [] < muI l.length [Z i] [] := by show l.length - ((i : Int) + 1).toNat < l.length - (i : Int).toNat; omega
  have c1 := rrowk_snd D l[i].1 (by omega) hx.1
  have c2 := rrowk_snd (D ++ Quill.rowB l[i].1) l[i].2 (by rw [List.length_append, Quill.rowB_length]; omega) hx.2
  have fin : RInv l [Z ((i : Int) + 1), .sl 0 (D ++ Quill.rowB l[i].1 ++ Quill.rowB l[i].2).length, .vs l.length (prC l)] [byB (D ++ Quill.rowB l[i].1 ++ Quill.rowB l[i].2)] :=
   ⟨i + 1, _, _, by omega, by rw [hD, List.take_add_one, List.getElem?_eq_getElem hlt, Shf.encR_app]; simp [Shf.encR, Shf.encP], rfl, rfl, rfl⟩
  have z1 := bs_size l[i].1
  have z2 := bs_size l[i].2
  clear hb hDl hD hR hti h4
  generalize D ++ Quill.rowB l[i].1 ++ Quill.rowB l[i].2 = D2 at *
  generalize D ++ Quill.rowB l[i].1 = D1 at *
  generalize l[i].1 = k at *
  generalize l[i].2 = v at *
  exact Av.W
 ·obtain rfl : i = l.length := by omega
  rw [List.take_length] at hD
  obtain rfl : R = D := by rw [hR, hD]; rfl
  have hcv : bytesA R = bytesA R ∧ R.length = R.length := ⟨rfl, rfl⟩
  clear hb hDl hD hR hti h4
  exact Av.W
def RDInv (s : List UInt8) (n : Nat) (vs : List AV) (bl : List ABlk) : Prop :=
 ∃ (i m : Nat) (p b : Int) (acc : List Pr) (D : List AV), i ≤ n ∧ Shf.decR (n - i) ⟨s, p, b⟩ acc = Shf.dec s ∧ m = acc.length ∧ D = prC acc ∧ (b = 0 → ∃ q : Nat, p = q ∧ bytesL acc ≤ q ∧ q ≤ s.length) ∧
  (vs = [U i, U n, .ptr 0 0, .sl 1 m] ∧ bl = [⟨[T s, Z p, Z b], none, false, true⟩, rowP D])
theorem num_first (s : List UInt8) {n : Nat} {x0 : Quill.Sc} (hn : Quill.Sc.num ⟨s, 0, 0⟩ 4 = (n, x0)) : x0.text = s ∧ n < 4294967296 ∧ (x0.bad = 0 → ∃ q : Nat, x0.pos = q ∧ bytesL [] ≤ q ∧ q ≤ s.length) := by
 refine ⟨by have := Quill.Sc.num_text ⟨s, 0, 0⟩ 4; rw [hn] at this; exact this, ?_⟩
 by_cases hb : x0.bad = 0
 ·obtain ⟨h4, e⟩ := Shf.num_inv (t := s) (a := []) (r := s) (z := 4) rfl (by omega) (by omega) (by show (Quill.Sc.num ⟨s, 0, 0⟩ 4).2.bad = 0; rw [hn]; exact hb)
  have e : Quill.Sc.num ⟨s, 0, 0⟩ 4 = (Quill.tell (s.take 4), ⟨s, (((s.take 4).length : Nat) : Int), 0⟩) := e
  rw [hn] at e
  injection e with e1 e2
  have := Quill.tell_lt (s.take 4)
  have hl4 : (s.take 4).length = 4 := by rw [List.length_take]; omega
  rw [hl4] at this e2
  refine ⟨by rw [e1]; omega, fun _ => ⟨4, by rw [e2], Nat.zero_le _, h4⟩⟩
 ·refine ⟨?_, fun h => absurd h hb⟩
  have : n = 0 := by
   have h2 : (Quill.Sc.num ⟨s, 0, 0⟩ 4).2.bad ≠ 0 := by rw [hn]; exact hb
   have h1 : (Quill.Sc.num ⟨s, 0, 0⟩ 4).1 = 0 := by
    unfold Quill.Sc.num at h2 ⊢
    split
    ·rfl
    ·split
     ·rfl
     ·split
      ·rfl
      ·rename_i a1 a2 a3; exact absurd (by rw [if_neg a1, if_neg a2, if_neg a3]) h2
   rw [hn] at h1; exact h1
  omega
theorem rdec_ok (s : List UInt8) (hl : s.length ≤ 100000000) : SP 77 [T s] (.tup [.vs (Shf.dec s).1.length (prC (Shf.dec s).1), Z (Shf.dec s).2]) := by
 have cn := takenum_snd s 0 0 4 (by omega)
 obtain ⟨n, x0, hn⟩ : ∃ n x0, Quill.Sc.num ⟨s, 0, 0⟩ 4 = (n, x0) := ⟨_, _, rfl⟩
 obtain ⟨hx0, hn32, hq0⟩ := num_first s hn
 have hdec : Shf.decR n x0 [] = Shf.dec s := by unfold Shf.dec; rw [hn]
 rw [hn] at cn
 obtain ⟨t0, p0', b0⟩ := x0
 have hx0 : t0 = s := hx0
 subst hx0
 simp only at cn hq0
 have e0 : RDInv t0 n [U 0, U n, .ptr 0 0, .sl 1 0] [⟨[T t0, Z p0', Z b0], none, false, true⟩, rowP []] := ⟨0, 0, p0', b0, [], [], Nat.zero_le _, hdec, rfl, rfl, hq0, rfl, rfl⟩
 clear hn hdec hq0
 refine S_ Tryz.func77 (by kernel_rfl) rfl (Nat.le_of_ble_eq_true rfl) ?_
 show avc Tryz.prog SP _ _ _ _ _ _
 dsimp only [avc, startS, Array.toList, Tryz.f77]
 refine Av.Wk ?_
 refine ⟨[7, 4, 5, 6], [(6, some 212)], RDInv t0 n, muI n, e0, ?_⟩
 clear e0 cn
 rintro vs bl ⟨i, m, p, b, acc, D, hi, hd, hm, hD, hq, rfl, rfl⟩
 have hDl : D.length = m * sizeT Tryz.prog 212 := by rw [hD, prC_len, hm, hsP]
 by_cases hgo : i < n ∧ b = 0
 ·obtain ⟨hlt, hb⟩ := hgo
  subst hb
  obtain ⟨q, hq1, hq2, hq3⟩ := hq rfl
  subst hq1
  have hdec : muI n [U ((i : Int) + 1)] [] < muI n [U i] [] := by show n - ((i : Int) + 1).toNat < n - (i : Int).toNat; omega
  rw [show n - i = (n - (i + 1)) + 1 by omega, Shf.decR_succ, if_neg (by simp)] at hd
  have c1 := rrow_snd ⟨t0, q, 0⟩ (by show t0.length ≤ _; omega)
  have hk := row_le ⟨t0, q, 0⟩
  have ht1 := Quill.Sc.row_text ⟨t0, q, 0⟩
  have hst := row_step (s := t0) hq3
  obtain ⟨k, x1, hr1⟩ : ∃ k x1, Quill.Sc.row ⟨t0, q, 0⟩ = (k, x1) := ⟨_, _, rfl⟩
  rw [hr1] at hd c1 hk ht1 hst
  obtain ⟨s1, p1, b1⟩ := x1
  have ht1 : s1 = t0 := ht1
  subst ht1
  simp only at hd c1 hk hst
  have c2 := rrow_snd ⟨s1, p1, b1⟩ (by show s1.length ≤ _; omega)
  have ht2 := Quill.Sc.row_text ⟨s1, p1, b1⟩
  have hst2 : b1 = 0 → (Quill.Sc.row ⟨s1, p1, b1⟩).2.bad = 0 → ∃ q' : Nat, (Quill.Sc.row ⟨s1, p1, b1⟩).2.pos = q' ∧ q + 4 + k.length + (Quill.Sc.row ⟨s1, p1, b1⟩).1.length ≤ q' ∧ q' ≤ s1.length := fun h1 h2 => by
   obtain ⟨f1, f2⟩ := hst h1
   rw [f1, h1] at h2 ⊢
   obtain ⟨f3, f4⟩ := row_step f2 h2
   exact ⟨_, f3, by omega, f4⟩
  have hbb : b1 ≠ 0 → (Quill.Sc.row ⟨s1, p1, b1⟩).2.bad = b1 := fun h => by rw [Shf.row_bad s1 p1 b1 h]
  obtain ⟨v, x2, hr2⟩ : ∃ v x2, Quill.Sc.row ⟨s1, p1, b1⟩ = (v, x2) := ⟨_, _, rfl⟩
  rw [hr2] at hd c2 ht2 hst2 hbb
  obtain ⟨s2, p2, b2⟩ := x2
  have ht2 : s2 = s1 := ht2
  subst ht2
  simp only at hd c2 hst2 hbb
  have hlb := len_bytes acc
  have hmb : m ≤ 100000000 := by omega
  have ap : room (m + 1) (bytesT Tryz.prog 212) ∧ D.length = m * sizeT Tryz.prog 212 ∧ ([T k, T v] : List AV).length = 1 * sizeT Tryz.prog 212 ∧ ∀ u ∈ ([T k, T v] : List AV), one1 u = true := ⟨room_p (by omega), hDl, pre2 k v⟩
  have fin : Shf.decR (n - (i + 1)) ⟨s2, p2, b2⟩ (acc ++ [(k, v)]) = Shf.dec s2 → RDInv s2 n [U ((i : Int) + 1), U n, .ptr 0 0, .sl 1 (m + 1)] [⟨[T s2, Z p2, Z b2], none, false, true⟩, rowP (D ++ [T k, T v])] := fun h =>
   ⟨i + 1, m + 1, p2, b2, acc ++ [(k, v)], _, by omega, h, by simp [hm], by rw [hD, prC_app]; rfl, fun hb2 => by
    by_cases h1 : b1 = 0
    ·obtain ⟨q', f1, f2, f3⟩ := hst2 h1 hb2
     refine ⟨q', f1, ?_, f3⟩
     rw [bytesL_app]
     simp only [bytesL]
     omega
    ·exact absurd (hb2.symm.trans (hbb h1)) (Ne.symm h1), rfl, rfl⟩
  have hlast : 0 < m → ∃ a : Pr, acc.getLast? = some a ∧ D[mulS ((m : Int) - 1).toNat (sizeT Tryz.prog 212) + 0]? = some (T a.1) := fun h0 => by
   have hlt' : m - 1 < acc.length := by omega
   refine ⟨acc[m - 1], ?_, ?_⟩
   ·rw [List.getLast?_eq_getElem?, ← hm, List.getElem?_eq_getElem hlt']
   ·rw [hD, show (m : Int) - 1 = ((m - 1 : Nat) : Int) by omega]
    exact prK hlt'
  have hnil : ¬ 0 < m → Shf.late acc k = false := fun h0 => by
   have : acc = [] := List.length_eq_zero_iff.1 (by omega)
   subst this; rfl
  by_cases hm0 : 0 < m
  ·obtain ⟨a, ha1, ha2⟩ := hlast hm0
   have hX : (!(Op.bytesLess (bs a.1).toList (bs k).toList)) = Shf.late acc k := by
    rw [bsl_, bsl_]
    unfold Shf.late
    rw [ha1]; rfl
   clear hlast hnil ha1 hlb hDl hst hst2 hbb hk
   generalize a.1 = ak at *
   cases hlt2 : Shf.late acc k with
   | true =>
    rw [hlt2] at hX
    by_cases hb1 : b1 = 0
    ·rw [if_pos ⟨hb1, hlt2⟩] at hd
     rw [← hd]
     clear fin ap c2
     exact Av.W
    ·rw [if_neg (fun h => hb1 h.1)] at hd
     have fin := fin hd
     clear hX
     exact Av.W
   | false =>
    rw [hlt2] at hX
    rw [if_neg (fun h => by rw [hlt2] at h; cases h.2)] at hd
    have fin := fin hd
    exact Av.W
  ·have h1 := hnil hm0
   rw [if_neg (fun h => by rw [h1] at h; cases h.2)] at hd
   have fin := fin hd
   clear hlast hnil hlb hDl hst hst2 hbb hk
   exact Av.W
 ·have hfin : Shf.fin ⟨t0, p, b⟩ acc = Shf.dec t0 := by
   rw [← hd]
   by_cases hb : b = 0
   ·rw [show n - i = 0 by omega]; rfl
   ·rw [Shf.decR_bad (n - i) t0 acc p b hb, Shf.fin_bad t0 acc p b hb]
  have ce := rend_snd ⟨t0, p, b⟩ (by show t0.length ≤ _; omega)
  unfold Shf.fin at hfin
  have hex : ¬ (i < n) ∨ b ≠ 0 := by omega
  obtain ⟨e, he⟩ : ∃ e, Quill.Sc.fin ⟨t0, p, b⟩ = e := ⟨_, rfl⟩
  rw [he] at ce hfin
  simp only at ce
  by_cases h0 : e = 0
  ·rw [if_pos h0] at hfin
   rw [← hfin]
   have e2 : AV.vs acc.length (prC acc) = .vs m D := by rw [hm, hD]
   rw [e2]
   clear hfin hd hq hDl hD e2
   exact Av.W
  ·rw [if_neg h0] at hfin
   rw [← hfin]
   clear hfin hd hq hDl hD
   exact Av.W
end Go.Proofs.YtbaedepmogkkeaaGreat.Av
namespace Go.Proofs.YtbaedepmogkkeaaGreat.Av
set_option maxHeartbeats 1000000
open Go Go.RowKit
set_option linter.unusedVariables false
set_option linter.unusedSimpArgs false
set_option maxRecDepth 100000
def pc (t : List UInt8) (i : Nat) : List UInt8 := (t.drop (48 * i)).take 48
def pcs (t : List UInt8) (k : Nat) : List AV := (List.range k).map fun i => T (pc t i)
theorem pcs_succ (t : List UInt8) (k : Nat) : pcs t (k + 1) = pcs t k ++ [T (pc t k)] := by simp [pcs, List.range_succ]
theorem pcs_len (t : List UInt8) (k : Nat) : (pcs t k).length = k := by simp [pcs]
def npc (t : List UInt8) : Nat := (t.length + 47) / 48
theorem cnt_npc (t : List UInt8) : cntP (t.length : Int) = (npc t : Int) := by unfold cntP npc; split <;> omega
theorem rcut_yes (t : List UInt8) (n : Int) (hl : t.length ≤ 1000000000000) (h : (npc t : Int) ≤ n) : SP 70 [T t, Z n] (.tup [.own 9 (npc t) (pcs t (npc t)), Z 0]) := by
 have hc := rcount_ok ((bs t).size : Int) (by rw [bs_size]; omega)
 rw [bs_size, cnt_npc] at hc
 rw [← bs_size t] at hc
 have hs1 : sizeT Tryz.prog 9 = 1 := by kernel_rfl
 have hsz := bs_size t
 refine S_ Tryz.func70 (by kernel_rfl) rfl (Nat.le_of_ble_eq_true rfl) ?_
 show avc Tryz.prog SP _ _ _ _ _ _
 dsimp only [avc, startS, Array.toList, Tryz.f70]
 refine Av.Wk ?_
 refine ⟨[6, 7, 0], [(6, some 9)], fun vs bl => ∃ (i : Nat) (cs : List AV) (z : Int), i ≤ npc t ∧ cs = pcs t i ∧ z = 48 * (i : Int) ∧ (vs = [.sl 0 i, Z z, T t] ∧ bl = [⟨cs, some 9, false, true⟩]),
  fun vs bl => match vs with | [.sl _ i, _, _] => npc t - i | _ => 0, ?_, ?_⟩
 ·exact ⟨0, _, 0, by omega, rfl, by omega, rfl, rfl⟩
 rintro vs bl ⟨i, cs, z, hi, hcs, hz, rfl, rfl⟩
 have hcl : cs.length = i := by rw [hcs, pcs_len]
 have hn : npc t = (t.length + 47) / 48 := rfl
 by_cases hlt : 48 * i < t.length
 ·have hi1 : i + 1 ≤ npc t := by omega
  have fin : ∀ e : Int, e = min (48 * (i : Int) + 48) t.length → cs ++ [AV.ex (.string ((bs t).extract z.toNat e.toNat))] = pcs t (i + 1) := by
   intro e he
   have e1 : z.toNat = 48 * i := by omega
   have e2 : (t.drop (48 * i)).take (e.toNat - 48 * i) = pc t i := by
    unfold pc
    by_cases h1 : 48 * i + 48 ≤ t.length
    ·rw [show e.toNat - 48 * i = 48 by omega]
    ·rw [List.take_of_length_le (by rw [List.length_drop]; omega), List.take_of_length_le (by rw [List.length_drop]; omega)]
   rw [bs_cut, e1, e2, pcs_succ, hcs]
  by_cases h1 : 48 * i + 48 ≤ t.length
  ·have hWz : Av.FzF := ⟨⟩
   refine Av.Wk ?_
   refine And.intro ⟨room_s (by omega), by rw [hs1, hcl, Nat.mul_one], by rw [hs1]; rfl, one_S _⟩ ?_
   refine Av.Wk ?_
   exact ⟨⟨i + 1, _, _, hi1, fin _ (by omega), by omega, rfl, rfl⟩, (by omega : npc t - (i + 1) < npc t - i)⟩
  ·have hWz : Av.FzF := ⟨⟩
   refine Av.Wk ?_
   refine And.intro ⟨room_s (by omega), by rw [hs1, hcl, Nat.mul_one], by rw [hs1]; rfl, one_S _⟩ ?_
   refine Av.Wk ?_
   exact ⟨⟨i + 1, _, _, hi1, fin _ (by omega), by omega, rfl, rfl⟩, (by omega : npc t - (i + 1) < npc t - i)⟩
 ·have hik : i = npc t := by omega
  subst hik
  subst hcs
  exact Av.W
theorem cut_yes (t : List UInt8) (n : Int) (hl : t.length ≤ 1000000000000) (h : (npc t : Int) ≤ n) : SP 65 [T t, Z n] (.tup [.own 9 (npc t) (pcs t (npc t)), Z 0]) := by
 have hc := count_ok ((bs t).size : Int) (by rw [bs_size]; omega)
 rw [bs_size, cnt_npc] at hc
 rw [← bs_size t] at hc
 have hs1 : sizeT Tryz.prog 9 = 1 := by kernel_rfl
 have hsz := bs_size t
 have hn : npc t = (t.length + 47) / 48 := rfl
 refine S_ Tryz.func65 (by kernel_rfl) rfl (Nat.le_of_ble_eq_true rfl) ?_
 show avc Tryz.prog SP _ _ _ _ _ _
 dsimp only [avc, startS, Array.toList, Tryz.f65]
 refine Av.Wk ?_
 refine ⟨[6, 0], [(6, some 9)], fun vs bl => ∃ (i : Nat) (cs : List AV) (u : List UInt8) (s : ByteArray), i ≤ npc t ∧ cs = pcs t i ∧ u = t.drop (48 * i) ∧ s = bs u ∧ (vs = [.sl 0 i, .ex (.string s)] ∧ bl = [⟨cs, some 9, false, true⟩]),
  fun vs bl => match vs with | [.sl _ i, _] => npc t - i | _ => 0, ?_, ?_⟩
 ·exact ⟨0, _, t, _, by omega, rfl, by simp, rfl, rfl, rfl⟩
 rintro vs bl ⟨i, cs, u, s, hi, hcs, hu, hs, rfl, rfl⟩
 have hcl : cs.length = i := by rw [hcs, pcs_len]
 have hul : u.length = t.length - 48 * i := by rw [hu, List.length_drop]
 have hus := bs_size u
 subst hs
 by_cases h0 : u = []
 ·have hik : i = npc t := by subst h0; simp at hul; omega
  subst hik
  subst hcs
  subst h0
  exact Av.W
 ·have hpos : 0 < u.length := List.length_pos_iff.2 h0
  by_cases h1 : u.length ≤ 48
  ·have hk : npc t = i + 1 := by omega
   have hfin : pcs t (npc t) = cs ++ [AV.ex (.string (bs u))] := by
    rw [hk, pcs_succ, hcs, hu, pc, List.take_of_length_le (by rw [← hu]; exact h1)]
   have hWz : Av.FzF := ⟨⟩
   refine Av.Wk ?_
   refine And.intro ⟨room_s (by omega), by rw [hs1, hcl, Nat.mul_one], by rw [hs1]; rfl, one_S _⟩ ?_
   refine Av.Wk ?_
   refine And.intro ⟨rfl, hk, hfin⟩ ?_
   exact Av.W
  ·have hi1 : i + 1 ≤ npc t := by omega
   have fin : cs ++ [AV.ex (.string ((bs u).extract (0 : Int).toNat (48 : Int).toNat))] = pcs t (i + 1) := by
    rw [bs_cut, pcs_succ, hcs, pc, hu]; rfl
   have fin2 : (bs u).extract (48 : Int).toNat ((bs u).size : Int).toNat = bs (t.drop (48 * (i + 1))) := by
    rw [bs_cut, hus, hu, List.drop_drop]
    congr 1
    rw [List.take_of_length_le (by rw [List.length_drop, List.length_drop]; simp; omega)]
    congr 1
   have hWz : Av.FzF := ⟨⟩
   refine Av.Wk ?_
   refine And.intro ⟨room_s (by omega), by rw [hs1, hcl, Nat.mul_one], by rw [hs1]; rfl, one_S _⟩ ?_
   refine Av.Wk ?_
   exact ⟨⟨i + 1, _, _, _, hi1, fin, rfl, fin2, rfl, rfl⟩, (by omega : npc t - (i + 1) < npc t - i)⟩
theorem rglue_neg (L : List (List UInt8)) (n : Int) (h : n < 0) : SP 76 [.vs L.length (L.map T), Z n] (.tup [T [], Z 2]) := by
 refine S_ Tryz.func76 (by kernel_rfl) rfl (Nat.le_of_ble_eq_true rfl) ?_
 show avc Tryz.prog SP _ _ _ _ _ _
 dsimp only [avc, startS, Array.toList, Tryz.f76]
 exact Av.W
theorem rglue_ok (L : List (List UInt8)) (n : Int) (h : 0 ≤ n) (hl : L.length ≤ 1000000) (hL : L.flatten.length ≤ 1000000000000) (s : ByteArray) (er : Int)
  (hs : (n ≤ L.flatten.length ∧ s = bs (L.flatten.take n.toNat) ∧ er = 0) ∨ ((L.flatten.length : Int) < n ∧ s = bs [] ∧ er = 3)) :
  SP 76 [.vs L.length (L.map T), Z n] (.tup [.ex (.string s), Z er]) := by
 have hs1 : sizeT Tryz.prog 9 = 1 := by kernel_rfl
 refine S_ Tryz.func76 (by kernel_rfl) rfl (Nat.le_of_ble_eq_true rfl) ?_
 show avc Tryz.prog SP _ _ _ _ _ _
 dsimp only [avc, startS, Array.toList, Tryz.f76]
 refine Av.Wk ?_
 refine ⟨[7, 0, 6, 1], [], fun vs bl => ∃ (i : Nat) (a : ByteArray), i ≤ L.length ∧ a = bs (L.take i).flatten ∧ (vs = [Z i, .vs L.length (L.map T), .ex (.string a), Z n] ∧ bl = []),
  fun vs bl => match vs with | [.ex (.int _ i), _, _, _] => L.length - i.toNat | _ => 0, ?_, ?_⟩
 ·exact ⟨0, _, by omega, rfl, rfl, rfl⟩
 rintro vs bl ⟨i, a, hi, ha, rfl, rfl⟩
 have hsz : a.size = (L.take i).flatten.length := by rw [ha, bs_size]
 have hle : (L.take i).flatten.length ≤ L.flatten.length := by
  have : L.flatten = (L.take i).flatten ++ (L.drop i).flatten := by rw [← List.flatten_append, List.take_append_drop]
  rw [this, List.length_append]; omega
 by_cases hlt : i < L.length
 ·have hat : (L.map T)[mulS (i : Int).toNat (sizeT Tryz.prog 9)]? = some (T L[i]) := by rw [mulS_eq, hs1]; simp [hlt]
  have hnext : (L.take (i + 1)).flatten = (L.take i).flatten ++ L[i] := by rw [List.take_succ_eq_append_getElem hlt, List.flatten_append]; simp
  have hle2 : (L.take (i + 1)).flatten.length ≤ L.flatten.length := by
   have : L.flatten = (L.take (i + 1)).flatten ++ (L.drop (i + 1)).flatten := by rw [← List.flatten_append, List.take_append_drop]
   rw [this, List.length_append]; omega
  have hadd : a.size + (bs L[i]).size ≤ 9223372036854775807 := by
   rw [hnext, List.length_append] at hle2
   rw [hsz, bs_size]; omega
  have hnew : a ++ bs L[i] = bs (L.take (i + 1)).flatten := by rw [ha, bs_add, hnext]
  generalize L[i] = q at hat hadd hnew
  repeat' ((try conv => whnf) <;> first | refine Av.Va ?_ | (refine ⟨_, hat, ?_⟩) | (refine And.intro hadd ?_) | exact True.intro | refine Av.Vb ?_ | exact ⟨rfl, rfl, rfl⟩ | exact ⟨rfl, rfl⟩ | (refine Av.Vc ?_ ?_ <;> intro hBr <;> first | (exfalso; omega) | (exfalso; contradiction) | (exfalso; exact hBr rfl) | skip) | refine Av.Vd ?_ | exact rfl)
  exact ⟨⟨i + 1, _, by omega, hnew, rfl, rfl⟩, (by simp only [Int.toNat_natCast]; show L.length - ((i : Int) + 1).toNat < _; omega)⟩
 ·have hik : i = L.length := by omega
  have hall : (L.take i).flatten = L.flatten := by rw [hik, List.take_length]
  rw [hall] at ha hsz
  rcases hs with ⟨h1, h2, h3⟩ | ⟨h1, h2, h3⟩
  ·have hx : a.extract (0 : Int).toNat n.toNat = s := by rw [ha, h2, bs_cut]; simp
   refine Av.Wk ?_
   refine And.intro (congrArg (fun x => AV.ex (Value.string x)) hx) ?_
   subst h3
   exact Av.W
  ·subst h2 h3
   exact Av.W
end Go.Proofs.YtbaedepmogkkeaaGreat.Av
namespace Go.Proofs.YtbaedepmogkkeaaGreat.Av
open Go Go.RowKit
set_option linter.unusedVariables false
set_option linter.unusedSimpArgs false
theorem rowk_snd (l s : List UInt8) (hl : l.length ≤ 17592186044416) (hs : s.length ≤ 65535) : SP 162 [.vs l.length (bytesA l), T s] (.tup [.own 5 (l ++ Quill.rowB s).length (bytesA (l ++ Quill.rowB s)), Z 0]) :=
 sound_bytesE (vs := [.string (bs s)]) Tryz.func162 (by kernel_rfl) rfl (fun w A n c hr => row_any A n c l s w w.heap.size hr (by have := hr.1; omega) hs (Nat.le_refl _)) _ (.inl rfl)
end Go.Proofs.YtbaedepmogkkeaaGreat.Av
