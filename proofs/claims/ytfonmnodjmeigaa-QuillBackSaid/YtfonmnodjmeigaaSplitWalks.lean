/- quill: rows split again, both sides walked: they tell the plain split. -/
import Derived.Test.YtfonmnodjmeigaaScanWalks4
import Derived.Test.YtfonmnodjmeigaaVals
namespace Go.Proofs.Ytfonmnodjmeigaa
set_option linter.unusedSimpArgs false
set_option linter.unusedVariables false
open Go.RowKit

/-- Rows split, with fuel. -/
def Quill.Sc.split : Nat → Quill.Sc → List (List UInt8) → List (List UInt8) × Int
  | 0, _, l => (l, 0)
  | f + 1, s, l =>
    if (s.text.length : Int) - s.pos > 0 then
      if l.length = 1024 then ([], 24)
      else if s.row.2.bad ≠ 0 then ([], s.row.2.bad)
      else Quill.Sc.split f s.row.2 (l ++ [s.row.1])
    else (l, 0)
def Quill.split (t : List UInt8) : List (List UInt8) × Int := Quill.Sc.split (t.length + 1) ⟨t, 0, 0⟩ []

theorem Quill.Sc.num_fwd (s : Quill.Sc) (h : (s.num 2).2.bad = 0) : (s.num 2).2.pos = s.pos + 2 := by
  unfold Quill.Sc.num at h ⊢
  by_cases hb : s.bad ≠ 0
  · rw [if_pos hb] at h; exact absurd h hb
  · rw [if_neg hb] at h ⊢
    by_cases h2 : s.stands = false ∨ (2 : Int) < 1 ∨ 8 < (2 : Int)
    · rw [if_pos h2] at h; simp [Quill.Sc.fails] at h
    · rw [if_neg h2] at h ⊢
      by_cases h3 : (s.text.length : Int) - s.pos < 2
      · rw [if_pos h3] at h; simp [Quill.Sc.fails] at h
      · rw [if_neg h3]
theorem Quill.Sc.row_ok (t : List UInt8) (q : Nat) (h : (Quill.Sc.row ⟨t, (q : Int), 0⟩).2.bad = 0) :
    ∃ q2 : Nat, (Quill.Sc.row ⟨t, (q : Int), 0⟩).2 = ⟨t, (q2 : Int), 0⟩ ∧ q < q2 ∧ q2 ≤ t.length := by
  unfold Quill.Sc.row at h ⊢
  by_cases hb : (Quill.Sc.num ⟨t, (q : Int), 0⟩ 2).2.bad = 0
  · obtain ⟨p, hp, hp2, hx⟩ := Quill.Sc.num_ok _ hb
    have hf := Quill.Sc.num_fwd _ hb
    simp only at hf hp2
    rw [if_neg (by simpa using hb)] at h ⊢
    by_cases h3 : (t.length : Int) - (Quill.Sc.num ⟨t, (q : Int), 0⟩ 2).2.pos < ((Quill.Sc.num ⟨t, (q : Int), 0⟩ 2).1 : Int)
    · rw [if_pos h3] at h; simp [Quill.Sc.fails] at h
    · rw [if_neg h3]
      rw [hp] at hf h3 ⊢
      exact ⟨p + (Quill.Sc.num ⟨t, (q : Int), 0⟩ 2).1, by simp, by omega, by omega⟩
  · rw [if_pos hb] at h; exact absurd h hb

/-- Own texts and an error. -/
def RetTE (base : Nat) (w : World) (R : List (List UInt8) × Int) (e : Ending) (w' : World) : Prop :=
  ∃ A n c, e = .returned (.tuple #[.slice A n c, .int .i64 R.2]) ∧ OwnT w' base A n c R.1 ∧ Below base w w'
theorem RetTE.low {base b : Nat} {w w' : World} {R : List (List UInt8) × Int} {e : Ending} (h : RetTE base w R e w') (hb : b ≤ base) : RetTE b w R e w' := by
  obtain ⟨A, k, c, he, ho, hl⟩ := h
  exact ⟨A, k, c, he, ho.low hb, hl.mono hb⟩
/-- A split's head: what stands in the box, the texts, and what they will come to. -/
def AtHead (w : World) (T : TypeId) (t : List UInt8) (wr : World) (q : Nat) (A : Option Addr) (n c : Nat) : Prop :=
  ∃ L, OwnT wr (w.heap.size + 1) A n c L ∧ Blk wr w.heap.size T #[.string (bs t), .int .i64 (q : Int), .int .i64 0] ∧ Below w.heap.size w wr ∧ w.heap.size < wr.heap.size ∧ q ≤ t.length ∧ n ≤ 1024 ∧
    ∃ f, t.length - q < f ∧ Quill.Sc.split f ⟨t, (q : Int), 0⟩ L = Quill.split t
def placeOf (w wr : World) : Nat := (intOf ((wr.cell? ⟨w.heap.size, 1, none⟩).getD (.bool false))).toNat
theorem placeOf_blk {w wr : World} {T : TypeId} {a c : Value} {q : Nat} (h : Blk wr w.heap.size T #[a, .int .i64 (q : Int), c]) : placeOf w wr = q := by
  rw [placeOf, h.c3.1.2.1]; simp [intOf]
theorem split_end {f : Nat} {t : List UInt8} {q : Nat} {L : List (List UInt8)} (hf : t.length - q < f) (hq : q = t.length) : Quill.Sc.split f ⟨t, (q : Int), 0⟩ L = (L, 0) := by
  obtain ⟨f, rfl⟩ : ∃ g, f = g + 1 := ⟨f - 1, by omega⟩
  rw [Quill.Sc.split, if_neg (by simp [hq])]
theorem split_many {f : Nat} {t : List UInt8} {q : Nat} {L : List (List UInt8)} (hf : t.length - q < f) (hq : q < t.length) (hL : L.length = 1024) : Quill.Sc.split f ⟨t, (q : Int), 0⟩ L = ([], 24) := by
  obtain ⟨f, rfl⟩ : ∃ g, f = g + 1 := ⟨f - 1, by omega⟩
  rw [Quill.Sc.split, if_pos (by simp; omega), if_pos hL]
theorem split_bad {f : Nat} {t : List UInt8} {q : Nat} {L : List (List UInt8)} (hf : t.length - q < f) (hq : q < t.length) (hL : L.length ≠ 1024) (hb : (Quill.Sc.row ⟨t, (q : Int), 0⟩).2.bad ≠ 0) :
    Quill.Sc.split f ⟨t, (q : Int), 0⟩ L = ([], (Quill.Sc.row ⟨t, (q : Int), 0⟩).2.bad) := by
  obtain ⟨f, rfl⟩ : ∃ g, f = g + 1 := ⟨f - 1, by omega⟩
  rw [Quill.Sc.split, if_pos (by simp; omega), if_neg hL, if_pos hb]
theorem split_next {f : Nat} {t : List UInt8} {q q2 : Nat} {L : List (List UInt8)} (hf : t.length - q < f) (hq : q < t.length) (hL : L.length ≠ 1024)
    (hb : (Quill.Sc.row ⟨t, (q : Int), 0⟩).2 = ⟨t, (q2 : Int), 0⟩) (hlt : q < q2) :
    ∃ g, t.length - q2 < g ∧ Quill.Sc.split f ⟨t, (q : Int), 0⟩ L = Quill.Sc.split g ⟨t, (q2 : Int), 0⟩ (L ++ [(Quill.Sc.row ⟨t, (q : Int), 0⟩).1]) := by
  obtain ⟨f, rfl⟩ : ∃ g, f = g + 1 := ⟨f - 1, by omega⟩
  refine ⟨f, by omega, ?_⟩
  rw [Quill.Sc.split, if_pos (by simp; omega), if_neg hL, if_neg (by rw [hb]; simp), hb]
theorem RdT.one_ {g : Nat} (w : World) (l : List UInt8) (h : w.heap.size = g) : RdT (w.alloc (.cells #[.string (bs l)] 9)) (some ⟨g, 0, none⟩) 1 [l] := h ▸ RdT.one w l
theorem OwnT.set3 {w : World} {base n c g : Nat} {A : Option Addr} {L : List (List UInt8)} (h : OwnT w base A n c L) (hg : g < base) (a b d : Value) :
    OwnT (((w.setCell ⟨g, 0, none⟩ a).setCell ⟨g, 1, none⟩ b).setCell ⟨g, 2, none⟩ d) base A n c L := by
  have one : ∀ (w : World) (i : Nat) (v : Value), OwnT w base A n c L → OwnT (w.setCell ⟨g, i, none⟩ v) base A n c L := by
    intro w i v h
    refine h.keep fun k hk => ?_
    have hl := h.2.lt hk
    simp only at hl
    exact heap_setCell_other w ⟨g, i, none⟩ k v (by simp; omega)
  exact one _ _ _ (one _ _ _ (one _ _ _ h))

set_option maxHeartbeats 800000 in
theorem ssplit (t : List UInt8) (w : World) (hl : t.length ≤ 70368744177664) :
    Calls Try.prog 23 #[.string (bs t)] w (RetTE w.heap.size w (Quill.split t)) := by
  go_enter Try.func23, Try.ntmps23
  go_wp2
  go_loopw [4] (fun v wr => ∃ (q : Nat) (A : Option Addr) (n c : Nat), v = .slice A n c ∧ AtHead w 28 t wr q A n c) (fun _ wr => t.length - placeOf w wr)
  case atStart => exact ⟨0, none, 0, 0, rfl, [], (OwnT.nil_ _ _), Blk.new w _ _, (Below.refl _ _).alloc (Nat.le_refl _) _, by simp, by omega, by omega, t.length + 1, by omega, rfl⟩
  case round =>
    obtain ⟨q, A, n, c, rfl, L, ho, hk, hb, hz, hq, hn, f, hf, hR⟩ := hrel
    have c0 := Blk.c3 hk
    have hL := ho.1
    have HP := Lib.hid (placeOf_blk hk)
    have HF := Lib.hid (And.intro hf (And.intro hR hL)); clear hf hR hL
    have HO := Lib.hid (And.intro ho (And.intro hk hb)); clear ho hk hb
    go_wp2_with fail
    refine (left_any _ _ _ _ (by omega) (by omega) (by omega)).mono ?_; rintro e w1 ⟨rfl, hb1⟩
    have ho := HO.out.1.below hb1 (Nat.le_refl _)
    have hk : Blk w1 _ _ _ := Blk.below HO.out.2.1 hb1 hz
    have hb := HO.out.2.2.trans (hb1.mono (by omega))
    have hz1 : w.heap.size < w1.heap.size := by have := hb1.size; omega
    clear c0 HO hb1
    have c0 := Blk.c3 hk
    have HO := Lib.hid (And.intro ho (And.intro hk hb)); clear ho hk hb
    by_cases hlt : q < t.length
    · have hlt2 : 0 < (t.length : Int) - (q : Int) := by omega
      by_cases hm : n = 1024
      · subst hm
        go_wp2_with fail
        go_ret2
        have h := split_many HF.out.1 hlt HF.out.2.2
        rw [HF.out.2.1] at h
        rw [h]
        exact ⟨_, _, _, rfl, OwnT.nil_ _ _, HO.out.2.2⟩
      · have hm2 : ((n : Int) == 1024) = false := by simp; omega
        go_wp2_with fail
        refine (srow ⟨t, (q : Int), 0⟩ _ (by simpa using hl)).mono ?_; rintro e w2 ⟨rfl, hb2⟩
        have ho := HO.out.1.below hb2 (Nat.le_refl _)
        have hk : Blk w2 _ _ _ := Blk.below HO.out.2.1 hb2 hz1
        have hb := HO.out.2.2.trans (hb2.mono (by omega))
        have hz2 : w.heap.size < w2.heap.size := by have := hb2.size; omega
        clear c0 HO hb2
        have c0 := Blk.c3 hk
        have HO := Lib.hid (And.intro ho (And.intro hk hb)); clear ho hk hb
        by_cases hbad : (Quill.Sc.row ⟨t, (q : Int), 0⟩).2.bad = 0
        · obtain ⟨q2, hr2, hq2, hq3⟩ := Quill.Sc.row_ok t q hbad
          obtain ⟨g, hg, hS⟩ := split_next HF.out.1 hlt (by rw [HF.out.2.2]; exact hm) hr2 hq2
          rw [HF.out.2.1] at hS
          rw [hr2]
          obtain ⟨rt, hrt⟩ : ∃ x, x = (Quill.Sc.row ⟨t, (q : Int), 0⟩).1 := ⟨_, rfl⟩
          rw [← hrt] at hS ⊢
          clear hrt hbad hr2
          have HG := Lib.hid (And.intro hg hS); clear hg hS
          have HS := Lib.hid (OwnT.set3 HO.out.1 (g := w.heap.size) (by omega) (.string (bs t)) (.int .i64 (q2 : Int)) (.int .i64 0))
          go_wp2_with (at_builtin; refine wpList_appT _ rfl _ _ rfl (w.heap.size + 1) rfl (OwnT.alloc HS.out _) rfl (RdT.one_ _ rt (by simp)) (by omega) (by simp; omega) ?_)
          intro A3 c3 w3 ho3 hg3
          have hne : ∀ (w' : World), some w.heap.size ≠ blockOf A := by
            intro w' e
            cases A with
            | none => cases e
            | some a => have h1 := (HO.out.1.2.lt rfl).1; simp [blockOf] at e; omega
          have hk3 : Blk w3 w.heap.size 28 _ := ((Blk.set3 HO.out.2.1 (.string (bs t)) (.int .i64 (q2 : Int)) (.int .i64 0)).alloc _).grown hg3 (hne w3)
          have hb3 : Below w.heap.size w w3 := ((below_set3 HO.out.2.2 (Nat.le_refl _) (.string (bs t)) (.int .i64 (q2 : Int)) (.int .i64 0)).alloc (by simp; omega) _).trans ((grownT_below (HS.out.alloc _) hg3 (by simp; omega)).mono (by omega))
          have hz3 : w.heap.size < w3.heap.size := hk3.lt
          have c3' := Blk.c3 hk3
          have H3 := Lib.hid (And.intro ho3.out (And.intro hk3 hb3)); clear ho3 hk3 hb3 hg3
          go_wp2_with fail
          go_roundw
          case rel =>
            refine ⟨q2, A3, n + 1, c3, rfl, L ++ [rt], H3.out.1, H3.out.2.1, H3.out.2.2, hz3, hq3, by omega, g, HG.out.1, HG.out.2.symm⟩
          case measure => rw [HP.out, placeOf_blk H3.out.2.1]; omega
        · have hb2 : ((Quill.Sc.row ⟨t, (q : Int), 0⟩).2.bad != 0) = true := by simpa using hbad
          have hS := split_bad HF.out.1 hlt (by rw [HF.out.2.2]; exact hm) hbad
          rw [HF.out.2.1] at hS
          clear hbad
          have HG := Lib.hid hS; clear hS
          go_wp2_with fail
          go_region
          go_wp2_with fail
          go_ret2
          rw [HG.out]
          exact ⟨_, _, _, rfl, OwnT.nil_ _ _, (below_set3 HO.out.2.2 (Nat.le_refl _) _ _ _).drew⟩
    · obtain rfl : q = t.length := by omega
      go_wp2_with fail
      go_ret2
      have h := split_end (L := L) HF.out.1 rfl
      rw [HF.out.2.1] at h
      rw [h]
      exact ⟨_, _, _, rfl, HO.out.1.low (by omega), HO.out.2.2⟩

set_option maxHeartbeats 800000 in
theorem rsplit (t : List UInt8) (w : World) (hl : t.length ≤ 70368744177664) :
    Calls Try.prog 24 #[.string (bs t)] w (RetTE w.heap.size w (Quill.split t)) := by
  go_enter Try.func24, Try.ntmps24
  go_wp2
  go_loopw [5] (fun v wr => ∃ (q : Nat) (A : Option Addr) (n c : Nat), v = .slice A n c ∧ AtHead w 23 t wr q A n c) (fun _ wr => t.length - placeOf w wr)
  case atStart => exact ⟨0, none, 0, 0, rfl, [], (OwnT.nil_ _ _), Blk.new w _ _, (Below.refl _ _).alloc (Nat.le_refl _) _, by simp, by omega, by omega, t.length + 1, by omega, rfl⟩
  case round =>
    obtain ⟨q, A, n, c, rfl, L, ho, hk, hb, hz, hq, hn, f, hf, hR⟩ := hrel
    have c0 := Blk.c3 hk
    have hL := ho.1
    have HP := Lib.hid (placeOf_blk hk)
    have HF := Lib.hid (And.intro hf (And.intro hR hL)); clear hf hR hL
    have HO := Lib.hid (And.intro ho (And.intro hk hb)); clear ho hk hb
    by_cases hlt : q < t.length
    · have hlt2 : (q : Int) < (t.length : Int) := by omega
      by_cases hm : n = 1024
      · subst hm
        go_wp2_with fail
        go_ret2
        have h := split_many HF.out.1 hlt HF.out.2.2
        rw [HF.out.2.1] at h
        rw [h]
        exact ⟨_, _, _, rfl, OwnT.nil_ _ _, HO.out.2.2⟩
      · have hm2 : ((n : Int) == 1024) = false := by simp; omega
        go_wp2_with fail
        refine (rrow ⟨t, (q : Int), 0⟩ _ (by simpa using hl)).mono ?_; rintro e w2 ⟨rfl, hb2⟩
        have ho := HO.out.1.below hb2 (Nat.le_refl _)
        have hk : Blk w2 _ _ _ := Blk.below HO.out.2.1 hb2 hz
        have hb := HO.out.2.2.trans (hb2.mono (by omega))
        have hz2 : w.heap.size < w2.heap.size := by have := hb2.size; omega
        clear c0 HO hb2
        have c0 := Blk.c3 hk
        have HO := Lib.hid (And.intro ho (And.intro hk hb)); clear ho hk hb
        by_cases hbad : (Quill.Sc.row ⟨t, (q : Int), 0⟩).2.bad = 0
        · obtain ⟨q2, hr2, hq2, hq3⟩ := Quill.Sc.row_ok t q hbad
          obtain ⟨g, hg, hS⟩ := split_next HF.out.1 hlt (by rw [HF.out.2.2]; exact hm) hr2 hq2
          rw [HF.out.2.1] at hS
          rw [hr2]
          obtain ⟨rt, hrt⟩ : ∃ x, x = (Quill.Sc.row ⟨t, (q : Int), 0⟩).1 := ⟨_, rfl⟩
          rw [← hrt] at hS ⊢
          clear hrt hbad hr2
          have HG := Lib.hid (And.intro hg hS); clear hg hS
          have HS := Lib.hid (OwnT.alloc HO.out.1 (.cells #[.string (bs t), .int .i64 (q2 : Int), .int .i64 0] 23))
          go_wp2_with (at_builtin; refine wpList_appT _ rfl _ _ rfl (w.heap.size + 1) rfl (OwnT.alloc HS.out _) rfl (RdT.one_ _ rt (by simp)) (by omega) (by simp; omega) ?_)
          intro A3 c3 w3 ho3 hg3
          have hne : ∀ g, (g = w.heap.size ∨ w2.heap.size ≤ g) → some g ≠ blockOf A := by
            intro g hg e
            cases A with
            | none => cases e
            | some a => have h1 := (HO.out.1.2.lt rfl); simp [blockOf] at e; omega
          have hk3 : Blk w3 w.heap.size 23 _ := (((show Blk w2 _ _ _ from HO.out.2.1).alloc _).alloc _).grown hg3 (hne _ (.inl rfl))
          have hk4 : Blk w3 w2.heap.size 23 _ := ((Blk.new w2 23 #[.string (bs t), .int .i64 (q2 : Int), .int .i64 0]).alloc _).grown hg3 (hne _ (.inr (Nat.le_refl _)))
          have hb3 : Below w.heap.size w w3 := ((HO.out.2.2.alloc (by omega) _).alloc (by simp; omega) _).trans ((grownT_below (HS.out.alloc _) hg3 (by simp; omega)).mono (by omega))
          have hz3 : w.heap.size < w3.heap.size := hk3.lt
          have c3' := Blk.c3 hk3
          have c4' := Blk.c3 hk4
          have H3 := Lib.hid (And.intro ho3.out (And.intro hk3 hb3)); clear ho3 hk3 hb3 hg3 hk4 c0
          go_wp2_with fail
          go_roundw
          case rel =>
            refine ⟨q2, A3, n + 1, c3, rfl, L ++ [rt], OwnT.set3 H3.out.1 (g := w.heap.size) (by omega) _ _ _, Blk.set3 H3.out.2.1 _ _ _, below_set3 H3.out.2.2 (Nat.le_refl _) _ _ _, by simpa using hz3, hq3, by omega, g, HG.out.1, HG.out.2.symm⟩
          case measure => rw [HP.out, placeOf_blk (Blk.set3 H3.out.2.1 _ _ _)]; omega
        · have hb2 : ((Quill.Sc.row ⟨t, (q : Int), 0⟩).2.bad != 0) = true := by simpa using hbad
          have hS := split_bad HF.out.1 hlt (by rw [HF.out.2.2]; exact hm) hbad
          rw [HF.out.2.1] at hS
          clear hbad
          have HG := Lib.hid hS; clear hS
          go_wp2_with fail
          go_region
          go_wp2_with fail
          go_ret2
          rw [HG.out]
          exact ⟨_, _, _, rfl, OwnT.nil_ _ _, (HO.out.2.2.alloc (by omega) _).drew⟩
    · obtain rfl : q = t.length := by omega
      go_wp2_with fail
      go_ret2
      have h := split_end (L := L) HF.out.1 rfl
      rw [HF.out.2.1] at h
      rw [h]
      exact ⟨_, _, _, rfl, HO.out.1.low (by omega), HO.out.2.2⟩
end Go.Proofs.Ytfonmnodjmeigaa
