/- The law of quill on rows, walked. No conditions. -/
import Derived.Test.YtfonmnodjmeigaaQuillLaws1
import Derived.Test.YtfonmnodjmeigaaQuillPure2
import Derived.Test.YtfonmnodjmeigaaArgs
namespace Go.Proofs.Ytfonmnodjmeigaa
set_option linter.unusedVariables false
open Go.RowKit Go.ChangeShapes Go.WideShapes

theorem run_str' {w : World} {A : Option Addr} {n : Nat} {l : List UInt8} (h : RdB w A n l) (c : Nat) :
    (convert 52 9 (.slice A n c)).run Try.prog w = .ok (.string (bs l)) w := run_string_B 52 9 h Try.underlying52 Try.underlying9 c
theorem over_bad (A : Option Addr) (n c : Nat) (L : List (List UInt8)) (w : World) (hr : RdT w A n L) (hn : n ≤ 9223372036854775807) (hm : ∀ s ∈ L, s.length ≤ 9223372036854775807) (h : ¬ (n ≤ 40 ∧ ∀ s ∈ L, s.length ≤ 200)) :
    Calls Try.prog 28 #[.slice A n c] w fun e w' => e = .returned (.int .i64 1) ∧ w = w' := by
  by_cases h1 : n ≤ 40
  · refine over_long A n c L w hr h1 hm ?_
    apply Classical.byContradiction
    intro h2
    refine h ⟨h1, fun s hs => ?_⟩
    rcases Nat.lt_or_ge 200 s.length with h3 | h3
    · exact absurd ⟨s, hs, h3⟩ h2
    · exact h3
  · exact over_many A n c w (by omega) hn
theorem OwnT.empty_ {g base : Nat} (w : World) (h : w.heap.size = g) (hb : base ≤ g) : OwnT (w.alloc (.cells #[] 9)) base (some ⟨g, 0, none⟩) 0 0 [] := by
  subst h; exact ⟨rfl, OwnV.empty w base _ 1 hb⟩
/-- An operation whose guard holds is the operation without it. -/
theorem wpList_unguard {P : Program} {ops : Array Oper} {rest : List Oper} {a : Act} {Q : Exit → Act → World → Prop} {w : World} {o : Oper}
    (hw : Region.wanted o (yielded ops a.tmps) = true) (h : wpList P ops Q ({ o with guard := none } :: rest) a w) : wpList P ops Q (o :: rest) a w := by
  have hw' : Region.wanted { o with guard := none } (yielded ops a.tmps) = true := rfl
  simp only [wpList, hw, hw', if_true] at h ⊢
  exact h
/-- What two lists' rows come to, split. -/
theorem split_both (La Lb : List (List UInt8)) (ha : La.length ≤ 40 ∧ ∀ s ∈ La, s.length ≤ 200) (hb : Lb.length ≤ 40 ∧ ∀ s ∈ Lb, s.length ≤ 200) :
    Quill.split (Quill.rowsB La ++ Quill.rowsB Lb) = (La ++ Lb, 0) := by
  rw [← Quill.rowsB_append]
  refine Quill.split_rowsB _ (fun s hs => ?_) (by rw [List.length_append]; omega)
  rcases List.mem_append.1 hs with h | h
  · have := ha.2 s h; omega
  · have := hb.2 s h; omega
theorem split_both_cut (La Lb : List (List UInt8)) (ha : La.length ≤ 40 ∧ ∀ s ∈ La, s.length ≤ 200) (hb : Lb.length ≤ 40 ∧ ∀ s ∈ Lb, s.length ≤ 200) (hne : Quill.rowsB La ++ Quill.rowsB Lb ≠ []) :
    Quill.split ((Quill.rowsB La ++ Quill.rowsB Lb).take ((Quill.rowsB La ++ Quill.rowsB Lb).length - 1)) = ([], 3) := by
  rw [← Quill.rowsB_append] at hne ⊢
  have hs : ∀ s ∈ La ++ Lb, s.length ≤ 200 := fun s hs => by
    rcases List.mem_append.1 hs with h | h
    · exact ha.2 s h
    · exact hb.2 s h
  have hl : (La ++ Lb).length ≤ 80 := by rw [List.length_append]; omega
  rcases List.eq_nil_or_concat (La ++ Lb) with h | ⟨M, s, h⟩
  · rw [h] at hne; exact absurd rfl hne
  · rw [List.concat_eq_append] at h
    rw [h] at hs hl ⊢
    exact Quill.split_cut M s (fun q hq => by have := hs q (by simp [hq]); omega) (by have := hs s (by simp); omega) (by simp at hl; omega)

set_option maxRecDepth 100000 in
set_option maxHeartbeats 2000000 in
theorem quillRows_walk (T : Option Addr) (m d : Nat) (U : Option Addr) (k q : Nat) (w : World)
    (hs : SliceOk w [.str] T m ∧ m ≤ d ∧ d ≤ 9223372036854775807 ∧ (T = none → d = 0)) (ht : SliceOk w [.str] U k ∧ k ≤ q ∧ q ≤ 9223372036854775807 ∧ (U = none → q = 0)) :
    Calls Try.prog 7 #[.slice T m d, .slice U k q] w fun e w' => e = .returned (.bool true) ∧ Below w.heap.size w w' := by
  obtain ⟨La, hLa, hLas⟩ := RdT.of_slice hs.1
  obtain ⟨Lb, hLb, hLbs⟩ := RdT.of_slice ht.1
  have hm := hs.2
  have hk := ht.2
  have hla := hLa.1
  have hlb := hLb.1
  clear hs ht
  have HA := Lib.hid (And.intro hLa hLas); clear hLa hLas
  have HB := Lib.hid (And.intro hLb hLbs); clear hLb hLbs
  by_cases ha : m ≤ 40 ∧ ∀ s ∈ La, s.length ≤ 200
  · by_cases hb : k ≤ 40 ∧ ∀ s ∈ Lb, s.length ≤ 200
    · have hS : ∀ w, Calls Try.prog 23 #[.string (bs (Quill.rowsB La ++ Quill.rowsB Lb))] w (RetTE w.heap.size w (La ++ Lb, 0)) := fun w => by
        have h := ssplit (Quill.rowsB La ++ Quill.rowsB Lb) w (by
          have h1 := rowsB_bound La ha.2
          have h2 := rowsB_bound Lb hb.2
          rw [List.length_append]; omega)
        rwa [split_both La Lb ⟨by omega, ha.2⟩ ⟨by omega, hb.2⟩] at h
      have hC : Quill.rowsB La ++ Quill.rowsB Lb ≠ [] → ∀ w, Calls Try.prog 23 #[.string (bs ((Quill.rowsB La ++ Quill.rowsB Lb).take ((Quill.rowsB La ++ Quill.rowsB Lb).length - 1)))] w (RetTE w.heap.size w ([], 3)) := fun hne w => by
        have h := ssplit ((Quill.rowsB La ++ Quill.rowsB Lb).take ((Quill.rowsB La ++ Quill.rowsB Lb).length - 1)) w (by
          have h1 := rowsB_bound La ha.2
          have h2 := rowsB_bound Lb hb.2
          have h3 := List.length_take_le ((Quill.rowsB La ++ Quill.rowsB Lb).length - 1) (Quill.rowsB La ++ Quill.rowsB Lb)
          have h4 : (Quill.rowsB La ++ Quill.rowsB Lb).length = (Quill.rowsB La).length + (Quill.rowsB Lb).length := List.length_append
          omega)
        rwa [split_both_cut La Lb ⟨by omega, ha.2⟩ ⟨by omega, hb.2⟩ hne] at h
      have hxa : ∀ w, RdT w T m La → Calls Try.prog 30 #[.slice T m d] w (RetBE w.heap.size w (Quill.rowsB La) 0) := fun w hr => rows_few T m d La w hr ha.1 ha.2
      have hxb : ∀ w, RdT w U k Lb → Calls Try.prog 30 #[.slice U k q] w (RetBE w.heap.size w (Quill.rowsB Lb) 0) := fun w hr => rows_few U k q Lb w hr hb.1 hb.2
      have hl1 : (Quill.rowsB La).length ≤ 8080 := by
        have h1 := rowsB_bound La ha.2
        omega
      have hl2 : (Quill.rowsB Lb).length ≤ 8080 := by
        have h1 := rowsB_bound Lb hb.2
        omega
      have HO := Lib.hid (And.intro ha hb)
      have ha40 := ha.1
      have hb40 := hb.1
      clear ha hb
      generalize Quill.rowsB La = ra at *
      generalize Quill.rowsB Lb = rb at *
      have HC := Lib.hid (And.intro hS (And.intro hC (And.intro hxa hxb))); clear hS hC hxa hxb
      go_enter Try.func7, Try.ntmps7
      go_wp2_with fail
      refine (over_few _ _ _ La _ HA.out.1 HO.out.1.1 HO.out.1.2).mono ?_; rintro e w1 ⟨rfl, rfl⟩
      go_wp2_with fail
      refine (over_few _ _ _ Lb _ HB.out.1 HO.out.2.1 HO.out.2.2).mono ?_; rintro e w1 ⟨rfl, rfl⟩
      go_wp2_with fail
      refine (HC.out.2.2.1 _ HA.out.1).mono ?_; rintro e w1 ⟨A1, n1, k1, rfl, h1, hb1⟩
      have HK := Lib.hid (And.intro (HA.out.1.below hb1) (And.intro (HB.out.1.below hb1) (And.intro h1.rd hb1))); clear h1 hb1
      go_wp2_with fail
      refine (HC.out.2.2.2 _ HK.out.2.1).mono ?_; rintro e w2 ⟨A2, n2, k2, rfl, h2, hb2⟩
      have hc1 := run_str' (HK.out.2.2.1.below hb2) k1
      have hc2 := run_str' h2.rd k2
      have HK2 := Lib.hid (And.intro (HK.out.1.below hb2) (And.intro (HK.out.2.1.below hb2) (below_chain HK.out.2.2.2 hb2))); clear h2 hb2 HK
      go_wp2_with fail
      refine (HC.out.1 _).mono ?_; rintro e w3 ⟨A3, n3, k3, rfl, h3, hb3⟩
      obtain rfl : n3 = m + k := by have := h3.1; simp only [List.length_append] at this; omega
      have HK3 := Lib.hid (And.intro (HK2.out.1.below hb3) (And.intro (HK2.out.2.1.below hb3) (And.intro h3.rd (below_chain HK2.out.2.2 hb3)))); clear h3 hb3 HK2 hc1 hc2
      have HE := Lib.hid (OwnT.empty_ w3 rfl (Nat.le_refl w3.heap.size))
      go_wp2_with (at_builtin; refine wpList_unguard (by rfl) ?_; refine wpList_appT _ rfl _ _ rfl w3.heap.size rfl HE.out rfl (HK3.out.1.alloc _) (by omega) (by simp) ?_)
      intro A4 c4 w4 ho4 hg4
      have hg4' := grownT_below HE.out hg4 (by simp)
      have HO4 := Lib.hid (And.intro ho4.out (((Below.refl w3.heap.size w3).alloc (Nat.le_refl _) _).trans hg4')); clear ho4 hg4 hg4' HE
      go_wp2_with (at_builtin; refine wpList_unguard (by rfl) ?_; refine wpList_appT _ rfl _ _ rfl w3.heap.size rfl HO4.out.1 rfl (HK3.out.2.1.below HO4.out.2) (by omega) HO4.out.2.size ?_)
      intro A5 c5 w5 ho5 hg5
      have hb5 := HO4.out.2.trans (grownT_below HO4.out.1 hg5 HO4.out.2.size)
      have hr5 := ho5.out.rd
      rw [catT, catT, List.nil_append] at hr5
      have HK5 := Lib.hid (And.intro (HK3.out.2.2.1.below hb5) (And.intro hr5 (below_chain HK3.out.2.2.2 hb5))); clear ho5 hg5 hb5 hr5 HK3 HO4
      go_wp2_with fail
      refine (same_yes _ _ _ _ _ (La ++ Lb) _ HK5.out.1 HK5.out.2.1 (by omega)).mono ?_; rintro e w6 ⟨rfl, hb6⟩
      have HB6 := Lib.hid (below_chain HK5.out.2.2 hb6); clear HK5 hb6
      by_cases he : ra ++ rb = []
      · rw [he]
        go_wp2_with fail
        refine (qawake_any _).mono ?_; rintro e w7 ⟨rfl, hb7⟩
        go_wp2_with fail
        go_ret
        exact ⟨rfl, below_chain HB6.out hb7⟩
      · have hX := HC.out.2.1 he
        simp only [List.length_append] at hX
        have HX := Lib.hid hX; clear hX
        have hlen : 0 < ra.length + rb.length := by
          have : (ra ++ rb).length ≠ 0 := fun h => he (List.eq_nil_of_length_eq_zero h)
          rw [List.length_append] at this; omega
        have he2 : (ra ++ rb == []) = false := by simpa using he
        go_wp2_with fail
        refine (HX.out _).mono ?_; rintro e w7 ⟨A7, n7, k7, rfl, h7, hb7⟩
        obtain rfl : n7 = 0 := h7.1.symm
        have HB7 := Lib.hid (below_chain HB6.out hb7); clear HB6 hb7 h7
        go_wp2_with fail
        refine (qawake_any _).mono ?_; rintro e w8 ⟨rfl, hb8⟩
        go_wp2_with fail
        go_ret
        exact ⟨rfl, below_chain HB7.out hb8⟩
    · have HO := Lib.hid (And.intro ha hb); clear ha hb
      go_enter Try.func7, Try.ntmps7
      go_wp2_with fail
      refine (over_few _ _ _ La _ HA.out.1 HO.out.1.1 HO.out.1.2).mono ?_; rintro e w1 ⟨rfl, rfl⟩
      go_wp2_with fail
      refine (over_bad _ _ _ Lb _ HB.out.1 (by omega) HB.out.2 HO.out.2).mono ?_; rintro e w1 ⟨rfl, rfl⟩
      go_wp2_with fail
      refine (qawake_any _).mono ?_; rintro e w1 ⟨rfl, hb1⟩
      go_wp2_with fail
      go_ret
      exact ⟨rfl, hb1⟩
  · have HO := Lib.hid ha; clear ha
    go_enter Try.func7, Try.ntmps7
    go_wp2_with fail
    refine (over_bad _ _ _ La _ HA.out.1 (by omega) HA.out.2 HO.out).mono ?_; rintro e w1 ⟨rfl, rfl⟩
    go_wp2_with fail
    refine (qawake_any _).mono ?_; rintro e w1 ⟨rfl, hb1⟩
    go_wp2_with fail
    go_ret
    exact ⟨rfl, hb1⟩
end Go.Proofs.Ytfonmnodjmeigaa
