/- tree: the reference's lists of pairs: told, counted, compared, put, walked. No conditions but that sizes stay far below what memory holds. -/
import Derived.Test.YtbaedepmogkkeaaGreatTree8
namespace Go.Proofs.YtbaedepmogkkeaaGreat.Av
set_option maxHeartbeats 1000000
open Go Go.RowKit Tre
set_option linter.unusedVariables false
set_option linter.unusedSimpArgs false
set_option maxRecDepth 100000

theorem eqT_ (a b : Key) : ((bs a).toList == (bs b).toList) = decide (a = b) := by
  rw [bsl_, bsl_]
  by_cases h : a = b
  · subst h; simp
  · simp [h]
theorem mu_I {n : Nat} {i : Nat} (h : i < n) (x y : List AV) (b c : List ABlk) : muI n (Z ((i : Int) + 1) :: x) b < muI n (Z i :: y) c := by
  show n - ((i : Int) + 1).toNat < n - (i : Int).toNat; omega
theorem getL_drop (l : List Pr) (k : Key) {i : Nat} (h : i < l.length) : getL k (l.drop i) = if (l[i]).1 = k then some (l[i]).2 else getL k (l.drop (i + 1)) := by
  rw [List.drop_eq_getElem_cons h]; rfl
theorem bytesL_step (l : List Pr) {i : Nat} (h : i < l.length) : bytesL (l.take (i + 1)) = bytesL (l.take i) + (4 + (l[i]).1.length + (l[i]).2.length) := by
  rw [List.take_add_one, List.getElem?_eq_getElem h, bytesL_app]
  rfl
theorem bytesL_take (l : List Pr) (i : Nat) : bytesL (l.take i) ≤ bytesL l := by
  have := bytesL_app (l.take i) (l.drop i)
  rw [List.take_append_drop] at this
  omega
theorem pbytes_ok (l : List Pr) (hl : l.length ≤ 1000000) (hb : bytesL l ≤ 1000000000000) (res : Nat) (hres : bytesL l = res) : SP 79 [.vs l.length (prC l)] (Z res) := by
  refine S_ Tryz.func79 (by kernel_rfl) rfl (Nat.le_of_ble_eq_true rfl) ?_
  show avc Tryz.prog SP _ _ _ _ _ _
  dsimp only [avc, startS, Array.toList, Tryz.f79]
  have hW0 : Av.Mk 17 [0,1,0,0,12,28,60,124,255,0,0,1536,3584,7680,15872,32767,65535] := ⟨⟩
  refine Av.Wk ?_
  refine ⟨[4, 3, 0], [], fun vs bl => ∃ i m : Nat, i ≤ l.length ∧ m = bytesL (l.take i) ∧ (vs = [Z i, Z m, .vs l.length (prC l)] ∧ bl = []), muI l.length, ?_, ?_⟩
  · exact ⟨0, 0, by omega, by simp [bytesL], rfl, rfl⟩
  rintro vs bl ⟨i, m, hi, hm, rfl, rfl⟩
  by_cases hlt : i < l.length
  · have h1 := prK hlt
    have h2 := prV hlt
    have hdec := mu_I hlt
    have hs := bytesL_step l hlt
    have ht := bytesL_take l (i + 1)
    rw [← hm] at hs
    have z1 := bs_size (l[i]).1
    have z2 := bs_size (l[i]).2
    clear hres hm
    have hW1 : Av.Mk 17 [0,1,0,0,12,28,60,124,255,0,0,1536,3584,7680,15872,32767,65535] := ⟨⟩
    refine Av.Wk ?_
    refine ⟨⟨i + 1, bytesL (l.take (i + 1)), by omega, rfl, ?_, rfl⟩, hdec _ _ _ _⟩
    rw [hs]
    congr 2
    show AV.ex (.int .i64 _) = AV.ex (.int .i64 _)
    congr 2
    rw [z1, z2]
    simp only [Int.natCast_add]
    omega
  · obtain rfl : i = l.length := by omega
    rw [List.take_length] at hm
    have : res = m := by rw [← hres, hm]
    subst this
    clear hres hm
    have hW2 : Av.Mk 17 [0,1,0,0,12,28,60,124,255,0,0,1536,3584,7680,15872,32767,65535] := ⟨⟩
    exact Av.W
abbrev neP (a b : Pr) : Bool := !(((bs a.1).toList == (bs b.1).toList) && (((bs a.2).toList == (bs b.2).toList) && true))
theorem neP_eq (a b : Pr) : neP a b = !decide (a = b) := by
  show (!(_ && (_ && true))) = _
  rw [eqT_, eqT_, Bool.and_true]
  congr 1
  rw [← Bool.decide_and]
  apply decide_eq_decide.mpr
  constructor
  · rintro ⟨h1, h2⟩; exact Prod.ext h1 h2
  · rintro rfl; exact ⟨rfl, rfl⟩
theorem psame_eq (a : List Pr) (ha : a.length ≤ 1000000) : SP 80 [.vs a.length (prC a), .vs a.length (prC a)] (B true) := by
  refine S_ Tryz.func80 (by kernel_rfl) rfl (Nat.le_of_ble_eq_true rfl) ?_
  show avc Tryz.prog SP _ _ _ _ _ _
  dsimp only [avc, startS, Array.toList, Tryz.f80]
  have hW3 : Av.Mk 9 [0,0,3,7,0,0,48,112,255] := ⟨⟩
  refine Av.Wk ?_
  refine ⟨[5, 0, 1], [], fun vs bl => ∃ i : Nat, i ≤ a.length ∧ (vs = [Z i, .vs a.length (prC a), .vs a.length (prC a)] ∧ bl = []), muI a.length, ?_, ?_⟩
  · exact ⟨0, by omega, rfl, rfl⟩
  rintro vs bl ⟨i, hi, rfl, rfl⟩
  by_cases hlt : i < a.length
  · have h1 := prW hlt
    have hdec := mu_I hlt
    have hb := neP_eq a[i] a[i]
    rw [decide_eq_true rfl] at hb
    have hW4 : Av.Mk 9 [0,0,3,7,0,0,48,112,255] := ⟨⟩
    refine Av.Wk ?_
    exact ⟨⟨i + 1, by omega, rfl, rfl⟩, hdec _ _ _ _⟩
  · obtain rfl : i = a.length := by omega
    have hW5 : Av.Mk 9 [0,0,3,7,0,0,48,112,255] := ⟨⟩
    exact Av.W
theorem psame_ne (a b : List Pr) (ha : a.length ≤ 1000000) (hb : b.length ≤ 1000000) (h : a ≠ b) : SP 80 [.vs a.length (prC a), .vs b.length (prC b)] (B false) := by
  by_cases hl : (a.length : Int) = b.length
  · have hl' : a.length = b.length := by omega
    have hex : ∃ k, ∃ h1 : k < a.length, ∃ h2 : k < b.length, a[k] ≠ b[k] ∧ ∀ j (h1 : j < a.length) (h2 : j < b.length), j < k → a[j] = b[j] := by
      apply Classical.byContradiction
      intro hc
      apply h
      apply List.ext_getElem hl'
      intro i h1 h2
      induction i using Nat.strongRecOn with
      | ind i ih =>
        apply Classical.byContradiction
        intro hne
        exact hc ⟨i, h1, h2, hne, fun j g1 g2 hj => ih j hj g1 g2⟩
    obtain ⟨k, k1, k2, hk, hall⟩ := hex
    refine S_ Tryz.func80 (by kernel_rfl) rfl (Nat.le_of_ble_eq_true rfl) ?_
    show avc Tryz.prog SP _ _ _ _ _ _
    dsimp only [avc, startS, Array.toList, Tryz.f80]
    have hW6 : Av.Mk 9 [0,0,3,7,0,0,48,112,255] := ⟨⟩
    refine Av.Wk ?_
    refine ⟨[5, 0, 1], [], fun vs bl => ∃ i : Nat, i ≤ k ∧ (vs = [Z i, .vs a.length (prC a), .vs b.length (prC b)] ∧ bl = []), muI a.length, ?_, ?_⟩
    · exact ⟨0, by omega, rfl, rfl⟩
    rintro vs bl ⟨i, hi, rfl, rfl⟩
    have hlt : i < a.length := by omega
    have hlt2 : i < b.length := by omega
    have h1 := prW hlt
    have h2 := prW hlt2
    have hdec := mu_I hlt
    have hbb := neP_eq a[i] b[i]
    by_cases hik : i < k
    · rw [decide_eq_true (hall i hlt hlt2 hik)] at hbb
      clear hall h
      have hW7 : Av.Mk 9 [0,0,3,7,0,0,48,112,255] := ⟨⟩
      refine Av.Wk ?_
      exact ⟨⟨i + 1, by omega, rfl, rfl⟩, hdec _ _ _ _⟩
    · obtain rfl : i = k := by omega
      rw [decide_eq_false hk] at hbb
      clear hall h
      have hW8 : Av.Mk 9 [0,0,3,7,0,0,48,112,255] := ⟨⟩
      exact Av.W
  · refine S_ Tryz.func80 (by kernel_rfl) rfl (Nat.le_of_ble_eq_true rfl) ?_ -- G
    have hW9 : Av.Mk 9 [0,0,3,7,0,0,48,112,255] := ⟨⟩
    exact Av.W
theorem psame_ok (a b : List Pr) (ha : a.length ≤ 1000000) (hb : b.length ≤ 1000000) : SP 80 [.vs a.length (prC a), .vs b.length (prC b)] (B (decide (a = b))) := by
  by_cases h : a = b
  · subst h; rw [decide_eq_true rfl]; exact psame_eq a ha
  · rw [decide_eq_false h]; exact psame_ne a b ha hb h
end Go.Proofs.YtbaedepmogkkeaaGreat.Av
