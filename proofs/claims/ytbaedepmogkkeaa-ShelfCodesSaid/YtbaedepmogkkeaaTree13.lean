/- tree: what Under hands back, ranged over: Told, Same. No conditions but that sizes stay far below what memory holds. -/
import Derived.Test.YtbaedepmogkkeaaTree8
import Derived.Test.YtbaedepmogkkeaaTree12
namespace Go.Proofs.Ytbaedepmogkkeaa.Av
open Go Go.RowKit Tre
set_option linter.unusedVariables false
set_option linter.unusedSimpArgs false
set_option maxRecDepth 100000
set_option maxHeartbeats 1000000

theorem under_ok (t : Tr) (p : Key) : SP 27 [trA t, T p] (.clo 57 [.vp [ndA t] 0, .vp [T p] 0]) := by
  refine S_ Try.func27 (by kernel_rfl) rfl (Nat.le_of_ble_eq_true rfl) ?_
  show avc Try.prog SP _ _ _ _ _ _
  dsimp only [avc, startS, Array.toList, Try.f27]
  exact Av.W
theorem takeWhile_at {α : Type} (f : α → Bool) : ∀ (l : List α), (∀ k (h : k < (l.takeWhile f).length), l[k]? = some (l.takeWhile f)[k] ∧ f (l.takeWhile f)[k] = true) ∧
    (l[(l.takeWhile f).length]? = none ∨ ∃ x, l[(l.takeWhile f).length]? = some x ∧ f x = false)
  | [] => ⟨fun k h => by simp at h, .inl rfl⟩
  | a :: l => by
    obtain ⟨h1, h2⟩ := takeWhile_at f l
    cases hf : f a with
    | true =>
      rw [show (a :: l).takeWhile f = a :: l.takeWhile f by simp [List.takeWhile_cons, hf]]
      refine ⟨fun k h => ?_, by simpa using h2⟩
      cases k with
      | zero => exact ⟨rfl, hf⟩
      | succ k => simpa using h1 k (by simpa using h)
    | false =>
      rw [show (a :: l).takeWhile f = [] by simp [List.takeWhile_cons, hf]]
      exact ⟨fun k h => by simp at h, .inr ⟨a, rfl, hf⟩⟩
theorem seq_ok (t : Tr) (p : Key) (hs : Srt t.toL) (hn : t.toL.length ≤ 100000000) (hk : ∀ x ∈ t.toL, x.1.length ≤ 1000000000) (hp : p.length ≤ 1000000000) :
    SeqSound Try.prog 57 [.vp [ndA t] 0, .vp [T p] 0] encP (underL p t.toL) := by
  have hc : t.cn ≤ 1000000000 := by rw [Tr.cn_len]; omega
  have hu := under_run (p := p) hs
  have hrl : rankL p t.toL ≤ t.toL.length := List.length_filter_le _ _
  have hul : (underL p t.toL).length ≤ t.toL.length := List.length_filter_le _ _
  obtain ⟨h1, h2⟩ := takeWhile_at (fun q => begins p q.1) (t.toL.drop (rankL p t.toL))
  rw [← hu] at h1 h2
  have at1 : ∀ k : Nat, Tr.at_ t ((rankL p t.toL : Int) + k) = (t.toL.drop (rankL p t.toL))[k]? := fun k => by
    rw [Tr.at_toL t _ (by omega), List.getElem?_drop]
    congr 1
  have mem : ∀ (k : Nat) (x : Pr), (t.toL.drop (rankL p t.toL))[k]? = some x → x ∈ t.toL := fun k x h => List.mem_of_mem_drop (List.mem_of_getElem? h)
  refine under1_ok t p _ (rankL p t.toL : Int) (by omega) (by omega) (rank_ok t p hc _ (Tr.rank_toL hs)) (fun k hk1 => ?_) (fun k hk1 => ?_) ?_
  · exact at_pos t _ (by omega) hc (by omega) (some _) ((at1 k).trans (h1 k hk1).1)
  · have := prefix_ok ((underL p t.toL)[k]).1 p (by have := hk _ (mem k _ (h1 k hk1).1); omega) (by omega)
    rwa [(h1 k hk1).2] at this
  · rcases h2 with h2 | ⟨x, h2, h3⟩
    · exact .inl (at_pos t _ (by omega) hc (by omega) none ((at1 _).trans h2))
    · refine .inr ⟨x, at_pos t _ (by omega) hc (by omega) (some x) ((at1 _).trans h2), ?_⟩
      have := prefix_ok x.1 p (by have := hk _ (mem _ _ h2); omega) (by omega)
      rwa [h3] at this
/-- the rows so far -/
def outB (l : List Pr) : List ABlk := match l with
  | [] => [⟨[.ex (.slice none 0 0)], none, false, true⟩]
  | a :: r => [⟨[.sl 2 (a :: r).length], none, false, false⟩, rowP (prC (a :: r))]
def TInv (most : Int) (pre : List Pr) (vs : List AV) (bl : List ABlk) : Prop := ((pre.length : Int) ≤ most ∨ pre = []) ∧ (vs = [.ptr 0 0, .ptr 1 0] ∧ bl = ⟨[Z most], none, false, true⟩ :: outB pre)
theorem told_walk (t : Tr) (p : Key) (most : Int) (L : List Pr) (hL : L.length ≤ 1000000) (cu : SP 27 [trA t, T p] (.clo 57 [.vp [ndA t] 0, .vp [T p] 0]))
    (cq : SeqSound Try.prog 57 [.vp [ndA t] 0, .vp [T p] 0] encP L) (n : Nat) (cs : List AV) (hR : (L.take most.toNat).length = n ∧ prC (L.take most.toNat) = cs) :
    SP 39 [trA t, T p, Z most] (.vs n cs) := by
  have stop : ∀ {pre : List Pr} {x : Pr}, ((pre.length : Int) ≤ most ∨ pre = []) → most ≤ (pre.length : Int) → pre ++ [x] <+: L → pre.length = n ∧ prC pre = cs := by
    intro pre x h1 h2 h3
    have e : most.toNat = pre.length := by
      rcases h1 with h1 | h1
      · omega
      · subst h1; simp only [List.length_nil] at h2 ⊢; omega
    have h4 : L.take most.toNat = pre := by
      rw [e]
      obtain ⟨z, hz⟩ := h3
      rw [← hz]; simp
    rw [← h4]; exact hR
  have done : ((L.length : Int) ≤ most ∨ L = []) → L.length = n ∧ prC L = cs := by
    intro h1
    have h4 : L.take most.toNat = L := by
      rcases h1 with h1 | h1
      · exact List.take_of_length_le (by omega)
      · subst h1; simp
    rw [h4] at hR; exact hR
  clear hR
  refine S_ Try.func39 (by kernel_rfl) rfl (Nat.le_of_ble_eq_true rfl) ?_
  show avc Try.prog SP _ _ _ _ _ _
  dsimp only [avc, startS, Array.toList, Try.f39]
  refine Av.Wk ?_
  refine ⟨Pr, encP, L, _, _, [5, 7], [], 9, [9, 10], TInv most, rfl, cq, fun x => rfl, rfl, rfl, rfl, rfl, rfl, rfl, ?_, ?_, ?_⟩
  · exact ⟨.inr rfl, rfl, rfl⟩
  · intro x hx
    refine Av.Wk ?_
    rintro pre vs bs hpre hlt ⟨hm, rfl, rfl⟩
    have hp1 := stop (x := x) hm
    clear hx hpre
    cases pre with
    | nil =>
      have fin : (0 : Int) < most → TInv most ([] ++ [x]) [.ptr 0 0, .ptr 1 0] [⟨[Z most], none, false, true⟩, ⟨[.sl 2 1], none, false, false⟩, rowP [T x.1, T x.2]] := fun h => ⟨.inl (by simp only [List.nil_append, List.length_cons, List.length_nil]; omega), rfl, rfl⟩
      have hp2 : most ≤ 0 → [] ++ [x] <+: L → 0 = n ∧ [] = cs := fun h => hp1 (by simpa using h)
      clear hp1
      repeat' ((try conv => whnf) <;> first | refine Av.hm_ ?_ | refine Av.w1 ?_ | refine Av.w2 ?_ | refine Av.w3 ?_ | refine Av.w4 ?_ | refine Av.nle rfl ?_ | refine Av.q1 ?_ | refine Av.q2 ?_ | refine Av.q3 ?_ | refine Av.q4 ?_ | refine Av.inr_ (by omega) (by omega) ?_ | (refine ⟨false, ?_⟩) | (refine And.intro ⟨room_p (by omega), pre2 _ _⟩ ?_) | exact True.intro | refine Av.eqt_ (by kernel_rfl) ?_ | refine ⟨rfl, ?_⟩ | refine ⟨⟨Nat.le_of_ble_eq_true rfl, rfl⟩, ?_⟩ | refine ⟨⟨rfl, rfl⟩, ?_⟩ | refine ⟨⟨rfl, rfl, rfl⟩, ?_⟩ | exact ⟨rfl, rfl, rfl⟩ | exact ⟨rfl, rfl⟩ | ((first | refine br_lt ?_ ?_ | refine br_lt_ ?_ ?_ | refine br_le ?_ ?_ | refine br_le_ ?_ ?_ | refine br_eq ?_ ?_ | refine br_eq_ ?_ ?_ | refine br_seq ?_ ?_ | refine br_seq_ ?_ ?_) <;> intro hBr <;> first | (exfalso; omega) | (exfalso; contradiction) | (exfalso; exact hBr rfl) | skip) | refine br_not ?_ | refine br_not_ ?_ | refine br_and ?_ | refine br_and_ ?_ | refine Av.asm_ (by omega) ?_ | refine ⟨_, wrap_i64 (by omega), ?_⟩ | refine ⟨_, wrap_u64 (by omega) (by omega), ?_⟩ | refine ⟨_, wrap_u8 (by omega) (by omega), ?_⟩ | refine ⟨_, wrap_u32 (by omega) (by omega), ?_⟩ | refine ⟨_, wrap_u16 (by omega) (by omega), ?_⟩ | refine ⟨_, rfl, ?_⟩ | exact rfl)
      · conv => whnf
        intro hpp
        obtain ⟨rfl, rfl⟩ := hp2 hBr hpp
        exact Av.W
      · exact fin (by omega)
    | cons a r =>
      obtain ⟨m, hmd⟩ : ∃ m, m = (a :: r).length := ⟨_, rfl⟩
      obtain ⟨D, hD⟩ : ∃ D, D = prC (a :: r) := ⟨_, rfl⟩
      have hDl : D.length = m * sizeT Try.prog 73 := by rw [hD, prC_len, hmd, hsP]
      have e0 : outB (a :: r) = [⟨[.sl 2 m], none, false, false⟩, rowP D] := by rw [hmd, hD]; rfl
      have e1 : outB ((a :: r) ++ [x]) = [⟨[.sl 2 (m + 1)], none, false, false⟩, rowP (D ++ [T x.1, T x.2])] := by
        have h1 : prC (a :: (r ++ [x])) = D ++ [T x.1, T x.2] := by rw [hD]; exact prC_app (a :: r) [x]
        have h2 : (a :: (r ++ [x])).length = m + 1 := by rw [hmd]; simp
        show ([⟨[.sl 2 (a :: (r ++ [x])).length], none, false, false⟩, rowP (prC (a :: (r ++ [x])))] : List ABlk) = _
        rw [h1, h2]
      have fin : (m : Int) < most → TInv most ((a :: r) ++ [x]) [.ptr 0 0, .ptr 1 0] [⟨[Z most], none, false, true⟩, ⟨[.sl 2 (m + 1)], none, false, false⟩, rowP (D ++ [T x.1, T x.2])] := fun h => ⟨.inl (by rw [hmd] at h; simp only [List.length_append, List.length_cons, List.length_nil] at h ⊢; omega), rfl, by rw [e1]⟩
      rw [e0]
      rw [← hmd, ← hD] at hp1
      have hml : m < L.length := by rw [hmd]; exact hlt
      clear e0 e1 stop done hm hlt hmd hD
      repeat' ((try conv => whnf) <;> first | refine Av.hm_ ?_ | refine Av.w1 ?_ | refine Av.w2 ?_ | refine Av.w3 ?_ | refine Av.w4 ?_ | refine Av.nle rfl ?_ | refine Av.q1 ?_ | refine Av.q2 ?_ | refine Av.q3 ?_ | refine Av.q4 ?_ | refine Av.inr_ (by omega) (by omega) ?_ | (refine ⟨false, ?_⟩) | (refine And.intro ⟨room_p (by omega), hDl, pre2 _ _⟩ ?_) | exact True.intro | refine Av.eqt_ (by kernel_rfl) ?_ | refine ⟨rfl, ?_⟩ | refine ⟨⟨Nat.le_of_ble_eq_true rfl, rfl⟩, ?_⟩ | refine ⟨⟨rfl, rfl⟩, ?_⟩ | refine ⟨⟨rfl, rfl, rfl⟩, ?_⟩ | exact ⟨rfl, rfl, rfl⟩ | exact ⟨rfl, rfl⟩ | ((first | refine br_lt ?_ ?_ | refine br_lt_ ?_ ?_ | refine br_le ?_ ?_ | refine br_le_ ?_ ?_ | refine br_eq ?_ ?_ | refine br_eq_ ?_ ?_ | refine br_seq ?_ ?_ | refine br_seq_ ?_ ?_) <;> intro hBr <;> first | (exfalso; omega) | (exfalso; contradiction) | (exfalso; exact hBr rfl) | skip) | refine br_not ?_ | refine br_not_ ?_ | refine br_and ?_ | refine br_and_ ?_ | refine Av.asm_ (by omega) ?_ | refine ⟨_, wrap_i64 (by omega), ?_⟩ | refine ⟨_, wrap_u64 (by omega) (by omega), ?_⟩ | refine ⟨_, wrap_u8 (by omega) (by omega), ?_⟩ | refine ⟨_, wrap_u32 (by omega) (by omega), ?_⟩ | refine ⟨_, wrap_u16 (by omega) (by omega), ?_⟩ | refine ⟨_, rfl, ?_⟩ | exact rfl)
      · conv => whnf
        intro hpp
        obtain ⟨rfl, rfl⟩ := hp1 hBr hpp
        exact Av.W
      · exact fin (by omega)
  · rintro vs bs ⟨hm, rfl, rfl⟩
    obtain ⟨rfl, rfl⟩ := done hm
    cases L with
    | nil =>
      exact Av.W
    | cons a r =>
      exact Av.W
theorem told_ok (t : Tr) (p : Key) (most : Int) (hs : Srt t.toL) (hn : t.toL.length ≤ 1000000) (hk : ∀ x ∈ t.toL, x.1.length ≤ 1000000000) (hp : p.length ≤ 1000000000) :
    SP 39 [trA t, T p, Z most] (.vs ((underL p t.toL).take most.toNat).length (prC ((underL p t.toL).take most.toNat))) :=
  told_walk t p most _ (Nat.le_trans (List.length_filter_le _ _) hn) (under_ok t p) (seq_ok t p hs (by omega) hk hp) _ _ ⟨rfl, rfl⟩
/-- the state between two rounds of Same -/
def SInv (a b : Tr) (g : Key → Option Key) (pre : List Pr) (vs : List AV) (bl : List ABlk) : Prop := (∀ x ∈ pre, g x.1 = some x.2) ∧ (vs = [.ptr 0 0, .ptr 1 0] ∧ bl = [⟨[ndA b], none, false, true⟩, ⟨[B false], none, false, true⟩])
theorem same_walk (a b : Tr) (L : List Pr) (r : Bool) (g : Key → Option Key) (hl : a.cn ≠ b.cn ∨ a.wt ≠ b.wt → r = false) (hL : a.cn = b.cn → a.wt = b.wt → ((∀ x ∈ L, g x.1 = some x.2) → r = true) ∧ (∀ x ∈ L, g x.1 ≠ some x.2 → r = false))
    (l1 : SP 25 [trA a] (Z a.cn)) (l2 : SP 25 [trA b] (Z b.cn)) (b1 : SP 36 [trA a] (Z a.wt)) (b2 : SP 36 [trA b] (Z b.wt))
    (cg : ∀ k, SP 40 [trA b, T k] (optR (g k))) (cu : SP 27 [trA a, T []] (.clo 57 [.vp [ndA a] 0, .vp [T []] 0]))
    (cq : SeqSound Try.prog 57 [.vp [ndA a] 0, .vp [T []] 0] encP L) : SP 16 [trA a, trA b] (B r) := by
  by_cases h1 : a.cn = b.cn
  case neg =>
    obtain rfl : r = false := hl (.inl h1)
    clear hl hL cg cq
    refine S_ Try.func16 (by kernel_rfl) rfl (Nat.le_of_ble_eq_true rfl) ?_
    show avc Try.prog SP _ _ _ _ _ _
    dsimp only [avc, startS, Array.toList, Try.f16]
    have hW0 : Av.Mk 12 [0,1,0,7,15,31,63,127,63,511,1023,2047] := ⟨⟩
    exact Av.W
  by_cases h2 : a.wt = b.wt
  case neg =>
    obtain rfl : r = false := hl (.inr h2)
    clear hl hL cg cq
    refine S_ Try.func16 (by kernel_rfl) rfl (Nat.le_of_ble_eq_true rfl) ?_
    show avc Try.prog SP _ _ _ _ _ _
    dsimp only [avc, startS, Array.toList, Try.f16]
    have hW1 : Av.Mk 12 [0,1,0,7,15,31,63,127,63,511,1023,2047] := ⟨⟩
    exact Av.W
  obtain ⟨hy, hno⟩ := hL h1 h2
  clear hL hl
  refine S_ Try.func16 (by kernel_rfl) rfl (Nat.le_of_ble_eq_true rfl) ?_
  show avc Try.prog SP _ _ _ _ _ _
  dsimp only [avc, startS, Array.toList, Try.f16]
  have hW2 : Av.Mk 12 [0,1,0,7,15,31,63,127,63,511,1023,2047] := ⟨⟩
  refine Av.Wk ?_
  refine ⟨Pr, encP, L, _, _, [3, 4], [], 5, [5, 6], SInv a b g, rfl, cq, fun x => rfl, rfl, rfl, rfl, rfl, rfl, rfl, ?_, ?_, ?_⟩
  · exact ⟨(fun x h => by cases h), rfl, rfl⟩
  · intro x hx
    have hW3 : Av.Mk 12 [0,1,0,7,15,31,63,127,63,511,1023,2047] := ⟨⟩
    refine Av.Wk ?_
    rintro pre vs bs hpre hlt ⟨hm, rfl, rfl⟩
    have cx := cg x.1
    have hn := hno x hx
    clear hno hpre hlt cg
    cases hg : g x.1 with
    | none =>
      rw [hg] at cx hn
      obtain rfl : r = false := hn (by simp)
      clear hy hn
      have hW4 : Av.Mk 12 [0,1,0,7,15,31,63,127,63,511,1023,2047] := ⟨⟩
      refine Av.Wk ?_
      conv => whnf
      intro hpp
      have hW5 : Av.Mk 12 [0,1,0,7,15,31,63,127,63,511,1023,2047] := ⟨⟩
      exact Av.W
    | some v =>
      rw [hg] at cx hn
      have hb : (!((bs v).toList == (bs x.2).toList)) = (v != x.2) := by rw [bsl_, bsl_]; rfl
      by_cases hv : v = x.2
      · have fin : SInv a b g (pre ++ [x]) [.ptr 0 0, .ptr 1 0] [⟨[ndA b], none, false, true⟩, ⟨[B false], none, false, true⟩] := ⟨fun y hy => by
          rcases List.mem_append.1 hy with hy | hy
          · exact hm y hy
          · obtain rfl : y = x := by simpa using hy
            rw [hg, hv], rfl, rfl⟩
        rw [show (v != x.2) = false by simp [hv]] at hb
        clear hy hn hm
        have hW6 : Av.Mk 12 [0,1,0,7,15,31,63,127,63,511,1023,2047] := ⟨⟩
        exact Av.W
      · obtain rfl : r = false := hn (by simpa using hv)
        rw [show (v != x.2) = true by simp [hv]] at hb
        clear hy hn hm
        have hW7 : Av.Mk 12 [0,1,0,7,15,31,63,127,63,511,1023,2047] := ⟨⟩
        refine Av.Wk ?_
        conv => whnf
        intro hpp
        have hW8 : Av.Mk 12 [0,1,0,7,15,31,63,127,63,511,1023,2047] := ⟨⟩
        exact Av.W
  · rintro vs bs ⟨hm, rfl, rfl⟩
    obtain rfl : r = true := hy hm
    clear hm hno hy cg
    have hW9 : Av.Mk 12 [0,1,0,7,15,31,63,127,63,511,1023,2047] := ⟨⟩
    exact Av.W
end Go.Proofs.Ytbaedepmogkkeaa.Av
