/- disk: the law that what is synced lasts; at the model. No conditions. -/
import Derived.Test.YtdjdcpbakeahcaaDisk17
namespace Go.Proofs.Ytdjdcpbakeahcaa.Av
open Go Go.RowKit Go.ChangeShapes Go.WideShapes
set_option linter.unusedVariables false
set_option linter.unusedSimpArgs false
set_option maxRecDepth 100000

/-- which sectors were written -/
def tlF (n : Nat) (l : List DOp) : List Bool := l.foldl (fun (tl : List Bool) (o : DOp) => if 0 ≤ o.n ∧ o.n < (n : Int) then tl.set o.n.toNat true else tl) (List.replicate n false)
theorem Wrote.mono {n : Nat} {a b : St} {i j : Nat} {tl : List Bool} (h : Wrote n a b i tl) (hij : i ≤ j) : Wrote n a b j tl :=
  ⟨⟨h.ok.k, h.ok.rw, h.ok.full, h.ok.q, Nat.le_trans h.ok.len hij, Nat.le_trans h.ok.w hij⟩, h.q, h.k, h.base, h.len, h.tl⟩
theorem wrote_ok (n : Nat) (a : St) (k : Nat) (ha : a.Ok n k) : ∀ l : List DOp, Wrote n a (wrote n a l) (k + l.length) (tlF n l) := by
  have key : ∀ (l : List DOp) (b : St) (i : Nat) (tl : List Bool), Wrote n a b i tl → Wrote n a (l.foldl (fun b o => stepD n b (wOp o)) b) (i + l.length) (l.foldl (fun (tl : List Bool) (o : DOp) => if 0 ≤ o.n ∧ o.n < (n : Int) then tl.set o.n.toNat true else tl) tl) := by
    intro l
    induction l with
    | nil => intro b i tl h; exact h
    | cons o l ih =>
      intro b i tl h
      rw [List.foldl_cons, List.foldl_cons, show i + (o :: l).length = i + 1 + l.length by simp; omega]
      refine ih _ _ _ ?_
      rw [wstep]
      by_cases hc : 0 ≤ o.n ∧ o.n < (n : Int)
      · rw [if_pos hc, if_pos hc]
        exact wrote1 h (by omega) (fullK_len _)
      · rw [if_neg hc, if_neg hc]
        exact h.up
  intro l
  exact key l _ _ _ (wrote0 ha)
theorem dlasts_ok (l more : List DOp) (s : Nat) (u : Nat) (t c : Int) (hs : s < 256) (hu : u < 18446744073709551616) (hl : l.length ≤ 9223372036854775807) (hm : more.length ≤ 9223372036854775807) (hp : ∀ o ∈ l, o.ok) :
    SP 5 [.vs l.length (dopC l), .vs more.length (dopC more), crA s u t c] (B true) := by
  by_cases ho : OkOver l 30 ∧ OkOver more 30
  · obtain ⟨h1, h2⟩ := ho
    have hl3 := h1.1
    have hm3 := h2.1
    obtain ⟨n, hn⟩ : ∃ n : Nat, (1 : Int) + (s : Int) % 20 = n := ⟨(1 + (s : Int) % 20).toNat, by omega⟩
    have cd := done_walk n l (fun i => runD n (l.take i)) (by omega) (by omega) (by omega) rfl (fun i h => runD_take h) (fun i h => by
      have := runD_ok n (l.take i)
      rw [List.length_take, Nat.min_eq_left h] at this; exact this) hp
    rw [List.take_length] at cd
    have ha := runD_ok n l
    generalize runD n l = a at *
    refine dlasts_walk l more s u t c n a.q (a.L n) (a.P n) a.w a.l a.k (fun i => wrote n a (more.take i)) (fun i => tlF n (more.take i)) hs hn hu hl3 hm3 ha.L_len (by rw [St.P_len]; have := ha.len; omega) (fun i hi => ⟨a, ?_, rfl⟩) ⟨rfl, rfl, ha.sync.q, rfl⟩ (fun i h => ?_) (over_no h1 (by decide)) (over_no h2 (by decide)) cd
    · refine (wrote_ok n a l.length ha (more.take i)).mono ?_
      rw [List.length_take]; omega
    · have e1 : wrote n a (more.take (i + 1)) = stepD n (wrote n a (more.take i)) (wOp more[i]) := by
        rw [List.take_succ_eq_append_getElem h]; unfold wrote; rw [List.foldl_append]; rfl
      have e2 : tlF n (more.take (i + 1)) = if 0 ≤ more[i].n ∧ more[i].n < (n : Int) then (tlF n (more.take i)).set more[i].n.toNat true else tlF n (more.take i) := by
        rw [List.take_succ_eq_append_getElem h]; unfold tlF; rw [List.foldl_append]; rfl
      show (0 ≤ more[i].n ∧ more[i].n < n ∧ wrote n a (more.take (i + 1)) = _ ∧ tlF n (more.take (i + 1)) = _) ∨ (_ ∧ wrote n a (more.take (i + 1)) = _ ∧ tlF n (more.take (i + 1)) = _)
      rw [e1, e2, wstep]
      by_cases hc : 0 ≤ more[i].n ∧ more[i].n < n
      · rw [if_pos hc, if_pos hc]
        exact .inl ⟨hc.1, hc.2, rfl, rfl⟩
      · rw [if_neg hc, if_neg hc]
        exact .inr ⟨by omega, rfl, rfl⟩
  · exact dlasts_over l more s u t c hs hl hm ho
theorem crash_of {cs : Array Value} (h : CellsOk [.int .u8, .int .u64, .int .i64, .int .i64] cs.toList) : ∃ (s u : Nat) (t c : Int), s < 256 ∧ u < 18446744073709551616 ∧ cs = #[.int .u8 s, .int .u64 u, .int .i64 t, .int .i64 c] := by
  obtain ⟨v, q0, e1, ⟨s, rfl, hs⟩, hq0⟩ := h.cons_
  obtain ⟨v, q1, rfl, ⟨u, rfl, hu⟩, hq1⟩ := hq0.cons_
  obtain ⟨v, q2, rfl, ⟨t, rfl, ht⟩, hq2⟩ := hq1.cons_
  obtain ⟨v, q3, rfl, ⟨c, rfl, hc⟩, hq3⟩ := hq2.cons_
  have := hq3.empty_
  subst this
  have b1 := bounds_u8 hs
  have b2 := bounds_u64 hu
  refine ⟨s.toNat, u.toNat, t, c, by omega, by omega, ?_⟩
  apply Array.ext'
  rw [e1, Int.toNat_of_nonneg b1.1, Int.toNat_of_nonneg b2.1]
theorem diskLasts_walk (rows : List (List Value)) (k : Nat) (F : Nat → Nat → Prop) (v : Value) (rows2 : List (List Value)) (k2 : Nat) (F2 : Nat → Nat → Prop) (v2 : Value) (cs : Array Value) (w : World) (hq : rows.length = k) (hz : k ≤ 9223372036854775807)
    (hok : ∀ r ∈ rows, CellsOk ckD r) (hlo : ∀ g j, F g j → g < w.heap.size) (hrep : ∀ F' : Nat → Nat → Prop, (∀ g j, F g j → F' g j) → Rep w p0 c0 F' noD (.vs k (rows.flatten.map .ex)) v)
    (hq2 : rows2.length = k2) (hz2 : k2 ≤ 9223372036854775807)
    (hok2 : ∀ r ∈ rows2, CellsOk ckD r) (hlo2 : ∀ g j, F2 g j → g < w.heap.size) (hrep2 : ∀ F' : Nat → Nat → Prop, (∀ g j, F2 g j → F' g j) → Rep w p0 c0 F' noD (.vs k2 (rows2.flatten.map .ex)) v2) (hc : CellsOk [.int .u8, .int .u64, .int .i64, .int .i64] cs.toList) :
    Calls Try.prog 5 #[v, v2, .agg cs] w fun e w' => e = .returned (.bool true) ∧ Below w.heap.size w w' := by
  obtain ⟨os, e1, e2, e3⟩ := rows_D hok
  obtain ⟨os2, d1, d2, d3⟩ := rows_D hok2
  obtain ⟨s, u, t, c, h1, h2, rfl⟩ := crash_of hc
  have hr := hrep (fun g j => F g j ∨ F2 g j) fun _ _ h => .inl h
  have hr2 := hrep2 (fun g j => F g j ∨ F2 g j) fun _ _ h => .inr h
  rw [e2, ← hq, ← e1] at hr
  rw [d2, ← hq2, ← d1] at hr2
  refine calls_at (avs := [.vs os.length (dopC os), .vs os2.length (dopC os2), crA s u t c]) (dlasts_ok os os2 s u t c h1 h2 (by omega) (by omega) e3) w (fun g j => F g j ∨ F2 g j) (fun g j h => h.elim (hlo g j) (hlo2 g j)) _ rfl fun j hj => ?_
  match j, hj with
  | 0, _ => exact hr
  | 1, _ => exact hr2
  | 2, _ => exact .ex _ _
end Go.Proofs.Ytdjdcpbakeahcaa.Av
