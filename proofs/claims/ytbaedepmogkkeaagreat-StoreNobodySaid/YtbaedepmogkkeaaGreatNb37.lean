/- What the claim stands on, Nb37: contracts of functions and plain facts. No conditions. -/
import Derived.Test.YtbaedepmogkkeaaGreatNb36
import Derived.Test.YtbaedepmogkkeaaGreatNb35
import Derived.Test.YtbaedepmogkkeaaGreatNb20
import Derived.Test.YtbaedepmogkkeaaGreatNb21
import Derived.Test.YtbaedepmogkkeaaGreatNb22
namespace Go.Proofs.YtbaedepmogkkeaaGreat.Av
open Go Go.RowKit Tre
set_option linter.unusedVariables false
set_option linter.unusedSimpArgs false
set_option maxRecDepth 100000
set_option maxHeartbeats 1000000
theorem zK_clean (g : Nat) : CleanS g zK := by
 refine ⟨zK_len, 0, ?_, ?_, .inl rfl⟩
 ·show Quill.tell ((List.replicate 64 (0 : UInt8)).take 8) = 0
  rw [List.take_replicate]; exact tell_zeros _
 ·show Quill.tell ((List.replicate 64 (0 : UInt8)).drop 56) = 0
  rw [List.drop_replicate]; exact tell_zeros _
theorem fitL0 {A : Nat} (h1 : 1 ≤ A) (h2 : A ≤ 512) : FitL A [] := (fit0 h1 h2).list
theorem npc0 : npc enc0 = 1 := by
 have hb : enc0.length = 4 := by rw [Shf.encB_len]; rfl
 unfold npc; rw [hb]
theorem newL_get {n j : Nat} (h : j < n) : (newL n)[j]? = some zK := by unfold newL; simp [h]
def fmtL (A Lg : Nat) : List Key := ((newL (2 + 2 * A + Lg)).set 2 (Av.sec (mkG 1 0) (pc enc0 0))).set 1 (rootB [] 1 0)
theorem fmt_run {A Lg : Nat} (h : OkSh A Lg) : Dk.run ⟨.nil, newL (2 + 2 * A + Lg), [], 0⟩ (fmtD A) = ⟨.nil, fmtL A Lg, [], 2⟩ ∧ DdOk (2 + 2 * A + Lg) (fmtD A) ∧ RunI A Lg (fmtL A Lg) 1 0 [] [] [] 0 := by
 have hs := h.lg
 have hN : (newL (2 + 2 * A + Lg)).length = 2 + 2 * A + Lg := newL_len _
 have hF0 : areaA A 0 = 2 := by unfold areaA; omega
 have hF2 : areaA A 2 = 2 + 2 * A := rfl
 have hsl : (Av.sec (mkG 1 0) (pc enc0 0)).length = 64 := sec_len _ _ (pc48 _ _)
 have e : fmtD A = ([⟨false, 2, Av.sec (mkG 1 0) (pc enc0 0)⟩] ++ [⟨true, 0, []⟩]) ++ ([⟨false, 1, rootB [] 1 0⟩] ++ [⟨true, 0, []⟩]) := by
  show shD A 0 1 enc0 (npc enc0) ++ endD 1 0 enc0.length (sumN enc0) = _
  rw [npc0]
  unfold shD endD
  simp only [List.range_one, List.map_cons, List.map_nil, hF0, Nat.add_zero]
  rfl
 have r1 := run_sync (ds := [⟨false, 2, Av.sec (mkG 1 0) (pc enc0 0)⟩]) (q := .nil) (M := newL (2 + 2 * A + Lg)) (P := []) (w := 0) (fun x hx => by rw [List.mem_singleton.1 hx]) (fun x hx => by rw [List.mem_singleton.1 hx, hN]; exact ⟨by simp only; omega, hsl⟩) (newL_sec _)
 have r2 := run_sync (ds := [⟨false, 1, rootB [] 1 0⟩]) (q := .nil) (M := (newL (2 + 2 * A + Lg)).set 2 (Av.sec (mkG 1 0) (pc enc0 0))) (P := []) (w := 1) (fun x hx => by rw [List.mem_singleton.1 hx]) (fun x hx => by rw [List.mem_singleton.1 hx, List.length_set, hN]; exact ⟨by simp only; omega, root_len⟩) ((newL_sec _).set hsl)
 have hget : ∀ j, j ≠ 1 → j ≠ 2 → j < 2 + 2 * A + Lg → (fmtL A Lg)[j]? = some zK := fun j h1 h2 hj => by
  unfold fmtL
  rw [List.getElem?_set_ne (by omega), List.getElem?_set_ne (by omega), newL_get hj]
 have hlen : (fmtL A Lg).length = 2 + 2 * A + Lg := by unfold fmtL; rw [List.length_set, List.length_set, hN]
 have hlog : ∀ j s, (logL (fmtL A Lg) A Lg)[j]? = some s → s = zK := fun j s hj => by
  have hjl : j < Lg := by
   apply Classical.byContradiction
   intro hge
   rw [List.getElem?_eq_none (by unfold logL; rw [List.length_take]; omega)] at hj; cases hj
  rw [logL_get hjl, hget _ (by omega) (by omega) (by omega)] at hj
  injection hj with hj; exact hj.symm
 refine ⟨?_, ?_, ⟨⟨h, hlen, ?_, ⟨by omega, by omega⟩, by omega, fitL0 (by omega) (by omega), List.Pairwise.nil, ?_, fun i hi => ?_, fun g' hg' => ?_⟩, ⟨zK, .inl rfl, hget 0 (by omega) (by omega) (by omega)⟩, fun t ht => (by cases ht), rfl, by omega, fun i hi => (by simp [lenL] at hi), fun j s _ hj => ?_, .nil, fitL0 (by omega) (by omega), List.Pairwise.nil⟩⟩
 ·rw [e, Dk.run_app]
  have r1 : Dk.run ⟨.nil, newL (2 + 2 * A + Lg), [], 0⟩ ([⟨false, 2, Av.sec (mkG 1 0) (pc enc0 0)⟩] ++ [⟨true, 0, []⟩]) = ⟨.nil, (newL (2 + 2 * A + Lg)).set 2 (Av.sec (mkG 1 0) (pc enc0 0)), [], 1⟩ := r1
  rw [r1, r2]; rfl
 ·intro x hx
  rw [e] at hx
  simp only [List.cons_append, List.nil_append, List.mem_cons, List.not_mem_nil, or_false] at hx
  rcases hx with rfl | rfl | rfl | rfl
  ·exact .inr ⟨by simp only; omega, hsl⟩
  ·exact .inl rfl
  ·exact .inr ⟨by simp only; omega, root_len⟩
  ·exact .inl rfl
 ·unfold fmtL; exact ((newL_sec _).set hsl).set root_len
 ·unfold fmtL
  rw [show 1 % 2 = 1 from rfl, List.getElem?_set_self (by rw [List.length_set, hN]; omega)]
 ·have hi0 : i = 0 := by have := npc0; have hi : i < npc enc0 := hi; omega
  subst hi0
  rw [hF0]
  unfold fmtL
  rw [List.getElem?_set_ne (by omega), List.getElem?_set_self (by rw [hN]; omega)]; rfl
 ·rcases hs2 : (logL (fmtL A Lg) A Lg)[0]? with _ | s
  ·unfold payO; rw [show ((0 : Int)).toNat = 0 from rfl, hs2]
  ·rw [hlog 0 s hs2] at hs2
   exact clean_pay (zK_clean g') (Nat.le_refl _) hs2
 ·rw [hlog j s hj]; exact zK_clean 1
structure Planned (A Lg : Nat) (L : List Key) (g : Nat) (now : List Pr) (os : List OpP) (D : List Dd) (g2 a2 : Nat) (pl2 : Nat) : Prop where
 gen : g ≤ g2 ∧ g2 ≤ g + 1 ∧ g2 < 1099511627776
 len : 2 ≤ D.length ∧ D.length ≤ 900
 ok : DdOk L.length D
 run : ∀ w : Int, ∃ L2 l2 xs2 w2, Dk.run ⟨.nil, L, [], w⟩ D = ⟨.nil, L2, [], w2⟩ ∧ L2.length = L.length ∧ RunI A Lg L2 g2 a2 l2 (applyL os now) xs2 pl2
 part : ∀ (w : Int) (p : Plan) (m : Nat), WrOk (Dk.run ⟨.nil, L, [], w⟩ (D.take m)).P L.length ∧ Sec (Dk.run ⟨.nil, L, [], w⟩ (D.take m)).L ∧
  ∃ g' a' now', g' ≤ g2 ∧ SvI A Lg (keepL p 0 (Dk.run ⟨.nil, L, [], w⟩ (D.take m)).P (undoL (Dk.run ⟨.nil, L, [], w⟩ (D.take m)).P (Dk.run ⟨.nil, L, [], w⟩ (D.take m)).L)) now' g' a' ∧ (now' = now ∨ now' = applyL os now) ∧ (m < D.length - 1 → now' = now) ∧ (D.length ≤ m → now' = applyL os now)
theorem planned_room {A Lg : Nat} {L : List Key} {g a : Nat} {l0 now : List Pr} {xs : List Key} {pl : Nat} (h : RunI A Lg L g a l0 now xs pl) {os : List OpP} (he : fitsE A now os = 0) (hk : szT (encOps os).1.length ≤ Lg - pl) :
  Planned A Lg L g now os (lgD A g pl (encOps os).1 (szT (encOps os).1.length) ++ syD) g a (pl + szT (encOps os).1.length) := by
 have hs := h.dev.sh.lg
 have hg := h.dev.gg
 have hkk := lg_ok h he hk
 obtain ⟨x0, x1⟩ := enc_len (fits_enc he).1
 have hsz := szT_good ⟨x0, x1⟩
 have hin := h.in_
 have hll : (lgD A g pl (encOps os).1 (szT (encOps os).1.length) ++ syD).length = szT (encOps os).1.length + 1 := by rw [List.length_append, lgD_len]; rfl
 refine ⟨⟨Nat.le_refl _, by omega, hg.2⟩, by rw [hll]; omega, fun x hx => ?_, fun w => ?_, fun w p m => ?_⟩
 ·rcases List.mem_append.1 hx with hx | hx
  ·exact .inr (hkk x hx).2
  ·rw [List.mem_singleton.1 hx]; exact .inl rfl
 ·obtain ⟨L2, r1, r2, r3⟩ := lg_run h he hk (w := w) (q := .nil) (P := [])
  exact ⟨L2, l0, _, _, r1, r2, r3⟩
 ·by_cases hm : m ≤ szT (encOps os).1.length
  ·have e : (lgD A g pl (encOps os).1 (szT (encOps os).1.length) ++ syD).take m = lgD A g pl (encOps os).1 m := by
    rw [List.take_append_of_le_length (by rw [lgD_len]; exact hm), lgD_take A g pl _ hm]
   rw [e]
   have hmem : ∀ x ∈ lgD A g pl (encOps os).1 m, x ∈ lgD A g pl (encOps os).1 (szT (encOps os).1.length) := fun x hx => by
    obtain ⟨i, hi, rfl⟩ := lgD_mem hx
    exact lgD_at (by omega)
   obtain ⟨c1, c2, c3⟩ := crash_run (q := .nil) (w := w) (fun x hx => (hkk x (hmem x hx)).1) (lgD_once A g pl (encOps os).1 m) (fun x hx => (hkk x (hmem x hx)).2) h.dev.sec p
   refine ⟨c1, c2, ?_⟩
   rcases lg_crash h he hk hm c3 with ⟨s, _⟩ | ⟨hme, s⟩
   ·exact ⟨g, a, now, by omega, s, .inl rfl, fun _ => rfl, fun hd => by rw [hll] at hd; omega⟩
   ·exact ⟨g, a, _, by omega, s, .inr rfl, fun hd => by rw [hll] at hd; omega, fun _ => rfl⟩
  ·have e : (lgD A g pl (encOps os).1 (szT (encOps os).1.length) ++ syD).take m = lgD A g pl (encOps os).1 (szT (encOps os).1.length) ++ syD := List.take_of_length_le (by rw [hll]; omega)
   obtain ⟨L2, r1, r2, r3⟩ := lg_run h he hk (w := w) (q := .nil) (P := [])
   rw [e, r1]
   exact ⟨fun x hx => (by cases hx), r3.dev.sec, g, a, _, by omega, r3.sv, .inr rfl, fun hd => by rw [hll] at hd; omega, fun _ => rfl⟩
end Go.Proofs.YtbaedepmogkkeaaGreat.Av
namespace Go.Proofs.YtbaedepmogkkeaaGreat.Av
open Go Go.RowKit Tre
set_option linter.unusedVariables false
set_option linter.unusedSimpArgs false
set_option maxRecDepth 100000
set_option maxHeartbeats 4000000
theorem sfits_nil (A L : Nat) (t : Tr) (g a z u pl : Nat) (nx : Option Tr) (hg : 1 ≤ g) :
  SM 45 [.ptr 0 0, nilA] [stB A L t g a z u pl nx] [.ptr 0 0] (Z 2) [stB A L t g a z u pl nx] := by
 have c := sok_ok A L t g a z u pl nx hg
 cases nx
 all_goals
  refine SM_ Tryz.func45 (by kernel_rfl) rfl (Nat.le_of_ble_eq_true rfl) (Nat.le_succ 1) ?_
  show avc Tryz.prog SP _ _ _ _ _ _
  dsimp only [avc, startS, Array.toList, Tryz.f45]
  repeat' ((try conv => whnf) <;> first | refine Av.Va ?_ | refine ⟨_, _, _, c, ?_⟩ | refine ⟨[], [0,1,3,7,0,16,48,112,0,496,1023,2047], Av.len_ok rfl (by kernel_rfl), ?_⟩ | exact True.intro | refine Av.Vb ?_ | exact ⟨rfl, rfl, rfl⟩ | exact ⟨rfl, rfl⟩ | (refine Av.Vc ?_ ?_ <;> intro hBr <;> first | (exfalso; omega) | (exfalso; contradiction) | (exfalso; exact hBr rfl) | skip) | refine Av.Vd ?_ | exact rfl)
def sg3 : Nat → Nat
 | 0 => 0
 | 1 => 1
 | _ => 3
theorem do_sl {L : List Key} {w : Int} {b : ABlk} (hpu : b.pu = true) {n : Nat} {cs : List AV} (el : TypeId) (fz : Bool) {rargs : List AV} {r : AV} {bs' : List ABlk}
  (h : SM 35 [.ptr 0 0, .ptr 1 0, .vs n cs] (dskS .nil L [] w b) rargs r bs') :
  SM 35 [.ptr 0 0, .ptr 1 0, .sl 2 n] [b, headN 3 L.length nilA w, ⟨cs, some el, fz, true⟩, secB L] rargs r bs' := by
 refine smSl (pre := [.ptr 0 0, .ptr 1 0]) (pre2 := [.ptr 0 0, .ptr 1 0]) (k := 2) sg3 rfl (fun i hi => ?_) (fun i j hi hj => ?_) (fun i hi => ?_) rfl (fun j hj _ => ?_) h
 ·match i, hi with
  | 0, _ => exact ⟨show (0 : Nat) < 4 by decide, by decide⟩
  | 1, _ => exact ⟨show (1 : Nat) < 4 by decide, by decide⟩
  | 2, _ => exact ⟨show (3 : Nat) < 4 by decide, by decide⟩
 ·match i, j, hi, hj with
  | 0, 0, _, _ => exact fun _ => rfl
  | 0, 1, _, _ => exact fun h => absurd h (by decide)
  | 0, 2, _, _ => exact fun h => absurd h (by decide)
  | 1, 0, _, _ => exact fun h => absurd h (by decide)
  | 1, 1, _, _ => exact fun _ => rfl
  | 1, 2, _, _ => exact fun h => absurd h (by decide)
  | 2, 0, _, _ => exact fun h => absurd h (by decide)
  | 2, 1, _, _ => exact fun h => absurd h (by decide)
  | 2, 2, _, _ => exact fun _ => rfl
 ·match i, hi with
  | 0, _ => exact ⟨_, rfl, RenB.same hpu⟩
  | 1, _ =>
   refine ⟨_, rfl, rfl, rfl, rfl, rfl, rfl, .inr ⟨rfl, fun j hj h2 => ?_⟩⟩
   match j, hj with
   | 0, _ => exact Ren.ex _ _ _ _
   | 1, _ => exact Ren.sl (σ := sg3) (r := 2) (show 2 < 3 by decide)
   | 2, _ => exact Ren.ex _ _ _ _
   | 3, _ => exact Ren.ex _ _ _ _
  | 2, _ => exact ⟨_, rfl, RenB.same rfl⟩
 ·match j, hj with
  | 0, _ => exact Ren.ptr (σ := sg3) (r := 0) (show 0 < 3 by decide)
  | 1, _ => exact Ren.ptr (σ := sg3) (r := 1) (show 1 < 3 by decide)
abbrev os1 : List OpP := [(1, [97], [98])]
theorem begin_ok {A Lg : Nat} (h : OkSh A Lg) : ∃ L1 L2 C R z u, RunI A Lg L2 2 1 [] [] [] 0 ∧ Fit A R ∧ R.toL = [] ∧
  SM 41 [shA A Lg] [] [] (.tup [.ptr 0 0, Z 0]) (dsk .nil L1 [] 2) ∧
  SM 20 [.ptr 0 0, shA A Lg] (dsk .nil L1 [] 2) [.ptr 0 0] (.tup [.ptr 1 0, .sl 2 4, Z 0]) (dskX .nil L1 [] 2 (stB A Lg R 2 1 z u 0 none) ⟨C, some 174, false, true⟩) ∧
  SM 58 [.ptr 0 0, .sl 1 4] (dskR .nil L1 [] 2 ⟨C, some 174, false, true⟩) [.ptr 0 0] (Z 0) (dsk .nil L2 [] 4) := by
 have hs := h.lg
 obtain ⟨f1, f2, f3⟩ := fmt_run h
 have c1 := format_ok h _ _ f1 f2
 have hl := f3.dev.len
 obtain ⟨_, _, hfl, R, hR, hRl, c2, _⟩ := recS_ok (q := .nil) (P := []) (w := 2) h hl rfl f3.sv.recd
 obtain ⟨L2, q1, q2, q3, q4, q5⟩ := anew_all f3.sv (by omega) (w := 2) (q := .nil) (P := [])
 have hrun := run_fresh f3 q3 q4 (logL_eq q5)
 have hD := anew_ok f3.sv (by omega)
 have hDl := anewD_len A [] 1 0
 have hn0 : npc (Shf.encB []) = 1 := npc0
 have c3 := perform_ok ⟨.nil, fmtL A Lg, [], 2⟩ (anewD A [] 1 0) false 0 ⟨rfl, rfl, Nat.le_refl _, (by show (0 : Int) ≤ 2; omega)⟩ hD (by rw [hDl, hn0]; omega) (by rw [hDl, hn0]; show (2 : Int) + _ ≤ _; omega)
 rw [q1] at c3
 rw [hn0] at c3 c2
 rw [hDl, hn0] at c3
 have hw : (2 : Int) + ((1 : Nat) : Int) + 1 = 4 := rfl
 rw [hw] at c3
 exact ⟨_, L2, _, R, (Shf.encB []).length, sumN (Shf.encB []), hrun, hR, hRl, c1, c2, c3⟩
theorem awake18_walk (L1 L2 L3 : List Key) (C C3 : List AV) (R R2 R3 : Tr) (z u z3 u3 : Nat) (w3 : Int) (n3 : Nat)
  (c1 : SM 41 [shA 4 32] [] [] (.tup [.ptr 0 0, Z 0]) (dsk .nil L1 [] 2))
  (c2 : SM 20 [.ptr 0 0, shA 4 32] (dsk .nil L1 [] 2) [.ptr 0 0] (.tup [.ptr 1 0, .sl 2 4, Z 0]) (dskX .nil L1 [] 2 (stB 4 32 R 2 1 z u 0 none) ⟨C, some 174, false, true⟩))
  (c3 : SM 58 [.ptr 0 0, .sl 1 4] (dskR .nil L1 [] 2 ⟨C, some 174, false, true⟩) [.ptr 0 0] (Z 0) (dsk .nil L2 [] 4))
  (c4 : SM 35 [.ptr 0 0, .ptr 1 0, .vs 1 (opC os1)] (dskS .nil L2 [] 4 (stB 4 32 R 2 1 z u 0 none)) [.ptr 0 0, .ptr 1 0] (Z 0) (dskS .nil L3 [] w3 (stB 4 32 R2 2 1 z u 1 none)))
  (c5 : SM 20 [.ptr 0 0, shA 4 32] (dsk .nil L3 [] w3) [.ptr 0 0] (.tup [.ptr 1 0, .sl 2 n3, Z 0]) (dskX .nil L3 [] w3 (stB 4 32 R3 3 0 z3 u3 0 none) ⟨C3, some 174, false, true⟩))
  (g1 : SP 89 [trA R2, T [97]] (.tup [T [98], B true])) (g2 : SP 89 [trA R3, T [97]] (.tup [T [98], B true]))
  (s1 : SP 31 [shI 4 32] (Z 42)) (r1 : SP 29 [shI 4 31] (B false)) : SP 21 [] (B true) := by
 have c4 := do_sl rfl 82 true c4
 have t1 := stree_ok 4 32 R2 2 1 z u 1 none (by omega)
 have t2 := stree_ok 4 32 R3 3 0 z3 u3 0 none (by omega)
 have f1 := sfits_nil 4 32 R2 2 1 z u 1 none (by omega)
 have a1 := sapply_no 4 32 R2 2 1 z u 1 (by omega)
 have e1 := sgen_ok 4 32 R2 2 1 z u 1 none (by omega)
 have e2 := sgen_ok 4 32 R3 3 0 z3 u3 0 none (by omega)
 have l1 : SM 52 [.ptr 0 0] [stB 4 32 R2 2 1 z u 1 none] [.ptr 0 0] (Z 31) [stB 4 32 R2 2 1 z u 1 none] := sleft_ok 4 32 R2 2 1 z u 1 none (by omega) (by omega) (by omega)
 refine S_ Tryz.func21 (by kernel_rfl) rfl (Nat.le_of_ble_eq_true rfl) ?_
 show avc Tryz.prog SP _ _ _ _ _ _
 dsimp only [avc, startS, Array.toList, Tryz.f21]
 repeat' ((try conv => whnf) <;> first | refine Av.Va ?_ | refine ⟨_, _, _, c1, ?_⟩ | refine ⟨_, _, _, c2, ?_⟩ | refine ⟨_, _, _, c3, ?_⟩ | refine ⟨_, _, _, c4, ?_⟩ | refine ⟨_, _, _, c5, ?_⟩ | refine ⟨_, _, _, t1, ?_⟩ | refine ⟨_, _, _, t2, ?_⟩ | refine ⟨_, _, _, f1, ?_⟩ | refine ⟨_, _, _, a1, ?_⟩ | refine ⟨_, _, _, e1, ?_⟩ | refine ⟨_, _, _, e2, ?_⟩ | refine ⟨_, _, _, l1, ?_⟩ | refine ⟨_, g1, ?_⟩ | refine ⟨_, g2, ?_⟩ | refine ⟨_, s1, ?_⟩ | refine ⟨_, r1, ?_⟩ | (refine ⟨true, ?_⟩) | exact True.intro | refine Av.Vb ?_ | exact ⟨rfl, rfl, rfl⟩ | exact ⟨rfl, rfl⟩ | (refine Av.Vc ?_ ?_ <;> intro hBr <;> first | (exfalso; omega) | (exfalso; contradiction) | (exfalso; exact hBr rfl) | skip) | refine Av.Vd ?_ | exact rfl)
theorem os1_fit : fitsE 4 [] os1 = 0 ∧ szT (encOps os1).1.length = 1 := by
 have h2 : encOps os1 = (Crc.sealed (bodyB os1), 0) := by
  unfold encOps
  rw [show checkL os1 = 0 from rfl, if_neg (by decide), if_neg (by decide)]
 have hl : (encOps os1).1.length = 12 := by
  obtain ⟨d1, d2, d3, _⟩ := dec_enc (l := os1) (by rw [h2])
  rw [d2]; rfl
 constructor
 ·unfold fitsE
  rw [if_neg (by decide), if_neg (by rw [h2]; decide), if_pos]
  unfold npc
  rw [Shf.encB_len]
  decide +kernel
 ·rw [hl]; rfl
theorem awake18_ok : SP 21 [] (B true) := by
 have h : OkSh ((4 : Nat) : Int) ((32 : Nat) : Int) := by unfold OkSh; omega
 obtain ⟨L1, L2, C, R, z, u, hrun, hR, hRl, c1, c2, c3⟩ := begin_ok h
 obtain ⟨he, hk⟩ := os1_fit
 have ho : FewO os1 := ⟨by decide, by decide⟩
 have p := planned_room hrun he (by rw [hk]; decide)
 have he' : fitsE 4 R.toL os1 = 0 := by rw [hRl]; exact he
 have cp := splan_room hR 2 1 z u 0 (L := 32) ⟨by omega, by omega⟩ os1 ho he' (by omega) (by omega) (by rw [hk]; decide)
 obtain ⟨L3, l3, xs3, w3, q1, q2, q3⟩ := p.run 4
 have hta := (hR.apply os1).2
 have hga := (hR.apply os1).1
 rw [hRl] at hta
 have hp3 : applyL os1 [] = [([97], [98])] := rfl
 have hww := Dk.run_w (lgD 4 2 0 (encOps os1).1 (szT (encOps os1).1.length) ++ syD) ⟨.nil, L2, [], 4⟩
 have hlen : (lgD 4 2 0 (encOps os1).1 (szT (encOps os1).1.length) ++ syD).length = 2 := by rw [List.length_append, lgD_len, hk]; rfl
 have c4 := do_yes 4 32 R 2 1 z u 0 L2 4 os1 2 1 z u _ _ _ _ (by rw [List.length_append, lgD_len]; rfl) (by omega) cp L3 w3 q1 p.ok (by omega) (by omega) (by omega)
 have hsv := q3.sv
 have hl3 := q3.dev.len
 obtain ⟨_, _, hfl, R3, hR3, hRl3, c5, _⟩ := recS_ok (q := .nil) (P := []) (w := w3) h hl3 rfl hsv.recd
 rw [hk] at c4
 have g1 := get_ok (Tr.apply os1 R) [97] (some [98]) (by rw [Tr.get_toL hga.srt, hta]; rfl)
 have g2 := get_ok R3 [97] (some [98]) (by rw [Tr.get_toL hR3.good.srt, hRl3]; rfl)
 exact awake18_walk L1 L2 L3 C _ R _ R3 z u _ _ w3 _ c1 c2 c3 c4 c5 g1 g2 (by have := ssectors_ok 4 32; rwa [show sectN 4 32 = 42 by decide] at this) (by have := right_ok 4 31; rwa [show decide (OkSh 4 31) = false by decide] at this)
abbrev zsB : ABlk := ⟨[Z 0, Z 0, nilP, U 0, Z 0, Z 0, U32 0, Z 0, .ex .nilFunc], none, false, true⟩
theorem nok0 : SM 96 [nilP] [] [nilP] (B false) [] := by
 refine SM_ Tryz.func96 (by kernel_rfl) rfl (Nat.le_of_ble_eq_true rfl) (show 1 ≤ 1 by omega) ?_
 show avc Tryz.prog SP _ _ _ _ _ _
 dsimp only [avc, startS, Array.toList, Tryz.f96]
 repeat' ((try conv => whnf) <;> first | refine Av.Va ?_ | exact True.intro | refine Av.Vb ?_ | exact ⟨rfl, rfl, rfl⟩ | exact ⟨rfl, rfl⟩ | (refine Av.Vc ?_ ?_ <;> intro hBr <;> first | (exfalso; omega) | (exfalso; contradiction) | (exfalso; exact hBr rfl) | skip) | refine Av.Vd ?_ | exact rfl)
theorem nok1 : SM 96 [.ptr 0 0] [zsB] [.ptr 0 0] (B false) [zsB] := by
 refine SM_ Tryz.func96 (by kernel_rfl) rfl (Nat.le_of_ble_eq_true rfl) (show 1 ≤ 1 by omega) ?_
 show avc Tryz.prog SP _ _ _ _ _ _
 dsimp only [avc, startS, Array.toList, Tryz.f96]
 repeat' ((try conv => whnf) <;> first | refine Av.Va ?_ | exact True.intro | refine Av.Vb ?_ | exact ⟨rfl, rfl, rfl⟩ | exact ⟨rfl, rfl⟩ | (refine Av.Vc ?_ ?_ <;> intro hBr <;> first | (exfalso; omega) | (exfalso; contradiction) | (exfalso; exact hBr rfl) | skip) | refine Av.Vd ?_ | exact rfl)
theorem nplan0 (n : Nat) (C : List AV) : SM 47 [nilP, .vs n C] [] [nilP] (.tup [nilA, Z 1]) [] := by
 have c := nok0
 refine SM_ Tryz.func47 (by kernel_rfl) rfl (Nat.le_of_ble_eq_true rfl) (show 1 ≤ 2 by omega) ?_
 show avc Tryz.prog SP _ _ _ _ _ _
 dsimp only [avc, startS, Array.toList, Tryz.f47]
 repeat' ((try conv => whnf) <;> first | refine Av.Va ?_ | refine ⟨_, _, _, c, ?_⟩ | refine ⟨[], [0,0,2,6,14,30,0,64,192,448,0,1024,3072,7168,15360,32767,65535,131071,131071,262143,1048575], Av.len_ok rfl (by kernel_rfl), ?_⟩ | refine ⟨[], [0,1,3,7,15,0,32,96,224,511,0,2047,0,8191], Av.len_ok rfl (by kernel_rfl), ?_⟩ | exact True.intro | refine Av.Vb ?_ | exact ⟨rfl, rfl, rfl⟩ | exact ⟨rfl, rfl⟩ | (refine Av.Vc ?_ ?_ <;> intro hBr <;> first | (exfalso; omega) | (exfalso; contradiction) | (exfalso; exact hBr rfl) | skip) | refine Av.Vd ?_ | exact rfl)
theorem nplan1 (n : Nat) (C : List AV) : SM 47 [.ptr 0 0, .vs n C] [zsB] [.ptr 0 0] (.tup [nilA, Z 1]) [zsB] := by
 have c := nok1
 refine SM_ Tryz.func47 (by kernel_rfl) rfl (Nat.le_of_ble_eq_true rfl) (show 1 ≤ 2 by omega) ?_
 show avc Tryz.prog SP _ _ _ _ _ _
 dsimp only [avc, startS, Array.toList, Tryz.f47]
 repeat' ((try conv => whnf) <;> first | refine Av.Va ?_ | refine ⟨_, _, _, c, ?_⟩ | refine ⟨[], [0,0,2,6,14,30,0,64,192,448,0,1024,3072,7168,15360,32767,65535,131071,131071,262143,1048575], Av.len_ok rfl (by kernel_rfl), ?_⟩ | refine ⟨[], [0,1,3,7,15,0,32,96,224,511,0,2047,0,8191], Av.len_ok rfl (by kernel_rfl), ?_⟩ | exact True.intro | refine Av.Vb ?_ | exact ⟨rfl, rfl, rfl⟩ | exact ⟨rfl, rfl⟩ | (refine Av.Vc ?_ ?_ <;> intro hBr <;> first | (exfalso; omega) | (exfalso; contradiction) | (exfalso; exact hBr rfl) | skip) | refine Av.Vd ?_ | exact rfl)
theorem napply0 : SM 50 [nilP] [] [nilP] (Z 1) [] := by
 have c := nok0
 refine SM_ Tryz.func50 (by kernel_rfl) rfl (Nat.le_of_ble_eq_true rfl) (show 1 ≤ 1 by omega) ?_
 show avc Tryz.prog SP _ _ _ _ _ _
 dsimp only [avc, startS, Array.toList, Tryz.f50]
 repeat' ((try conv => whnf) <;> first | refine Av.Va ?_ | refine ⟨_, _, _, c, ?_⟩ | exact True.intro | refine Av.Vb ?_ | exact ⟨rfl, rfl, rfl⟩ | exact ⟨rfl, rfl⟩ | (refine Av.Vc ?_ ?_ <;> intro hBr <;> first | (exfalso; omega) | (exfalso; contradiction) | (exfalso; exact hBr rfl) | skip) | refine Av.Vd ?_ | exact rfl)
theorem napply1 : SM 50 [.ptr 0 0] [zsB] [.ptr 0 0] (Z 1) [zsB] := by
 have c := nok1
 refine SM_ Tryz.func50 (by kernel_rfl) rfl (Nat.le_of_ble_eq_true rfl) (show 1 ≤ 1 by omega) ?_
 show avc Tryz.prog SP _ _ _ _ _ _
 dsimp only [avc, startS, Array.toList, Tryz.f50]
 repeat' ((try conv => whnf) <;> first | refine Av.Va ?_ | refine ⟨_, _, _, c, ?_⟩ | exact True.intro | refine Av.Vb ?_ | exact ⟨rfl, rfl, rfl⟩ | exact ⟨rfl, rfl⟩ | (refine Av.Vc ?_ ?_ <;> intro hBr <;> first | (exfalso; omega) | (exfalso; contradiction) | (exfalso; exact hBr rfl) | skip) | refine Av.Vd ?_ | exact rfl)
theorem ndo0 (n : Nat) (C : List AV) : SM 35 [nilP, nilP, .vs n C] [] [nilP, nilP] (Z 1) [] := by
 have c := nplan0 n C
 refine SM_ Tryz.func35 (by kernel_rfl) rfl (Nat.le_of_ble_eq_true rfl) (show 2 ≤ 3 by omega) ?_
 show avc Tryz.prog SP _ _ _ _ _ _
 dsimp only [avc, startS, Array.toList, Tryz.f35]
 repeat' ((try conv => whnf) <;> first | refine Av.Va ?_ | refine ⟨_, _, _, c, ?_⟩ | exact True.intro | refine Av.Vb ?_ | exact ⟨rfl, rfl, rfl⟩ | exact ⟨rfl, rfl⟩ | (refine Av.Vc ?_ ?_ <;> intro hBr <;> first | (exfalso; omega) | (exfalso; contradiction) | (exfalso; exact hBr rfl) | skip) | refine Av.Vd ?_ | exact rfl)
theorem ndo1 (n : Nat) (C : List AV) : SM 35 [.ptr 0 0, nilP, .vs n C] [zsB] [.ptr 0 0, nilP] (Z 1) [zsB] := by
 have c := nplan1 n C
 refine SM_ Tryz.func35 (by kernel_rfl) rfl (Nat.le_of_ble_eq_true rfl) (show 2 ≤ 3 by omega) ?_
 show avc Tryz.prog SP _ _ _ _ _ _
 dsimp only [avc, startS, Array.toList, Tryz.f35]
 repeat' ((try conv => whnf) <;> first | refine Av.Va ?_ | refine ⟨_, _, _, c, ?_⟩ | exact True.intro | refine Av.Vb ?_ | exact ⟨rfl, rfl, rfl⟩ | exact ⟨rfl, rfl⟩ | (refine Av.Vc ?_ ?_ <;> intro hBr <;> first | (exfalso; omega) | (exfalso; contradiction) | (exfalso; exact hBr rfl) | skip) | refine Av.Vd ?_ | exact rfl)
theorem nfits0 (n : Nat) (C : List AV) : SM 45 [nilP, .vs n C] [] [nilP] (Z 1) [] := by
 have c := nok0
 refine SM_ Tryz.func45 (by kernel_rfl) rfl (Nat.le_of_ble_eq_true rfl) (show 1 ≤ 2 by omega) ?_
 show avc Tryz.prog SP _ _ _ _ _ _
 dsimp only [avc, startS, Array.toList, Tryz.f45]
 repeat' ((try conv => whnf) <;> first | refine Av.Va ?_ | refine ⟨_, _, _, c, ?_⟩ | refine ⟨[], [0,1,3,7,0,16,48,112,0,496,1023,2047], Av.len_ok rfl (by kernel_rfl), ?_⟩ | exact True.intro | refine Av.Vb ?_ | exact ⟨rfl, rfl, rfl⟩ | exact ⟨rfl, rfl⟩ | (refine Av.Vc ?_ ?_ <;> intro hBr <;> first | (exfalso; omega) | (exfalso; contradiction) | (exfalso; exact hBr rfl) | skip) | refine Av.Vd ?_ | exact rfl)
theorem nfits1 (n : Nat) (C : List AV) : SM 45 [.ptr 0 0, .vs n C] [zsB] [.ptr 0 0] (Z 1) [zsB] := by
 have c := nok1
 refine SM_ Tryz.func45 (by kernel_rfl) rfl (Nat.le_of_ble_eq_true rfl) (show 1 ≤ 2 by omega) ?_
 show avc Tryz.prog SP _ _ _ _ _ _
 dsimp only [avc, startS, Array.toList, Tryz.f45]
 repeat' ((try conv => whnf) <;> first | refine Av.Va ?_ | refine ⟨_, _, _, c, ?_⟩ | refine ⟨[], [0,1,3,7,0,16,48,112,0,496,1023,2047], Av.len_ok rfl (by kernel_rfl), ?_⟩ | exact True.intro | refine Av.Vb ?_ | exact ⟨rfl, rfl, rfl⟩ | exact ⟨rfl, rfl⟩ | (refine Av.Vc ?_ ?_ <;> intro hBr <;> first | (exfalso; omega) | (exfalso; contradiction) | (exfalso; exact hBr rfl) | skip) | refine Av.Vd ?_ | exact rfl)
theorem ntree0 : SM 37 [nilP] [] [nilP] (zTr) [] := by
 have c := nok0
 refine SM_ Tryz.func37 (by kernel_rfl) rfl (Nat.le_of_ble_eq_true rfl) (show 1 ≤ 1 by omega) ?_
 show avc Tryz.prog SP _ _ _ _ _ _
 dsimp only [avc, startS, Array.toList, Tryz.f37]
 repeat' ((try conv => whnf) <;> first | refine Av.Va ?_ | refine ⟨_, _, _, c, ?_⟩ | exact True.intro | refine Av.Vb ?_ | exact ⟨rfl, rfl, rfl⟩ | exact ⟨rfl, rfl⟩ | (refine Av.Vc ?_ ?_ <;> intro hBr <;> first | (exfalso; omega) | (exfalso; contradiction) | (exfalso; exact hBr rfl) | skip) | refine Av.Vd ?_ | exact rfl)
theorem ntree1 : SM 37 [.ptr 0 0] [zsB] [.ptr 0 0] (zTr) [zsB] := by
 have c := nok1
 refine SM_ Tryz.func37 (by kernel_rfl) rfl (Nat.le_of_ble_eq_true rfl) (show 1 ≤ 1 by omega) ?_
 show avc Tryz.prog SP _ _ _ _ _ _
 dsimp only [avc, startS, Array.toList, Tryz.f37]
 repeat' ((try conv => whnf) <;> first | refine Av.Va ?_ | refine ⟨_, _, _, c, ?_⟩ | exact True.intro | refine Av.Vb ?_ | exact ⟨rfl, rfl, rfl⟩ | exact ⟨rfl, rfl⟩ | (refine Av.Vc ?_ ?_ <;> intro hBr <;> first | (exfalso; omega) | (exfalso; contradiction) | (exfalso; exact hBr rfl) | skip) | refine Av.Vd ?_ | exact rfl)
theorem ngen0 : SM 51 [nilP] [] [nilP] (U 0) [] := by
 have c := nok0
 refine SM_ Tryz.func51 (by kernel_rfl) rfl (Nat.le_of_ble_eq_true rfl) (show 1 ≤ 1 by omega) ?_
 show avc Tryz.prog SP _ _ _ _ _ _
 dsimp only [avc, startS, Array.toList, Tryz.f51]
 repeat' ((try conv => whnf) <;> first | refine Av.Va ?_ | refine ⟨_, _, _, c, ?_⟩ | exact True.intro | refine Av.Vb ?_ | exact ⟨rfl, rfl, rfl⟩ | exact ⟨rfl, rfl⟩ | (refine Av.Vc ?_ ?_ <;> intro hBr <;> first | (exfalso; omega) | (exfalso; contradiction) | (exfalso; exact hBr rfl) | skip) | refine Av.Vd ?_ | exact rfl)
theorem ngen1 : SM 51 [.ptr 0 0] [zsB] [.ptr 0 0] (U 0) [zsB] := by
 have c := nok1
 refine SM_ Tryz.func51 (by kernel_rfl) rfl (Nat.le_of_ble_eq_true rfl) (show 1 ≤ 1 by omega) ?_
 show avc Tryz.prog SP _ _ _ _ _ _
 dsimp only [avc, startS, Array.toList, Tryz.f51]
 repeat' ((try conv => whnf) <;> first | refine Av.Va ?_ | refine ⟨_, _, _, c, ?_⟩ | exact True.intro | refine Av.Vb ?_ | exact ⟨rfl, rfl, rfl⟩ | exact ⟨rfl, rfl⟩ | (refine Av.Vc ?_ ?_ <;> intro hBr <;> first | (exfalso; omega) | (exfalso; contradiction) | (exfalso; exact hBr rfl) | skip) | refine Av.Vd ?_ | exact rfl)
theorem nleft0 : SM 52 [nilP] [] [nilP] (Z 0) [] := by
 have c := nok0
 refine SM_ Tryz.func52 (by kernel_rfl) rfl (Nat.le_of_ble_eq_true rfl) (show 1 ≤ 1 by omega) ?_
 show avc Tryz.prog SP _ _ _ _ _ _
 dsimp only [avc, startS, Array.toList, Tryz.f52]
 repeat' ((try conv => whnf) <;> first | refine Av.Va ?_ | refine ⟨_, _, _, c, ?_⟩ | refine ⟨[], [0,1,3,7,15,0,32,96,224,511,1023], Av.len_ok rfl (by kernel_rfl), ?_⟩ | exact True.intro | refine Av.Vb ?_ | exact ⟨rfl, rfl, rfl⟩ | exact ⟨rfl, rfl⟩ | (refine Av.Vc ?_ ?_ <;> intro hBr <;> first | (exfalso; omega) | (exfalso; contradiction) | (exfalso; exact hBr rfl) | skip) | refine Av.Vd ?_ | exact rfl)
theorem nleft1 : SM 52 [.ptr 0 0] [zsB] [.ptr 0 0] (Z 0) [zsB] := by
 have c := nok1
 refine SM_ Tryz.func52 (by kernel_rfl) rfl (Nat.le_of_ble_eq_true rfl) (show 1 ≤ 1 by omega) ?_
 show avc Tryz.prog SP _ _ _ _ _ _
 dsimp only [avc, startS, Array.toList, Tryz.f52]
 repeat' ((try conv => whnf) <;> first | refine Av.Va ?_ | refine ⟨_, _, _, c, ?_⟩ | refine ⟨[], [0,1,3,7,15,0,32,96,224,511,1023], Av.len_ok rfl (by kernel_rfl), ?_⟩ | exact True.intro | refine Av.Vb ?_ | exact ⟨rfl, rfl, rfl⟩ | exact ⟨rfl, rfl⟩ | (refine Av.Vc ?_ ?_ <;> intro hBr <;> first | (exfalso; omega) | (exfalso; contradiction) | (exfalso; exact hBr rfl) | skip) | refine Av.Vd ?_ | exact rfl)
theorem nfork0 : SM 53 [nilP] [] [nilP] (nilP) [] := by
 have c := nok0
 refine SM_ Tryz.func53 (by kernel_rfl) rfl (Nat.le_of_ble_eq_true rfl) (show 1 ≤ 1 by omega) ?_
 show avc Tryz.prog SP _ _ _ _ _ _
 dsimp only [avc, startS, Array.toList, Tryz.f53]
 repeat' ((try conv => whnf) <;> first | refine Av.Va ?_ | refine ⟨_, _, _, c, ?_⟩ | exact True.intro | refine Av.Vb ?_ | exact ⟨rfl, rfl, rfl⟩ | exact ⟨rfl, rfl⟩ | (refine Av.Vc ?_ ?_ <;> intro hBr <;> first | (exfalso; omega) | (exfalso; contradiction) | (exfalso; exact hBr rfl) | skip) | refine Av.Vd ?_ | exact rfl)
theorem nfork1 : SM 53 [.ptr 0 0] [zsB] [.ptr 0 0] (nilP) [zsB] := by
 have c := nok1
 refine SM_ Tryz.func53 (by kernel_rfl) rfl (Nat.le_of_ble_eq_true rfl) (show 1 ≤ 1 by omega) ?_
 show avc Tryz.prog SP _ _ _ _ _ _
 dsimp only [avc, startS, Array.toList, Tryz.f53]
 repeat' ((try conv => whnf) <;> first | refine Av.Va ?_ | refine ⟨_, _, _, c, ?_⟩ | exact True.intro | refine Av.Vb ?_ | exact ⟨rfl, rfl, rfl⟩ | exact ⟨rfl, rfl⟩ | (refine Av.Vc ?_ ?_ <;> intro hBr <;> first | (exfalso; omega) | (exfalso; contradiction) | (exfalso; exact hBr rfl) | skip) | refine Av.Vd ?_ | exact rfl)
theorem snob_over (os : List OpP) (A Lg : Int) (h : SP 10 [.vs os.length (opC os)] (Z 1)) : SP 7 [.vs os.length (opC os), shI A Lg] (B true) := by
 have a := awake18_ok
 refine S_ Tryz.func7 (by kernel_rfl) rfl (Nat.le_of_ble_eq_true rfl) ?_
 show avc Tryz.prog SP _ _ _ _ _ _
 dsimp only [avc, startS, Array.toList, Tryz.f7]
 repeat' ((try conv => whnf) <;> first | refine Av.Va ?_ | refine ⟨_, h, ?_⟩ | refine ⟨_, a, ?_⟩ | exact True.intro | refine Av.Vb ?_ | exact ⟨rfl, rfl, rfl⟩ | exact ⟨rfl, rfl⟩ | (refine Av.Vc ?_ ?_ <;> intro hBr <;> first | (exfalso; omega) | (exfalso; contradiction) | (exfalso; exact hBr rfl) | skip) | refine Av.Vd ?_ | exact rfl)
abbrev rowS (fz : Bool) : ABlk := ⟨[nilP, .ptr 2 0], some 50, fz, false⟩
theorem snob_in (n : Nat) (C : List AV) (A Lg : Int) (h : SP 10 [.vs n C] (Z 0)) (hw : SP 44 [.vs n C] (.vs n C)) (b : Bool) (hr : SP 30 [shI A Lg] (B b))
  (hf : b = false → SM 41 [shI A Lg] [] [] (.tup [nilP, Z 2]) []) (cl : SP 38 [zTr] (Z 0)) : SP 7 [.vs n C, shI A Lg] (B true) := by
 have a := awake18_ok
 have p0 := nplan0 n C
 have p1 := nplan1 n C
 have d0 := ndo0 n C
 have d1 := ndo1 n C
 have f0 := nfits0 n C
 have f1 := nfits1 n C
 refine S_ Tryz.func7 (by kernel_rfl) rfl (Nat.le_of_ble_eq_true rfl) ?_
 show avc Tryz.prog SP _ _ _ _ _ _
 dsimp only [avc, startS, Array.toList, Tryz.f7]
 repeat' ((try conv => whnf) <;> first | refine Av.Va ?_ | refine ⟨_, h, ?_⟩ | refine ⟨_, hw, ?_⟩ | (refine ⟨false, ?_⟩) | exact True.intro | refine Av.Vb ?_ | exact ⟨rfl, rfl, rfl⟩ | exact ⟨rfl, rfl⟩ | (refine Av.Vc ?_ ?_ <;> intro hBr <;> first | (exfalso; omega) | (exfalso; contradiction) | (exfalso; exact hBr rfl) | skip) | refine Av.Vd ?_ | exact rfl)
 refine ⟨[24, 23, 22, 6, 3], [], fun vs bl => ∃ i : Nat, i ≤ 2 ∧ (vs = [Z i, Z 2, .sl 0 2, .vs n C, .ptr 1 0] ∧ bl = [rowS false, ⟨[Z A, Z Lg], none, false, true⟩, zsB]), muI 2, ?_, ?_⟩
 ·exact ⟨0, by omega, rfl, rfl⟩
 rintro vs bl ⟨i, hi, rfl, rfl⟩
 have hs1 : sizeT Tryz.prog 50 = 1 := by kernel_rfl
 match i, hi with
 | 0, _ =>
  have hat : ([nilP, .ptr 2 0] : List AV)[mulS ((0 : Nat) : Int).toNat (sizeT Tryz.prog 50)]? = some nilP := by rw [hs1]; rfl
  have hdec : muI 2 [Z (((0 : Nat) : Int) + 1)] [] < muI 2 [Z ((0 : Nat) : Int)] [] := by decide
  have q1 := napply0
  have q2 := ntree0
  have q3 := ngen0
  have q4 := nleft0
  have q5 := nfork0
  repeat' ((try conv => whnf) <;> first | refine Av.Va ?_ | (refine ⟨_, hat, ?_⟩) | refine ⟨_, _, _, p0, ?_⟩ | refine ⟨_, _, _, q1, ?_⟩ | refine ⟨_, _, _, d0, ?_⟩ | refine ⟨_, _, _, f0, ?_⟩ | refine ⟨_, _, _, q2, ?_⟩ | refine ⟨_, cl, ?_⟩ | refine ⟨_, _, _, q3, ?_⟩ | refine ⟨_, _, _, q4, ?_⟩ | refine ⟨_, _, _, q5, ?_⟩ | exact True.intro | refine Av.Vb ?_ | exact ⟨rfl, rfl, rfl⟩ | exact ⟨rfl, rfl⟩ | (refine Av.Vc ?_ ?_ <;> intro hBr <;> first | (exfalso; omega) | (exfalso; contradiction) | (exfalso; exact hBr rfl) | skip) | refine Av.Vd ?_ | exact rfl)
  exact ⟨⟨1, by omega, rfl, rfl⟩, hdec⟩
 | 1, _ =>
  have hat : ([nilP, .ptr 2 0] : List AV)[mulS ((1 : Nat) : Int).toNat (sizeT Tryz.prog 50)]? = some (.ptr 2 0) := by rw [hs1]; rfl
  have hdec : muI 2 [Z (((1 : Nat) : Int) + 1)] [] < muI 2 [Z ((1 : Nat) : Int)] [] := by decide
  have q1 := napply1
  have q2 := ntree1
  have q3 := ngen1
  have q4 := nleft1
  have q5 := nfork1
  repeat' ((try conv => whnf) <;> first | refine Av.Va ?_ | (refine ⟨_, hat, ?_⟩) | refine ⟨_, _, _, p1, ?_⟩ | refine ⟨_, _, _, q1, ?_⟩ | refine ⟨_, _, _, d1, ?_⟩ | refine ⟨_, _, _, f1, ?_⟩ | refine ⟨_, _, _, q2, ?_⟩ | refine ⟨_, cl, ?_⟩ | refine ⟨_, _, _, q3, ?_⟩ | refine ⟨_, _, _, q4, ?_⟩ | refine ⟨_, _, _, q5, ?_⟩ | exact True.intro | refine Av.Vb ?_ | exact ⟨rfl, rfl, rfl⟩ | exact ⟨rfl, rfl⟩ | (refine Av.Vc ?_ ?_ <;> intro hBr <;> first | (exfalso; omega) | (exfalso; contradiction) | (exfalso; exact hBr rfl) | skip) | refine Av.Vd ?_ | exact rfl)
  exact ⟨⟨2, by omega, rfl, rfl⟩, hdec⟩
 | 2, _ =>
  cases b with
  | true =>
   clear p0 p1 d0 d1 f0 f1 hf
   repeat' ((try conv => whnf) <;> first | refine Av.Va ?_ | refine ⟨_, hr, ?_⟩ | refine ⟨_, a, ?_⟩ | exact True.intro | refine Av.Vb ?_ | exact ⟨rfl, rfl, rfl⟩ | exact ⟨rfl, rfl⟩ | (refine Av.Vc ?_ ?_ <;> intro hBr <;> first | (exfalso; omega) | (exfalso; contradiction) | (exfalso; exact hBr rfl) | skip) | refine Av.Vd ?_ | exact rfl)
  | false =>
   have hf := hf rfl
   clear p0 p1 d0 d1 f0 f1
   repeat' ((try conv => whnf) <;> first | refine Av.Va ?_ | refine ⟨_, hr, ?_⟩ | refine ⟨_, _, _, hf, ?_⟩ | refine ⟨_, a, ?_⟩ | exact True.intro | refine Av.Vb ?_ | exact ⟨rfl, rfl, rfl⟩ | exact ⟨rfl, rfl⟩ | (refine Av.Vc ?_ ?_ <;> intro hBr <;> first | (exfalso; omega) | (exfalso; contradiction) | (exfalso; exact hBr rfl) | skip) | refine Av.Vd ?_ | exact rfl)
theorem snob_ok (os : List OpP) (hl : os.length ≤ 9223372036854775807) (A Lg : Int) : SP 7 [.vs os.length (opC os), shI A Lg] (B true) := by
 by_cases h : Over13 os
 ·exact snob_over os A Lg (over13_yes hl h)
 ·have hn : os.length ≤ 50 := by apply Classical.byContradiction; intro e; exact h (.inl (by omega))
  exact snob_in os.length (opC os) A Lg (over13_no h) (own13_ok os (by omega)) _ (rright_ok A Lg) (fun hb => format_bad (of_decide_eq_false hb)) (zwS (len_ok_ .nil))
end Go.Proofs.YtbaedepmogkkeaaGreat.Av
namespace Go.Proofs.YtbaedepmogkkeaaGreat.Av
set_option linter.unusedSimpArgs false
open Go Go.RowKit Tre
set_option linter.unusedVariables false
theorem cells_sh {cs : Array Value} (h : CellsOk [.int .i64, .int .i64] cs.toList) : ∃ A Lg : Int, (-9223372036854775808 ≤ A ∧ A ≤ 9223372036854775807) ∧ (-9223372036854775808 ≤ Lg ∧ Lg ≤ 9223372036854775807) ∧ cs = #[.int .i64 A, .int .i64 Lg] := by
 obtain ⟨v1, r1, e1, ⟨k1, rfl, hk1⟩, hr1⟩ := h.cons_
 obtain ⟨v2, r2, e2, ⟨k2, rfl, hk2⟩, hr2⟩ := hr1.cons_
 have e3 := hr2.empty_
 subst e3 e2
 have b1 := bounds_i64 hk1
 have b2 := bounds_i64 hk2
 refine ⟨k1, k2, ⟨by omega, by omega⟩, ⟨by omega, by omega⟩, ?_⟩
 apply Array.ext'
 rw [e1]
theorem storeNobody_walk (rows : List (List Value)) (k : Nat) (F : Nat → Nat → Prop) (v : Value) (b : Array Value) (w : World) (hq : rows.length = k) (hz : k ≤ 9223372036854775807)
  (hok : ∀ r ∈ rows, CellsOk [.int .u8, .str, .str] r) (hlo : ∀ g j, F g j → g < w.heap.size) (hrep : ∀ F' : Nat → Nat → Prop, (∀ g j, F g j → F' g j) → Rep w p0 c0 F' noD (.vs k (rows.flatten.map .ex)) v) (hb : CellsOk [.int .i64, .int .i64] b.toList) :
  Calls Tryz.prog 7 #[v, .agg b] w fun e w' => e = .returned (.bool true) ∧ Below w.heap.size w w' := by
 obtain ⟨A, Lg, _, _, rfl⟩ := cells_sh hb
 obtain ⟨os, e1, e2⟩ := rows_O13 hok
 have hr := hrep F fun _ _ h => h
 rw [e2, ← hq, ← e1] at hr
 refine calls_at (snob_ok os (by omega) A Lg) w F hlo _ rfl fun j hj => ?_
 match j, hj with
 | 0, _ => exact hr
 | 1, _ => exact .ex _ _
end Go.Proofs.YtbaedepmogkkeaaGreat.Av
