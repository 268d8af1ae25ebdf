/- tree: what every right program does with a map. No conditions. -/
import Derived.Test.YtdicpbecdhaphaaTree14
namespace Go.Proofs.Ytdicpbecdhaphaa.Av
open Go Go.RowKit Tre
set_option linter.unusedVariables false
set_option linter.unusedSimpArgs false
set_option maxRecDepth 100000
set_option maxHeartbeats 2000000

/-- the tree that nobody put anything into -/
abbrev zT : AV := .ex (.agg #[.pointer none])
theorem zrep {w : World} {F : Nat → Nat → Prop} {D : Nat → Prop} {x : Value} (h : Rep w p0 c0 F D zT x) : Rep w p0 c0 F D (trA .nil) x := by
  have := h.ex_inv
  subst this
  refine .agg _ _ _ rfl fun j hj => ?_
  match j, hj with
  | 0, _ => exact .pt0 _ _
theorem zw {f : FuncId} {l : List AV} {r : AV} (h : SP f (trA .nil :: l) r) : SP f (zT :: l) r := by
  refine Sound.weak h (by simp) fun w F j h1 h2 x hx => ?_
  cases j with
  | zero => exact zrep hx
  | succ j => exact hx
theorem awake14_walk (T1 T2 T3 T4 T5 T6 T7 : Tr) (p1 : SP 13 [zT, T [98], T [120]] (trA T1)) (p2 : SP 13 [trA T1, T [97], T [121, 122]] (trA T2)) (p3 : SP 13 [trA T2, T [98], T [119]] (trA T3))
    (ca : SP 23 [trA T3, Z 0] (.tup [T [97], T [121, 122], B true])) (cg : SP 21 [trA T3, T [98]] (.tup [T [119], B true])) (cd : SP 15 [trA T3, T [97]] (trA T4))
    (cp : SP 19 [trA T4, .vs 3 (opC [(1, [99], []), (2, [98], []), (9, [], [])])] (trA T5)) (ct : SP 28 [trA T3, T [], Z 9] (.vs 2 (prC [([97], [121, 122]), ([98], [119])])))
    (l3 : SP 30 [trA T3] (Z 2)) (b3 : SP 31 [trA T3] (Z 13)) (l5 : SP 30 [trA T5] (Z 1)) (ck : SP 24 [trA T3, T [98]] (Z 1)) (l0 : SP 30 [zT] (Z 0)) (d0 : SP 55 [zT] (Z 0)) (d3 : SP 55 [trA T3] (Z 2))
    (q1 : SP 13 [zT, T [98], T [119]] (trA T6)) (q2 : SP 13 [trA T6, T [97], T [121, 122]] (trA T7)) (s1 : SP 18 [trA T3, trA T7] (B true)) (s2 : SP 18 [trA T3, trA T5] (B false)) :
    SP 12 [] (B true) := by
  refine S_ Try.func12 (by kernel_rfl) rfl (Nat.le_of_ble_eq_true rfl) ?_
  show avc Try.prog SP _ _ _ _ _ _
  dsimp only [avc, startS, Array.toList, Try.f12]
  repeat' ((try conv => whnf) <;> (first | (refine Hold.mk ?_) | (refine And.intro (fun _ => ?_) (fun h => Bool.noConfusion h)) | (refine And.intro (fun h => Bool.noConfusion h) (fun _ => ?_)) | (refine And.intro (Nat.le_of_ble_eq_true rfl) ?_) | (refine And.intro (fun _ => ?_) (fun h => Bool.noConfusion ((beq_self_eq_true _).symm.trans h))) | (refine And.intro (fun h => Bool.noConfusion ((bne_self_eq_false _).symm.trans h)) (fun _ => ?_)) | (refine And.intro (fun h => Bool.noConfusion ((beq_self_eq_true _).symm.trans h)) (fun _ => ?_)) | (refine And.intro (fun _ => ?_) (fun h => Bool.noConfusion ((bne_self_eq_false _).symm.trans h))) | (refine ⟨_, p1, ?_⟩) | (refine ⟨_, p2, ?_⟩) | (refine ⟨_, p3, ?_⟩) | (refine ⟨_, ca, ?_⟩) | (refine ⟨_, cg, ?_⟩) | (refine ⟨_, cd, ?_⟩) | (refine ⟨_, cp, ?_⟩) | (refine ⟨_, ct, ?_⟩) | (refine ⟨_, l3, ?_⟩) | (refine ⟨_, b3, ?_⟩) | (refine ⟨_, l5, ?_⟩) | (refine ⟨_, ck, ?_⟩) | (refine ⟨_, l0, ?_⟩) | (refine ⟨_, d0, ?_⟩) | (refine ⟨_, d3, ?_⟩) | (refine ⟨_, q1, ?_⟩) | (refine ⟨_, q2, ?_⟩) | (refine ⟨_, s1, ?_⟩) | (refine ⟨_, s2, ?_⟩) | (refine ⟨true, ?_⟩) | (refine ⟨[], [0, 1, 3, 7, 15, 31, 63, 127, 255, 511, 1023, 2047, 4095, 8191, 16383, 32767, 65535, 131071, 262143, 524287, 1048575, 2097151, 4194303, 8388607, 16777215, 33554431, 67108863, 134217727, 268435455, 536870911, 1073741823, 2147483647, 4294967295, 8589934591, 17179869183, 34359738367, 68719476735, 137438953471, 274877906943, 549755813887, 1099511627775, 2199023255551, 4398046511103, 8796093022207, 17592186044415, 35184372088831, 70368744177663, 140737488355327, 281474976710655, 562949953421311, 1125899906842623, 2251799813685247, 4503599627370495, 9007199254740991, 18014398509481983, 36028797018963967, 72057594037927935, 144115188075855871, 144115188075855871, 432345564227567615, 1008806316530991103, 2305843009213693951, 4611686018427387903, 9223372036854775807, 18446744073709551615, 18446744073709551615, 73786976294838206463, 147573952589676412927, 295147905179352825855, 590295810358705651711], len_ok rfl (by kernel_rfl), ?_⟩) | (exact True.intro) | (refine And.intro (show eqT _ _ = true by kernel_rfl) ?_) | (refine And.intro rfl ?_) | (refine And.intro (And.intro (Nat.le_of_ble_eq_true rfl) rfl) ?_) | (refine And.intro (And.intro rfl rfl) ?_) | (refine And.intro (And.intro rfl (And.intro rfl rfl)) ?_) | (exact And.intro rfl (And.intro rfl rfl)) | (exact And.intro rfl rfl) | (refine br_lt ?_ ?_ <;> intro hBr <;> (first | (exfalso; omega) | (exfalso; contradiction) | (exfalso; exact hBr rfl) | skip)) | (refine br_lt_ ?_ ?_ <;> intro hBr <;> (first | (exfalso; omega) | (exfalso; contradiction) | (exfalso; exact hBr rfl) | skip)) | (refine br_le ?_ ?_ <;> intro hBr <;> (first | (exfalso; omega) | (exfalso; contradiction) | (exfalso; exact hBr rfl) | skip)) | (refine br_le_ ?_ ?_ <;> intro hBr <;> (first | (exfalso; omega) | (exfalso; contradiction) | (exfalso; exact hBr rfl) | skip)) | (refine br_eq ?_ ?_ <;> intro hBr <;> (first | (exfalso; omega) | (exfalso; contradiction) | (exfalso; exact hBr rfl) | skip)) | (refine br_eq_ ?_ ?_ <;> intro hBr <;> (first | (exfalso; omega) | (exfalso; contradiction) | (exfalso; exact hBr rfl) | skip)) | (refine br_seq ?_ ?_ <;> intro hBr <;> (first | (exfalso; omega) | (exfalso; contradiction) | (exfalso; exact hBr rfl) | skip)) | (refine br_seq_ ?_ ?_ <;> intro hBr <;> (first | (exfalso; omega) | (exfalso; contradiction) | (exfalso; exact hBr rfl) | skip)) | (refine br_not ?_) | (refine br_not_ ?_) | (refine br_and ?_) | (refine br_and_ ?_) | (refine And.intro (by omega) ?_) | (refine ⟨_, wrap_i64 (by omega), ?_⟩) | (refine ⟨_, wrap_u64 (by omega) (by omega), ?_⟩) | (refine ⟨_, wrap_u8 (by omega) (by omega), ?_⟩) | (refine ⟨_, wrap_u32 (by omega) (by omega), ?_⟩) | (refine ⟨_, wrap_u16 (by omega) (by omega), ?_⟩) | (refine ⟨_, rfl, ?_⟩) | (exact rfl)))
theorem cn_of {t : Tr} {l : List Pr} (h : t.toL = l) : t.cn = (l.length : Int) := by rw [Tr.cn_len, h]
theorem wt_of {t : Tr} {l : List Pr} (h : t.toL = l) : t.wt = (bytesL l : Int) := by rw [Tr.wt_len, h]
theorem awake14_ok : SP 12 [] (B true) := by
  have hd : (Tr.put [98] [119] (Tr.put [97] [121, 122] (Tr.put [98] [120] .nil))).hh = 2 := by kernel_rfl
  obtain ⟨T1, hT1⟩ : ∃ T, T = Tr.put [98] [120] .nil := ⟨_, rfl⟩
  obtain ⟨g1, e1⟩ := Tr.good_nil.put [98] [120]
  rw [← hT1] at g1 e1 hd
  have e1 : T1.toL = [([98], [120])] := e1.trans (by kernel_rfl)
  have c1 := zw (tput_ok (t := .nil) (k := [98]) (v := [120]) ⟨by decide, by decide⟩)
  rw [← hT1] at c1
  obtain ⟨T2, hT2⟩ : ∃ T, T = Tr.put [97] [121, 122] T1 := ⟨_, rfl⟩
  obtain ⟨g2, e2⟩ := g1.put [97] [121, 122]
  have c2 := tput_ok (t := T1) (k := [97]) (v := [121, 122]) ⟨by rw [cn_of e1]; decide, by rw [wt_of e1]; decide⟩
  rw [← hT2] at g2 e2 hd c2
  have e2 : T2.toL = [([97], [121, 122]), ([98], [120])] := e2.trans (by rw [e1]; kernel_rfl)
  obtain ⟨T3, hT3⟩ : ∃ T, T = Tr.put [98] [119] T2 := ⟨_, rfl⟩
  obtain ⟨g3, e3⟩ := g2.put [98] [119]
  have c3 := tput_ok (t := T2) (k := [98]) (v := [119]) ⟨by rw [cn_of e2]; decide, by rw [wt_of e2]; decide⟩
  rw [← hT3] at g3 e3 hd c3
  have e3 : T3.toL = [([97], [121, 122]), ([98], [119])] := e3.trans (by rw [e2]; kernel_rfl)
  clear hT1 hT2 hT3
  have n3 : T3.cn = 2 := (cn_of e3).trans (by kernel_rfl)
  have w3 : T3.wt = 13 := (wt_of e3).trans (by kernel_rfl)
  have ca := at_pos T3 0 (by omega) (by omega) (by omega) (some ([97], [121, 122])) ((Tr.at_toL T3 0 (by omega)).trans (by rw [e3]; rfl))
  have cg := get_ok T3 [98] (some [119]) ((Tr.get_toL g3.srt).trans (by rw [e3]; kernel_rfl))
  have cd := tdrop_ok (t := T3) (p := [97]) ⟨by omega, by omega⟩ (by decide)
  obtain ⟨g4, e4⟩ := g3.drop [97]
  generalize Tr.drop [97] T3 = T4 at cd g4 e4
  have e4 : T4.toL = [([98], [119])] := e4.trans (by rw [e3]; kernel_rfl)
  have n4 : T4.cn = 1 := (cn_of e4).trans (by kernel_rfl)
  have w4 : T4.wt = 6 := (wt_of e4).trans (by kernel_rfl)
  have cp := tapply_ok (t := T4) (os := [(1, [99], []), (2, [98], []), (9, [], [])]) g4 ⟨by rw [n4]; decide, by decide, by rw [w4]; decide⟩ _ rfl
  obtain ⟨g5, e5⟩ := Tr.Good.apply [(1, [99], []), (2, [98], []), (9, [], [])] g4
  generalize Tr.apply [(1, [99], []), (2, [98], []), (9, [], [])] T4 = T5 at cp g5 e5
  have e5 : T5.toL = [([99], [])] := e5.trans (by rw [e4]; kernel_rfl)
  have ct := told_ok T3 [] 9 g3.srt (by rw [e3]; decide) (by rw [e3]; decide) (by decide)
  rw [e3, underL_nil] at ct
  have l3 := len_ok_ T3
  rw [n3] at l3
  have b3 := bytes_ok T3
  rw [w3] at b3
  have l5 := len_ok_ T5
  rw [(cn_of e5).trans (show ((List.length [([99], [])] : Nat) : Int) = 1 by rfl)] at l5
  have ck := rank_ok T3 [98] (by omega) 1 ((Tr.rank_toL g3.srt).trans (by rw [e3]; kernel_rfl))
  have l0 := zw (len_ok_ .nil)
  have d0 := zw (depth_ok .nil)
  have d3 := depth_ok T3
  rw [hd] at d3
  have q1 := zw (tput_ok (t := .nil) (k := [98]) (v := [119]) ⟨by decide, by decide⟩)
  obtain ⟨g6, e6⟩ := Tr.good_nil.put [98] [119]
  generalize Tr.put [98] [119] .nil = T6 at q1 g6 e6
  have e6 : T6.toL = [([98], [119])] := e6.trans (by kernel_rfl)
  have q2 := tput_ok (t := T6) (k := [97]) (v := [121, 122]) ⟨by rw [cn_of e6]; decide, by rw [wt_of e6]; decide⟩
  obtain ⟨g7, e7⟩ := g6.put [97] [121, 122]
  generalize Tr.put [97] [121, 122] T6 = T7 at q2 g7 e7
  have e7 : T7.toL = [([97], [121, 122]), ([98], [119])] := e7.trans (by rw [e6]; kernel_rfl)
  have s1 := same_ok g3 g7 (by rw [e3]; decide) (by rw [e3]; decide)
  rw [e3, e7] at s1
  have s2 := same_ok g3 g5 (by rw [e3]; decide) (by rw [e3]; decide)
  rw [e3, e5] at s2
  exact awake14_walk T1 T2 T3 T4 T5 T6 T7 c1 c2 c3 ca cg cd cp ct l3 b3 l5 ck l0 d0 d3 q1 q2 s1 s2
end Go.Proofs.Ytdicpbecdhaphaa.Av
