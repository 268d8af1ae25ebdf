/- cache: the law CacheDoes, walked. No conditions but those on lengths. -/
import Derived.Test.YtdjdcpbakeahcaaCach3
namespace Go.Proofs.Ytdjdcpbakeahcaa.Av.LruK
open Go Go.RowKit Pre
set_option linter.unusedVariables false
set_option linter.unusedSimpArgs false
set_option maxRecDepth 100000
set_option maxHeartbeats 8000000
abbrev chB2 (h ms : Int) : ABlk := ⟨[Z h, Z ms, .ptr 2 0], none, false, false⟩
abbrev rcB (m : Nat) (L : AV) (h ms : Int) : ABlk := ⟨[Z m, L, Z h, Z ms], none, false, true⟩
def CInv (m : Nat) (l : List OpK) (vs : List AV) (bl : List ABlk) : Prop :=
  ∃ (i : Nat) (xs : Xs) (L C : AV) (h ms : Int), i ≤ l.length ∧ CA m h ms xs L C ∧ NdX xs ∧ KB xs ∧ xs.length ≤ m ∧ (0 ≤ h ∧ h ≤ i) ∧ (0 ≤ ms ∧ ms ≤ i) ∧ (vs = [Z i, .ptr 0 0, .ptr 1 0, Z m, opA l] ∧ bl = [chB2 h ms, rcB m L h ms, Lr m xs])
theorem does_ok (n : Int) (l : List OpK) (hl : l.length ≤ 9223372036854775807) : SP 12 [Z n, opA l] (B true) := by
  have aw := awake_ok
  by_cases hO : OkL l
  · have co := over_ok l false ⟨fun _ => hO, fun _ => rfl⟩ hl
    by_cases hn : 0 ≤ n ∧ n ≤ 64
    · obtain ⟨m, rfl⟩ : ∃ m : Nat, n = m := ⟨n.toNat, by omega⟩
      have hm : m ≤ 64 := by omega
      have cn := cnew_yes m hm
      have cm := cmost_c m [] 0 0
      refine S_ Try.func12 (by kernel_rfl) rfl (Nat.le_of_ble_eq_true rfl) ?_
      show avc Try.prog SP _ _ _ _ _ _
      dsimp only [avc, startS, Array.toList, Try.f12]
      repeat' ((try conv => whnf) <;> (first | (refine Hold.mk ?_) | (refine And.intro (fun _ => ?_) (fun h => Bool.noConfusion h)) | (refine And.intro (fun h => Bool.noConfusion h) (fun _ => ?_)) | (refine And.intro (Nat.le_of_ble_eq_true rfl) ?_) | (refine And.intro (fun _ => ?_) (fun h => Bool.noConfusion ((beq_self_eq_true _).symm.trans h))) | (refine And.intro (fun h => Bool.noConfusion ((bne_self_eq_false _).symm.trans h)) (fun _ => ?_)) | (refine And.intro (fun h => Bool.noConfusion ((beq_self_eq_true _).symm.trans h)) (fun _ => ?_)) | (refine And.intro (fun _ => ?_) (fun h => Bool.noConfusion ((bne_self_eq_false _).symm.trans h))) | (refine And.intro (show inR _ from ⟨by omega, by omega⟩) ?_) | (refine ⟨_, co, ?_⟩) | (refine ⟨_, _, _, cn, ?_⟩) | (refine ⟨_, _, _, cm, ?_⟩) | (refine ⟨[], [0, 1, 0, 4, 12, 31, 63, 127, 127, 383, 1023, 2047, 4095, 8191, 8191, 24575, 65535, 131071, 262143, 524287, 1048575, 524287, 4194303, 8388607], Av.len_ok rfl (by kernel_rfl), ?_⟩) | (refine ⟨[], [0, 0, 2, 7, 0, 16, 48, 0, 240, 511], Eq.refl true, ?_⟩) | (refine ⟨[], [0, 0, 2, 7, 0, 0, 32, 96, 240, 511], Eq.refl true, ?_⟩) | (exact True.intro) | (refine And.intro (show eqT _ _ = true by kernel_rfl) ?_) | (refine And.intro rfl ?_) | (refine And.intro (And.intro (Nat.le_of_ble_eq_true rfl) rfl) ?_) | (refine And.intro (And.intro rfl rfl) ?_) | (refine And.intro (And.intro rfl (And.intro rfl rfl)) ?_) | (exact And.intro rfl (And.intro rfl rfl)) | (exact And.intro rfl rfl) | (refine br_lt ?_ ?_ <;> intro hBr <;> (first | (exfalso; omega) | (exfalso; contradiction) | (exfalso; exact hBr rfl) | skip)) | (refine br_lt_ ?_ ?_ <;> intro hBr <;> (first | (exfalso; omega) | (exfalso; contradiction) | (exfalso; exact hBr rfl) | skip)) | (refine br_le ?_ ?_ <;> intro hBr <;> (first | (exfalso; omega) | (exfalso; contradiction) | (exfalso; exact hBr rfl) | skip)) | (refine br_le_ ?_ ?_ <;> intro hBr <;> (first | (exfalso; omega) | (exfalso; contradiction) | (exfalso; exact hBr rfl) | skip)) | (refine br_eq ?_ ?_ <;> intro hBr <;> (first | (exfalso; omega) | (exfalso; contradiction) | (exfalso; exact hBr rfl) | skip)) | (refine br_eq_ ?_ ?_ <;> intro hBr <;> (first | (exfalso; omega) | (exfalso; contradiction) | (exfalso; exact hBr rfl) | skip)) | (refine br_seq ?_ ?_ <;> intro hBr <;> (first | (exfalso; omega) | (exfalso; contradiction) | (exfalso; exact hBr rfl) | skip)) | (refine br_seq_ ?_ ?_ <;> intro hBr <;> (first | (exfalso; omega) | (exfalso; contradiction) | (exfalso; exact hBr rfl) | skip)) | (refine br_not ?_) | (refine br_not_ ?_) | (refine br_and ?_) | (refine br_and_ ?_) | (refine And.intro (by omega) ?_) | (refine ⟨_, wrap_i64 (by omega), ?_⟩) | (refine ⟨_, wrap_u64 (by omega) (by omega), ?_⟩) | (refine ⟨_, wrap_u8 (by omega) (by omega), ?_⟩) | (refine ⟨_, wrap_u32 (by omega) (by omega), ?_⟩) | (refine ⟨_, wrap_u16 (by omega) (by omega), ?_⟩) | (refine ⟨_, rfl, ?_⟩) | (exact rfl)))
      refine ⟨[8, 5, 7, 0, 1], [], CInv m l, muI l.length, ?_, ?_⟩
      · exact ⟨0, [], nilA, _, 0, 0, Nat.zero_le _, .nil, by simp [NdX], fun _ h => by (cases h), Nat.zero_le _, ⟨by omega, by omega⟩, ⟨by omega, by omega⟩, rfl, rfl⟩
      rintro vs bl ⟨i, xs, L, C, h, ms, hi, hC, hd, hk, hlen, hh0, hm0, rfl, rfl⟩
      by_cases hlt : i < l.length
      · have h0 := opW hlt
        have hkey := hO.2 _ (List.getElem_mem hlt)
        have hl60 := hO.1
        have hdec : muI l.length [Z ((i : Int) + 1)] [] < muI l.length [Z i] [] := by show l.length - ((i : Int) + 1).toNat < l.length - (i : Int).toNat; omega
        have fin : ∀ (ys : Xs) (L C : AV) (h ms : Int), CA m h ms ys L C → NdX ys → KB ys → ys.length ≤ m → (0 ≤ h ∧ h ≤ i + 1) → (0 ≤ ms ∧ ms ≤ i + 1) → CInv m l [Z ((i : Int) + 1), .ptr 0 0, .ptr 1 0, Z m, opA l] [chB2 h ms, rcB m L h ms, Lr m ys] := fun ys L C h ms q0 q1 q2 q3 q4 q5 => ⟨i + 1, ys, L, C, h, ms, by omega, q0, q1, q2, q3, by omega, by omega, rfl, rfl⟩
        clear hO co cn cm
        generalize l[i] = o at h0 hkey
        obtain ⟨kd, k, t⟩ := o
        have hkey : k.length ≤ 60 ∧ t.length ≤ 60 := hkey
        -- note
        have n1 := cnote_c m xs h ms k t hlen
        have n2 := know_ok hC k t true hd (by omega) (by omega)
        have n3 := chits_c m (putX m xs k (t, true)) h ms
        have n4 := clen_c m (putX m xs k (t, true)) h ms
        have n5 := cmost_c m (putX m xs k (t, true)) h ms
        have n6 := fin (putX m xs k (t, true)) _ _ h ms (.row _) (nd_put hd) (kb_put (by omega) hk) (len_put hlen) (by omega) (by omega)
        -- miss
        have u1 := cmiss_c m xs h ms k hlen
        have u2 := know_ok hC k [] false hd (by omega) (by omega)
        have u3 := chits_c m (putX m xs k ([], false)) h ms
        have u4 := clen_c m (putX m xs k ([], false)) h ms
        have u5 := cmost_c m (putX m xs k ([], false)) h ms
        have u6 := fin (putX m xs k ([], false)) _ _ h ms (.row _) (nd_put hd) (kb_put (by omega) hk) (len_put hlen) (by omega) (by omega)
        -- forget
        have w1 := cforget_c m xs h ms k
        have w2 := forget_ok hC k hd (by omega)
        have hwl := len_wo xs k
        have w3 := chits_c m (wo xs k) h ms
        have w4 := clen_c m (wo xs k) h ms
        have w5 := cmost_c m (wo xs k) h ms
        have w6 := fin (wo xs k) _ _ h ms (.row _) (nd_wo hd) (kb_wo hk) (by omega) (by omega) (by omega)
        have w7 : (has xs k != decide (((wo xs k).length : Int) < (xs.length : Int))) = false := by
          cases e : has xs k with
          | true =>
            obtain ⟨a, b, e1, e2, _, _⟩ := has_split hd e
            have h1 := congrArg List.length e1
            have h2 := congrArg List.length e2
            simp only [List.length_append, List.length_cons] at h1 h2
            rw [decide_eq_true (by omega)]; rfl
          | false => rw [wo_none e, decide_eq_false (by omega)]; rfl
        -- under
        have d1 := cunder_c m xs h ms k (by omega) hd hk (by omega)
        have d2 := under_ok hC k (by omega) hk (by omega)
        have hdl := len_drop xs k
        have d3 := chits_c m (dropX xs k) h ms
        have d4 := clen_c m (dropX xs k) h ms
        have d5 := cmost_c m (dropX xs k) h ms
        have d6 := fin (dropX xs k) _ _ h ms (.row _) (nd_drop hd) (kb_drop hk) (by omega) (by omega) (by omega)
        have d7 : ((xs.length : Int) - ((dropX xs k).length : Int) != (xs.length : Int) - ((dropX xs k).length : Int)) = false := by simp
        -- purge
        have p1 := cpurge_c m xs h ms
        have p3 := chits_c m [] h ms
        have p4 := clen_c m [] h ms
        have p5 := cmost_c m [] h ms
        have p6 := fin [] _ _ h ms .nil (by simp [NdX]) (fun _ h => by (cases h)) (Nat.zero_le _) (by omega) (by omega)
        -- fork
        have f1 := cfork_c m xs h ms hlen
        have f3 := chits_c m xs h ms
        have f4 := clen_c m xs h ms
        have f5 := cmost_c m xs h ms
        have f6 := fin xs L C h ms hC hd hk hlen (by omega) (by omega)
        cases hb : has xs k with
        | false =>
          have l1 := clook_no m xs h ms k hb (by omega) (by omega)
          obtain ⟨C', hC', l2⟩ := look_no hC k hd (by omega) hb (by omega) (by omega)
          have l3 := chits_c m xs h (ms + 1)
          have l4 := clen_c m xs h (ms + 1)
          have l5 := cmost_c m xs h (ms + 1)
          have l6 := fin xs L C' h (ms + 1) hC' hd hk hlen (by omega) (by omega)
          rw [hb] at w1 w7
          have hs0 : (!((bs []).toList == (bs []).toList)) = false := by simp
          clear fin hb hd hk
          generalize putX m xs k (t, true) = A1 at *
          generalize putX m xs k ([], false) = A2 at *
          generalize wo xs k = A3 at *
          generalize dropX xs k = A4 at *
          cases hC
          all_goals
            cases hC'
            repeat' ((try conv => whnf) <;> (first | (refine Hold.mk ?_) | (refine And.intro (fun _ => ?_) (fun h => Bool.noConfusion h)) | (refine And.intro (fun h => Bool.noConfusion h) (fun _ => ?_)) | (refine And.intro (Nat.le_of_ble_eq_true rfl) ?_) | (refine And.intro (fun _ => ?_) (fun h => Bool.noConfusion ((beq_self_eq_true _).symm.trans h))) | (refine And.intro (fun h => Bool.noConfusion ((bne_self_eq_false _).symm.trans h)) (fun _ => ?_)) | (refine And.intro (fun h => Bool.noConfusion ((beq_self_eq_true _).symm.trans h)) (fun _ => ?_)) | (refine And.intro (fun _ => ?_) (fun h => Bool.noConfusion ((bne_self_eq_false _).symm.trans h))) | (refine And.intro (show inR _ from ⟨by omega, by omega⟩) ?_) | (refine ⟨_, h0, ?_⟩) | (refine ⟨_, _, _, n1, ?_⟩) | (refine ⟨_, n2, ?_⟩) | (refine ⟨_, _, _, n3, ?_⟩) | (refine ⟨_, _, _, n4, ?_⟩) | (refine ⟨_, _, _, n5, ?_⟩) | (refine ⟨_, _, _, u1, ?_⟩) | (refine ⟨_, u2, ?_⟩) | (refine ⟨_, _, _, u3, ?_⟩) | (refine ⟨_, _, _, u4, ?_⟩) | (refine ⟨_, _, _, u5, ?_⟩) | (refine ⟨_, _, _, w1, ?_⟩) | (refine ⟨_, w2, ?_⟩) | (refine ⟨_, _, _, w3, ?_⟩) | (refine ⟨_, _, _, w4, ?_⟩) | (refine ⟨_, _, _, w5, ?_⟩) | (refine ⟨_, _, _, d1, ?_⟩) | (refine ⟨_, d2, ?_⟩) | (refine ⟨_, _, _, d3, ?_⟩) | (refine ⟨_, _, _, d4, ?_⟩) | (refine ⟨_, _, _, d5, ?_⟩) | (refine ⟨_, _, _, p1, ?_⟩) | (refine ⟨_, _, _, p3, ?_⟩) | (refine ⟨_, _, _, p4, ?_⟩) | (refine ⟨_, _, _, p5, ?_⟩) | (refine ⟨_, _, _, f1, ?_⟩) | (refine ⟨_, _, _, f3, ?_⟩) | (refine ⟨_, _, _, f4, ?_⟩) | (refine ⟨_, _, _, f5, ?_⟩) | (refine ⟨_, _, _, l1, ?_⟩) | (refine ⟨_, l2, ?_⟩) | (refine ⟨_, _, _, l3, ?_⟩) | (refine ⟨_, _, _, l4, ?_⟩) | (refine ⟨_, _, _, l5, ?_⟩) | (refine br_f w7 ?_) | (refine br_f d7 ?_) | (refine br_fr hs0 ?_) | (exact ⟨n6, hdec⟩) | (exact ⟨u6, hdec⟩) | (exact ⟨w6, hdec⟩) | (exact ⟨d6, hdec⟩) | (exact ⟨p6, hdec⟩) | (exact ⟨f6, hdec⟩) | (exact ⟨l6, hdec⟩) | (refine ⟨[], [0, 1, 0, 4, 12, 31, 63, 127, 127, 383, 1023, 2047, 4095, 8191, 8191, 24575, 65535, 131071, 262143, 524287, 1048575, 524287, 4194303, 8388607], Av.len_ok rfl (by kernel_rfl), ?_⟩) | (refine ⟨[], [0, 0, 2, 7, 0, 16, 48, 0, 240, 511], Eq.refl true, ?_⟩) | (refine ⟨[], [0, 0, 2, 7, 0, 0, 32, 96, 240, 511], Eq.refl true, ?_⟩) | (exact True.intro) | (refine And.intro (show eqT _ _ = true by kernel_rfl) ?_) | (refine And.intro rfl ?_) | (refine And.intro (And.intro (Nat.le_of_ble_eq_true rfl) rfl) ?_) | (refine And.intro (And.intro rfl rfl) ?_) | (refine And.intro (And.intro rfl (And.intro rfl rfl)) ?_) | (exact And.intro rfl (And.intro rfl rfl)) | (exact And.intro rfl rfl) | (refine br_lt ?_ ?_ <;> intro hBr <;> (first | (exfalso; omega) | (exfalso; contradiction) | (exfalso; exact hBr rfl) | skip)) | (refine br_lt_ ?_ ?_ <;> intro hBr <;> (first | (exfalso; omega) | (exfalso; contradiction) | (exfalso; exact hBr rfl) | skip)) | (refine br_le ?_ ?_ <;> intro hBr <;> (first | (exfalso; omega) | (exfalso; contradiction) | (exfalso; exact hBr rfl) | skip)) | (refine br_le_ ?_ ?_ <;> intro hBr <;> (first | (exfalso; omega) | (exfalso; contradiction) | (exfalso; exact hBr rfl) | skip)) | (refine br_eq ?_ ?_ <;> intro hBr <;> (first | (exfalso; omega) | (exfalso; contradiction) | (exfalso; exact hBr rfl) | skip)) | (refine br_eq_ ?_ ?_ <;> intro hBr <;> (first | (exfalso; omega) | (exfalso; contradiction) | (exfalso; exact hBr rfl) | skip)) | (refine br_seq ?_ ?_ <;> intro hBr <;> (first | (exfalso; omega) | (exfalso; contradiction) | (exfalso; exact hBr rfl) | skip)) | (refine br_seq_ ?_ ?_ <;> intro hBr <;> (first | (exfalso; omega) | (exfalso; contradiction) | (exfalso; exact hBr rfl) | skip)) | (refine br_not ?_) | (refine br_not_ ?_) | (refine br_and ?_) | (refine br_and_ ?_) | (refine And.intro (by omega) ?_) | (refine ⟨_, wrap_i64 (by omega), ?_⟩) | (refine ⟨_, wrap_u64 (by omega) (by omega), ?_⟩) | (refine ⟨_, wrap_u8 (by omega) (by omega), ?_⟩) | (refine ⟨_, wrap_u32 (by omega) (by omega), ?_⟩) | (refine ⟨_, wrap_u16 (by omega) (by omega), ?_⟩) | (refine ⟨_, rfl, ?_⟩) | (exact rfl)))
        | true =>
          cases hC with
          | nil => cases hb
          | row =>
            have l1 := clook_yes m xs h ms k hb (by omega) (by omega)
            have l2 := look_yes (most := m) (h := h) (ms := ms) k hd (by omega) hb (by omega) (by omega)
            have l3 := chits_c m (getX xs k) (h + 1) ms
            have l4 := clen_c m (getX xs k) (h + 1) ms
            have l5 := cmost_c m (getX xs k) (h + 1) ms
            have l6 := fin (getX xs k) _ _ (h + 1) ms (.row _) (nd_get hd) (kb_get (by omega) hk) (by rw [len_get hd]; omega) (by omega) (by omega)
            rw [hb] at w1 w7
            clear fin hb hd hk
            generalize putX m xs k (t, true) = A1 at *
            generalize putX m xs k ([], false) = A2 at *
            generalize wo xs k = A3 at *
            generalize dropX xs k = A4 at *
            generalize getX xs k = A5 at *
            generalize val xs k = v at *
            obtain ⟨v1, v2⟩ := v
            have hs0 : (!((bs v1).toList == (bs v1).toList)) = false := by simp
            repeat' ((try conv => whnf) <;> (first | (refine Hold.mk ?_) | (refine And.intro (fun _ => ?_) (fun h => Bool.noConfusion h)) | (refine And.intro (fun h => Bool.noConfusion h) (fun _ => ?_)) | (refine And.intro (Nat.le_of_ble_eq_true rfl) ?_) | (refine And.intro (fun _ => ?_) (fun h => Bool.noConfusion ((beq_self_eq_true _).symm.trans h))) | (refine And.intro (fun h => Bool.noConfusion ((bne_self_eq_false _).symm.trans h)) (fun _ => ?_)) | (refine And.intro (fun h => Bool.noConfusion ((beq_self_eq_true _).symm.trans h)) (fun _ => ?_)) | (refine And.intro (fun _ => ?_) (fun h => Bool.noConfusion ((bne_self_eq_false _).symm.trans h))) | (refine And.intro (show inR _ from ⟨by omega, by omega⟩) ?_) | (refine ⟨_, h0, ?_⟩) | (refine ⟨_, _, _, n1, ?_⟩) | (refine ⟨_, n2, ?_⟩) | (refine ⟨_, _, _, n3, ?_⟩) | (refine ⟨_, _, _, n4, ?_⟩) | (refine ⟨_, _, _, n5, ?_⟩) | (refine ⟨_, _, _, u1, ?_⟩) | (refine ⟨_, u2, ?_⟩) | (refine ⟨_, _, _, u3, ?_⟩) | (refine ⟨_, _, _, u4, ?_⟩) | (refine ⟨_, _, _, u5, ?_⟩) | (refine ⟨_, _, _, w1, ?_⟩) | (refine ⟨_, w2, ?_⟩) | (refine ⟨_, _, _, w3, ?_⟩) | (refine ⟨_, _, _, w4, ?_⟩) | (refine ⟨_, _, _, w5, ?_⟩) | (refine ⟨_, _, _, d1, ?_⟩) | (refine ⟨_, d2, ?_⟩) | (refine ⟨_, _, _, d3, ?_⟩) | (refine ⟨_, _, _, d4, ?_⟩) | (refine ⟨_, _, _, d5, ?_⟩) | (refine ⟨_, _, _, p1, ?_⟩) | (refine ⟨_, _, _, p3, ?_⟩) | (refine ⟨_, _, _, p4, ?_⟩) | (refine ⟨_, _, _, p5, ?_⟩) | (refine ⟨_, _, _, f1, ?_⟩) | (refine ⟨_, _, _, f3, ?_⟩) | (refine ⟨_, _, _, f4, ?_⟩) | (refine ⟨_, _, _, f5, ?_⟩) | (refine ⟨_, _, _, l1, ?_⟩) | (refine ⟨_, l2, ?_⟩) | (refine ⟨_, _, _, l3, ?_⟩) | (refine ⟨_, _, _, l4, ?_⟩) | (refine ⟨_, _, _, l5, ?_⟩) | (refine br_f w7 ?_) | (refine br_f d7 ?_) | (refine br_fr hs0 ?_) | (exact ⟨n6, hdec⟩) | (exact ⟨u6, hdec⟩) | (exact ⟨w6, hdec⟩) | (exact ⟨d6, hdec⟩) | (exact ⟨p6, hdec⟩) | (exact ⟨f6, hdec⟩) | (exact ⟨l6, hdec⟩) | (refine ⟨[], [0, 1, 0, 4, 12, 31, 63, 127, 127, 383, 1023, 2047, 4095, 8191, 8191, 24575, 65535, 131071, 262143, 524287, 1048575, 524287, 4194303, 8388607], Av.len_ok rfl (by kernel_rfl), ?_⟩) | (refine ⟨[], [0, 0, 2, 7, 0, 16, 48, 0, 240, 511], Eq.refl true, ?_⟩) | (refine ⟨[], [0, 0, 2, 7, 0, 0, 32, 96, 240, 511], Eq.refl true, ?_⟩) | (exact True.intro) | (refine And.intro (show eqT _ _ = true by kernel_rfl) ?_) | (refine And.intro rfl ?_) | (refine And.intro (And.intro (Nat.le_of_ble_eq_true rfl) rfl) ?_) | (refine And.intro (And.intro rfl rfl) ?_) | (refine And.intro (And.intro rfl (And.intro rfl rfl)) ?_) | (exact And.intro rfl (And.intro rfl rfl)) | (exact And.intro rfl rfl) | (refine br_lt ?_ ?_ <;> intro hBr <;> (first | (exfalso; omega) | (exfalso; contradiction) | (exfalso; exact hBr rfl) | skip)) | (refine br_lt_ ?_ ?_ <;> intro hBr <;> (first | (exfalso; omega) | (exfalso; contradiction) | (exfalso; exact hBr rfl) | skip)) | (refine br_le ?_ ?_ <;> intro hBr <;> (first | (exfalso; omega) | (exfalso; contradiction) | (exfalso; exact hBr rfl) | skip)) | (refine br_le_ ?_ ?_ <;> intro hBr <;> (first | (exfalso; omega) | (exfalso; contradiction) | (exfalso; exact hBr rfl) | skip)) | (refine br_eq ?_ ?_ <;> intro hBr <;> (first | (exfalso; omega) | (exfalso; contradiction) | (exfalso; exact hBr rfl) | skip)) | (refine br_eq_ ?_ ?_ <;> intro hBr <;> (first | (exfalso; omega) | (exfalso; contradiction) | (exfalso; exact hBr rfl) | skip)) | (refine br_seq ?_ ?_ <;> intro hBr <;> (first | (exfalso; omega) | (exfalso; contradiction) | (exfalso; exact hBr rfl) | skip)) | (refine br_seq_ ?_ ?_ <;> intro hBr <;> (first | (exfalso; omega) | (exfalso; contradiction) | (exfalso; exact hBr rfl) | skip)) | (refine br_not ?_) | (refine br_not_ ?_) | (refine br_and ?_) | (refine br_and_ ?_) | (refine And.intro (by omega) ?_) | (refine ⟨_, wrap_i64 (by omega), ?_⟩) | (refine ⟨_, wrap_u64 (by omega) (by omega), ?_⟩) | (refine ⟨_, wrap_u8 (by omega) (by omega), ?_⟩) | (refine ⟨_, wrap_u32 (by omega) (by omega), ?_⟩) | (refine ⟨_, wrap_u16 (by omega) (by omega), ?_⟩) | (refine ⟨_, rfl, ?_⟩) | (exact rfl)))
      · obtain rfl : i = l.length := by omega
        repeat' ((try conv => whnf) <;> (first | (refine Hold.mk ?_) | (refine And.intro (fun _ => ?_) (fun h => Bool.noConfusion h)) | (refine And.intro (fun h => Bool.noConfusion h) (fun _ => ?_)) | (refine And.intro (Nat.le_of_ble_eq_true rfl) ?_) | (refine And.intro (fun _ => ?_) (fun h => Bool.noConfusion ((beq_self_eq_true _).symm.trans h))) | (refine And.intro (fun h => Bool.noConfusion ((bne_self_eq_false _).symm.trans h)) (fun _ => ?_)) | (refine And.intro (fun h => Bool.noConfusion ((beq_self_eq_true _).symm.trans h)) (fun _ => ?_)) | (refine And.intro (fun _ => ?_) (fun h => Bool.noConfusion ((bne_self_eq_false _).symm.trans h))) | (refine And.intro (show inR _ from ⟨by omega, by omega⟩) ?_) | (refine ⟨_, aw, ?_⟩) | (refine ⟨[], [0, 1, 0, 4, 12, 31, 63, 127, 127, 383, 1023, 2047, 4095, 8191, 8191, 24575, 65535, 131071, 262143, 524287, 1048575, 524287, 4194303, 8388607], Av.len_ok rfl (by kernel_rfl), ?_⟩) | (refine ⟨[], [0, 0, 2, 7, 0, 16, 48, 0, 240, 511], Eq.refl true, ?_⟩) | (refine ⟨[], [0, 0, 2, 7, 0, 0, 32, 96, 240, 511], Eq.refl true, ?_⟩) | (exact True.intro) | (refine And.intro (show eqT _ _ = true by kernel_rfl) ?_) | (refine And.intro rfl ?_) | (refine And.intro (And.intro (Nat.le_of_ble_eq_true rfl) rfl) ?_) | (refine And.intro (And.intro rfl rfl) ?_) | (refine And.intro (And.intro rfl (And.intro rfl rfl)) ?_) | (exact And.intro rfl (And.intro rfl rfl)) | (exact And.intro rfl rfl) | (refine br_lt ?_ ?_ <;> intro hBr <;> (first | (exfalso; omega) | (exfalso; contradiction) | (exfalso; exact hBr rfl) | skip)) | (refine br_lt_ ?_ ?_ <;> intro hBr <;> (first | (exfalso; omega) | (exfalso; contradiction) | (exfalso; exact hBr rfl) | skip)) | (refine br_le ?_ ?_ <;> intro hBr <;> (first | (exfalso; omega) | (exfalso; contradiction) | (exfalso; exact hBr rfl) | skip)) | (refine br_le_ ?_ ?_ <;> intro hBr <;> (first | (exfalso; omega) | (exfalso; contradiction) | (exfalso; exact hBr rfl) | skip)) | (refine br_eq ?_ ?_ <;> intro hBr <;> (first | (exfalso; omega) | (exfalso; contradiction) | (exfalso; exact hBr rfl) | skip)) | (refine br_eq_ ?_ ?_ <;> intro hBr <;> (first | (exfalso; omega) | (exfalso; contradiction) | (exfalso; exact hBr rfl) | skip)) | (refine br_seq ?_ ?_ <;> intro hBr <;> (first | (exfalso; omega) | (exfalso; contradiction) | (exfalso; exact hBr rfl) | skip)) | (refine br_seq_ ?_ ?_ <;> intro hBr <;> (first | (exfalso; omega) | (exfalso; contradiction) | (exfalso; exact hBr rfl) | skip)) | (refine br_not ?_) | (refine br_not_ ?_) | (refine br_and ?_) | (refine br_and_ ?_) | (refine And.intro (by omega) ?_) | (refine ⟨_, wrap_i64 (by omega), ?_⟩) | (refine ⟨_, wrap_u64 (by omega) (by omega), ?_⟩) | (refine ⟨_, wrap_u8 (by omega) (by omega), ?_⟩) | (refine ⟨_, wrap_u32 (by omega) (by omega), ?_⟩) | (refine ⟨_, wrap_u16 (by omega) (by omega), ?_⟩) | (refine ⟨_, rfl, ?_⟩) | (exact rfl)))
    · have cn := cnew_no n (by omega)
      refine S_ Try.func12 (by kernel_rfl) rfl (Nat.le_of_ble_eq_true rfl) ?_
      show avc Try.prog SP _ _ _ _ _ _
      dsimp only [avc, startS, Array.toList, Try.f12]
      repeat' ((try conv => whnf) <;> (first | (refine Hold.mk ?_) | (refine And.intro (fun _ => ?_) (fun h => Bool.noConfusion h)) | (refine And.intro (fun h => Bool.noConfusion h) (fun _ => ?_)) | (refine And.intro (Nat.le_of_ble_eq_true rfl) ?_) | (refine And.intro (fun _ => ?_) (fun h => Bool.noConfusion ((beq_self_eq_true _).symm.trans h))) | (refine And.intro (fun h => Bool.noConfusion ((bne_self_eq_false _).symm.trans h)) (fun _ => ?_)) | (refine And.intro (fun h => Bool.noConfusion ((beq_self_eq_true _).symm.trans h)) (fun _ => ?_)) | (refine And.intro (fun _ => ?_) (fun h => Bool.noConfusion ((bne_self_eq_false _).symm.trans h))) | (refine And.intro (show inR _ from ⟨by omega, by omega⟩) ?_) | (refine ⟨_, co, ?_⟩) | (refine ⟨_, _, _, cn, ?_⟩) | (refine ⟨_, aw, ?_⟩) | (refine ⟨[], [0, 1, 0, 4, 12, 31, 63, 127, 127, 383, 1023, 2047, 4095, 8191, 8191, 24575, 65535, 131071, 262143, 524287, 1048575, 524287, 4194303, 8388607], Av.len_ok rfl (by kernel_rfl), ?_⟩) | (refine ⟨[], [0, 0, 2, 7, 0, 16, 48, 0, 240, 511], Eq.refl true, ?_⟩) | (refine ⟨[], [0, 0, 2, 7, 0, 0, 32, 96, 240, 511], Eq.refl true, ?_⟩) | (exact True.intro) | (refine And.intro (show eqT _ _ = true by kernel_rfl) ?_) | (refine And.intro rfl ?_) | (refine And.intro (And.intro (Nat.le_of_ble_eq_true rfl) rfl) ?_) | (refine And.intro (And.intro rfl rfl) ?_) | (refine And.intro (And.intro rfl (And.intro rfl rfl)) ?_) | (exact And.intro rfl (And.intro rfl rfl)) | (exact And.intro rfl rfl) | (refine br_lt ?_ ?_ <;> intro hBr <;> (first | (exfalso; omega) | (exfalso; contradiction) | (exfalso; exact hBr rfl) | skip)) | (refine br_lt_ ?_ ?_ <;> intro hBr <;> (first | (exfalso; omega) | (exfalso; contradiction) | (exfalso; exact hBr rfl) | skip)) | (refine br_le ?_ ?_ <;> intro hBr <;> (first | (exfalso; omega) | (exfalso; contradiction) | (exfalso; exact hBr rfl) | skip)) | (refine br_le_ ?_ ?_ <;> intro hBr <;> (first | (exfalso; omega) | (exfalso; contradiction) | (exfalso; exact hBr rfl) | skip)) | (refine br_eq ?_ ?_ <;> intro hBr <;> (first | (exfalso; omega) | (exfalso; contradiction) | (exfalso; exact hBr rfl) | skip)) | (refine br_eq_ ?_ ?_ <;> intro hBr <;> (first | (exfalso; omega) | (exfalso; contradiction) | (exfalso; exact hBr rfl) | skip)) | (refine br_seq ?_ ?_ <;> intro hBr <;> (first | (exfalso; omega) | (exfalso; contradiction) | (exfalso; exact hBr rfl) | skip)) | (refine br_seq_ ?_ ?_ <;> intro hBr <;> (first | (exfalso; omega) | (exfalso; contradiction) | (exfalso; exact hBr rfl) | skip)) | (refine br_not ?_) | (refine br_not_ ?_) | (refine br_and ?_) | (refine br_and_ ?_) | (refine And.intro (by omega) ?_) | (refine ⟨_, wrap_i64 (by omega), ?_⟩) | (refine ⟨_, wrap_u64 (by omega) (by omega), ?_⟩) | (refine ⟨_, wrap_u8 (by omega) (by omega), ?_⟩) | (refine ⟨_, wrap_u32 (by omega) (by omega), ?_⟩) | (refine ⟨_, wrap_u16 (by omega) (by omega), ?_⟩) | (refine ⟨_, rfl, ?_⟩) | (exact rfl)))
  · have co := over_ok l true ⟨fun h => Bool.noConfusion h, fun h => absurd h hO⟩ hl
    refine S_ Try.func12 (by kernel_rfl) rfl (Nat.le_of_ble_eq_true rfl) ?_
    show avc Try.prog SP _ _ _ _ _ _
    dsimp only [avc, startS, Array.toList, Try.f12]
    repeat' ((try conv => whnf) <;> (first | (refine Hold.mk ?_) | (refine And.intro (fun _ => ?_) (fun h => Bool.noConfusion h)) | (refine And.intro (fun h => Bool.noConfusion h) (fun _ => ?_)) | (refine And.intro (Nat.le_of_ble_eq_true rfl) ?_) | (refine And.intro (fun _ => ?_) (fun h => Bool.noConfusion ((beq_self_eq_true _).symm.trans h))) | (refine And.intro (fun h => Bool.noConfusion ((bne_self_eq_false _).symm.trans h)) (fun _ => ?_)) | (refine And.intro (fun h => Bool.noConfusion ((beq_self_eq_true _).symm.trans h)) (fun _ => ?_)) | (refine And.intro (fun _ => ?_) (fun h => Bool.noConfusion ((bne_self_eq_false _).symm.trans h))) | (refine And.intro (show inR _ from ⟨by omega, by omega⟩) ?_) | (refine ⟨_, co, ?_⟩) | (refine ⟨_, aw, ?_⟩) | (refine ⟨[], [0, 1, 0, 4, 12, 31, 63, 127, 127, 383, 1023, 2047, 4095, 8191, 8191, 24575, 65535, 131071, 262143, 524287, 1048575, 524287, 4194303, 8388607], Av.len_ok rfl (by kernel_rfl), ?_⟩) | (refine ⟨[], [0, 0, 2, 7, 0, 16, 48, 0, 240, 511], Eq.refl true, ?_⟩) | (refine ⟨[], [0, 0, 2, 7, 0, 0, 32, 96, 240, 511], Eq.refl true, ?_⟩) | (exact True.intro) | (refine And.intro (show eqT _ _ = true by kernel_rfl) ?_) | (refine And.intro rfl ?_) | (refine And.intro (And.intro (Nat.le_of_ble_eq_true rfl) rfl) ?_) | (refine And.intro (And.intro rfl rfl) ?_) | (refine And.intro (And.intro rfl (And.intro rfl rfl)) ?_) | (exact And.intro rfl (And.intro rfl rfl)) | (exact And.intro rfl rfl) | (refine br_lt ?_ ?_ <;> intro hBr <;> (first | (exfalso; omega) | (exfalso; contradiction) | (exfalso; exact hBr rfl) | skip)) | (refine br_lt_ ?_ ?_ <;> intro hBr <;> (first | (exfalso; omega) | (exfalso; contradiction) | (exfalso; exact hBr rfl) | skip)) | (refine br_le ?_ ?_ <;> intro hBr <;> (first | (exfalso; omega) | (exfalso; contradiction) | (exfalso; exact hBr rfl) | skip)) | (refine br_le_ ?_ ?_ <;> intro hBr <;> (first | (exfalso; omega) | (exfalso; contradiction) | (exfalso; exact hBr rfl) | skip)) | (refine br_eq ?_ ?_ <;> intro hBr <;> (first | (exfalso; omega) | (exfalso; contradiction) | (exfalso; exact hBr rfl) | skip)) | (refine br_eq_ ?_ ?_ <;> intro hBr <;> (first | (exfalso; omega) | (exfalso; contradiction) | (exfalso; exact hBr rfl) | skip)) | (refine br_seq ?_ ?_ <;> intro hBr <;> (first | (exfalso; omega) | (exfalso; contradiction) | (exfalso; exact hBr rfl) | skip)) | (refine br_seq_ ?_ ?_ <;> intro hBr <;> (first | (exfalso; omega) | (exfalso; contradiction) | (exfalso; exact hBr rfl) | skip)) | (refine br_not ?_) | (refine br_not_ ?_) | (refine br_and ?_) | (refine br_and_ ?_) | (refine And.intro (by omega) ?_) | (refine ⟨_, wrap_i64 (by omega), ?_⟩) | (refine ⟨_, wrap_u64 (by omega) (by omega), ?_⟩) | (refine ⟨_, wrap_u8 (by omega) (by omega), ?_⟩) | (refine ⟨_, wrap_u32 (by omega) (by omega), ?_⟩) | (refine ⟨_, wrap_u16 (by omega) (by omega), ?_⟩) | (refine ⟨_, rfl, ?_⟩) | (exact rfl)))
end Go.Proofs.Ytdjdcpbakeahcaa.Av.LruK
