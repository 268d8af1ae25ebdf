/- The laws CrcParts, CrcTells and CrcAdds of crc, walked: whatever the input, they return true and write nothing that was there. No conditions but that a text is no longer than a text may be. -/
import Derived.Test.YthnclpcipphfkaaCrcAwake
import Derived.Test.YthnclpcipphfkaaOpen
import Derived.Test.YthnclpcipphfkaaBytes
import Derived.Deep.RegionHeld3
namespace Go.Proofs.Ythnclpcipphfkaa
open Go.RowKit

theorem join_sum (a b : List UInt8) (w : World) (hb : b.length ≤ 1048576) :
    Calls Try.prog 21 #[.int .u32 (Crc.sum a).toNat, .int .u32 (Crc.sum b).toNat, .int .i64 b.length] w fun e w' => e = .returned (.int .u32 (Crc.sum (a ++ b)).toNat) ∧ Below w.heap.size w w' := by
  rw [Crc.sum_append]
  exact join_any _ _ _ (by omega) w

set_option maxHeartbeats 400000 in
theorem crcParts_walk (a b : List UInt8) (cs : Array Value) (w : World) (hla : a.length ≤ 9223372036854775807) (hlb : b.length ≤ 9223372036854775807) (hcs : CellsOk [.int .u16, .int .u16] cs.toList) :
    Calls Try.prog 5 #[.string (bs a), .string (bs b), .agg cs] w fun e w' => e = .returned (.bool true) ∧ Below w.heap.size w w' := by
  obtain ⟨v0, r0, e0, ⟨n0, rfl, hn0⟩, hr0⟩ := hcs.cons_
  obtain ⟨v1, r1, rfl, ⟨n1, rfl, hn1⟩, hr1⟩ := hr0.cons_
  obtain rfl := hr1.empty_
  obtain rfl : cs = #[.int .u16 n0, .int .u16 n1] := by cases cs; simp_all
  have b0 := bounds_u16 hn0
  have b1 := bounds_u16 hn1
  clear hcs hr0 hr1 e0 hn0 hn1
  by_cases h1 : 300 < a.length
  · go_enter Try.func5, Try.ntmps5
    go_wp2_with (go_at_call 8; refine (awake_any _).mono ?_; rintro e w1 ⟨rfl, hb1⟩)
    go_ret
    exact ⟨rfl, (Below.refl _ _).alloc (Nat.le_refl _) _ |>.trans (hb1.mono (by simp))⟩
  · by_cases h2 : 300 < b.length
    · go_enter Try.func5, Try.ntmps5
      go_wp2_with (go_at_call 8; refine (awake_any _).mono ?_; rintro e w1 ⟨rfl, hb1⟩)
      go_ret
      exact ⟨rfl, (Below.refl _ _).alloc (Nat.le_refl _) _ |>.trans (hb1.mono (by simp))⟩
    · obtain ⟨x, hx, hx2⟩ : ∃ x : Nat, n0 % 2000 = x ∧ x < 2000 := ⟨(n0 % 2000).toNat, by omega, by omega⟩
      obtain ⟨y, hy, hy2⟩ : ∃ y : Nat, n1 % 2000 = y ∧ y < 2000 := ⟨(n1 % 2000).toNat, by omega, by omega⟩
      go_enter Try.func5, Try.ntmps5
      go_wp2_with fail
      go_quiet (fail)
      go_wp2_with fail
      have hb0 := below_drewN ((Below.refl w.heap.size w).alloc (Nat.le_refl _) (.cells #[.int .u16 n0, .int .u16 n1] 37)) nq
      generalize ((w.alloc (.cells #[.int .u16 n0, .int .u16 n1] 37)).drewN nq) = w0 at hb0 ⊢
      have HB := Lib.hid hb0; clear hb0 hx hy
      refine (sum_any _ _ (by omega)).mono ?_; rintro e w1 ⟨rfl, rfl⟩
      go_wp2_with fail
      refine (sum_any _ _ (by omega)).mono ?_; rintro e w1 ⟨rfl, rfl⟩
      go_wp2_with fail
      refine (join_sum _ _ _ (by omega)).mono ?_; rintro e w1 ⟨rfl, hb1⟩
      go_wp2_with fail
      refine (sum_any _ _ (by simp; omega)).mono ?_; rintro e w2 ⟨rfl, rfl⟩
      have E1 := Crc.feed_append 7#32 a b
      go_wp2_with fail
      refine (feed_any 7#32 _ _ (by omega)).mono ?_; rintro e w2 ⟨rfl, rfl⟩
      go_wp2_with fail
      refine (feed_any _ _ _ (by omega)).mono ?_; rintro e w2 ⟨rfl, rfl⟩
      go_wp2_with fail
      refine (feed_any 7#32 _ _ (by simp; omega)).mono ?_; rintro e w2 ⟨rfl, rfl⟩
      go_wp2_with fail
      clear E1
      refine (sum_any _ _ (by omega)).mono ?_; rintro e w2 ⟨rfl, rfl⟩
      generalize Crc.sum a = r
      go_wp2_with fail
      refine (skip_any _ _ (by omega) _).mono ?_; rintro e w2 ⟨rfl, hb2⟩
      have E2 := Crc.skip_add r x y
      have E3 : ((x : Int) + (y : Int)).toNat = x + y := by omega
      have E4 : Crc.skip r 0 = r := rfl
      go_wp2_with fail
      refine (skip_any _ _ (by omega) _).mono ?_; rintro e w3 ⟨rfl, hb3⟩
      go_wp2_with fail
      refine (skip_any _ _ (by omega) _).mono ?_; rintro e w4 ⟨rfl, hb4⟩
      go_wp2_with fail
      refine (skip_any _ 0 (by omega) _).mono ?_; rintro e w5 ⟨rfl, hb5⟩
      go_wp2_with fail
      refine (awake_any _).mono ?_; rintro e w6 ⟨rfl, hb6⟩
      go_wp2_with fail
      go_ret
      exact ⟨rfl, HB.out.trans ((below_chain (below_chain (below_chain (below_chain (below_chain hb1 hb2) hb3) hb4) hb5) hb6).mono HB.out.size)⟩

theorem tells_form (l : List UInt8) (i : Nat) (m : Int) (hm : 0 < m) (hm' : m < 256) (hi : i < (Crc.sealed l).length) :
    ∃ x : UInt8, bits .xor .u8 ((byteAt (Crc.sealed l) i).toNat : Int) m = (x.toNat : Int) ∧ Crc.opened ((Crc.sealed l).set i x) = ([], 10) := by
  obtain ⟨y, hy⟩ : ∃ y : UInt8, m = (y.toNat : Int) := ⟨UInt8.ofNat m.toNat, by rw [UInt8.toNat_ofNat_of_lt' (by show m.toNat < 256; omega)]; omega⟩
  subst hy
  refine ⟨byteAt (Crc.sealed l) i ^^^ y, ?_, Crc.opened_turned l i _ hi ?_⟩
  · rw [u8_xor_nat _ _ (UInt8.toNat_lt _) (UInt8.toNat_lt _), UInt8.toNat_xor]
  · rw [byteAt_lt hi]
    intro h
    have h2 := congrArg (fun t => (Crc.sealed l)[i] ^^^ t) h
    simp only [UInt8.xor_self, ← UInt8.xor_assoc, UInt8.zero_xor] at h2
    rw [← h2] at hm
    simp at hm

set_option maxHeartbeats 400000 in
theorem crcTells_walk (l : List UInt8) (at_ : Nat) (b : UInt8) (w : World) (hl : l.length ≤ 9223372036854775807) (hat : at_ < 65536) :
    Calls Try.prog 6 #[.string (bs l), .int .u16 at_, .int .u8 b.toNat] w fun e w' => e = .returned (.bool true) ∧ Below w.heap.size w w' := by
  by_cases h1 : 300 < l.length
  · go_enter Try.func6, Try.ntmps6
    go_wp2_with (go_at_call 8; refine (awake_any _).mono ?_; rintro e w1 ⟨rfl, hb1⟩)
    go_ret
    exact ⟨rfl, hb1⟩
  · have hsl := Crc.sealed_length l
    go_enter Try.func6, Try.ntmps6
    go_wp2_with fail
    refine (seal_any _ _ (by omega)).mono ?_; rintro e w1 ⟨rfl, hb1⟩
    have hop := Crc.opened_sealed l
    go_wp2_with fail
    refine (open_any _ _ (by omega)).mono ?_; rintro e w2 ⟨rfl, hb2⟩
    obtain ⟨w3, cap, hrun, hbuf, hb3, hz3, hcap⟩ := conv_bytes (P := Try.prog) w2 9 40 5 (Crc.sealed l) Try.underlying9 Try.underlying40 Try.underlying5
    generalize hg : w2.heap.size = g at *
    obtain ⟨i, hi, hil⟩ : ∃ i : Nat, (at_ : Int).tmod ((l.length : Int) + 4) = (i : Int) ∧ i < (Crc.sealed l).length := by
      refine ⟨at_ % (l.length + 4), ?_, by rw [hsl]; exact Nat.mod_lt _ (by omega)⟩
      rw [Int.tmod_eq_emod_of_nonneg (by omega)]; push_cast; rfl
    have hi' : (at_ : Int) % ((l.length : Int) + 4) = (i : Int) := by
      rw [← hi, Int.tmod_eq_emod_of_nonneg (by omega)]
    obtain ⟨x, hx, hopx⟩ := tells_form l i (1 + (b.toNat : Int) % 255) (by omega) (by omega) hil
    have hc := hbuf.cell hil
    have hf := hbuf.frozen hil
    have hset := hbuf.set x hil
    have hcv := hset.string (P := Try.prog) (src := 40) (dst := 9) Try.underlying40 Try.underlying5 Try.underlying9 cap
    rw [List.length_set, hsl] at hcv
    have hsl2 : ((Crc.sealed l).set i x).length ≤ 1048576 := by rw [List.length_set]; omega
    have HS := Lib.hid (And.intro hsl2 (hb3.setCell (p := ⟨g, i, none⟩) (Nat.le_refl _) (.int .u8 x.toNat))); clear hsl2 hset hbuf hb3
    have hgz : w.heap.size ≤ g := by have := hb1.size; have := hb2.size; omega
    have hgz3 : g ≤ w3.heap.size := by omega
    go_wp2_with fail
    refine (open_any _ _ HS.out.1).mono ?_; rintro e w4 ⟨rfl, hb4⟩
    go_wp2_with fail
    refine (awake_any _).mono ?_; rintro e w5 ⟨rfl, hb5⟩
    go_wp2_with fail
    go_ret
    have hb45 := below_chain hb4 hb5
    exact ⟨rfl, (hb1.trans ((hb2.mono hb1.size).trans (HS.out.2.mono hgz))).trans (hb45.mono (by simp [World.setCell]; omega))⟩

theorem keep_two {w0 W w1 : World} {p q : Addr} {v u : Value} (h : W.cell? p = some v ∧ W.cell? q = some u ∧ Below w0.heap.size w0 W) (hb : Below W.heap.size W w1) :
    w1.cell? p = some v ∧ w1.cell? q = some u ∧ Below w0.heap.size w0 w1 := ⟨keep_cell hb h.1, keep_cell hb h.2.1, below_chain h.2.2 hb⟩
/-- a list of which the first k bytes are told anew. -/
def mixTo (f : Nat → UInt8) (l : List UInt8) (k : Nat) : List UInt8 := l.mapIdx fun i x => if i < k then f i else x
theorem mixTo_zero (f : Nat → UInt8) (l : List UInt8) : mixTo f l 0 = l := by
  apply List.ext_getElem?; intro i; simp [mixTo]
theorem mixTo_length (f : Nat → UInt8) (l : List UInt8) (k : Nat) : (mixTo f l k).length = l.length := by simp [mixTo]
theorem mixTo_set (f : Nat → UInt8) (l : List UInt8) (k : Nat) : (mixTo f l k).set k (f k) = mixTo f l (k + 1) := by
  apply List.ext_getElem?
  intro i
  rw [List.getElem?_set]
  by_cases e : k = i
  · subst e
    by_cases hk : k < l.length
    · simp [mixTo, hk]
    · simp [mixTo, List.getElem?_eq_none (Nat.le_of_not_lt hk), hk]
  · have e1 : (i < k + 1) = (i < k) := by apply propext; omega
    simp [mixTo, e, e1]
theorem mixTo_at (f : Nat → UInt8) (l : List UInt8) (k i : Nat) (hi : i < l.length) : byteAt (mixTo f l k) i = if i < k then f i else byteAt l i := by
  rw [byteAt_lt (by rw [mixTo_length]; exact hi), byteAt_lt hi]
  simp [mixTo]
theorem mixTo_three (f g : Nat → UInt8) (l : List UInt8) :
    mixTo (fun i => byteAt l i ^^^ f i ^^^ g i) l l.length = List.zipWith (· ^^^ ·) (List.zipWith (· ^^^ ·) l (mixTo f l l.length)) (mixTo g l l.length) := by
  apply List.ext_getElem
  · simp [mixTo_length]
  · intro i h1 h2
    rw [mixTo_length] at h1
    simp only [mixTo, List.getElem_mapIdx, List.getElem_zipWith, if_pos h1]
    rw [byteAt_lt h1]

theorem byte_fun (F : Nat → Int) (h : ∀ i, 0 ≤ F i ∧ F i < 256) : ∃ f : Nat → UInt8, ∀ i, F i = ((f i).toNat : Int) :=
  ⟨fun i => UInt8.ofNat (F i).toNat, fun i => by
    have := h i
    rw [UInt8.toNat_ofNat_of_lt' (by show (F i).toNat < 256; omega)]; omega⟩

set_option maxHeartbeats 2000000 in
theorem crcAdds_walk (l : List UInt8) (cs ds : Array Value) (w : World) (hl : l.length ≤ 9223372036854775807) (hcs : CellsOk [.int .u32, .int .u32] cs.toList) (hds : CellsOk [.int .u64, .int .u64] ds.toList) :
    Calls Try.prog 7 #[.string (bs l), .agg cs, .agg ds] w fun e w' => e = .returned (.bool true) ∧ Below w.heap.size w w' := by
  obtain ⟨v0, r0, e0, ⟨n0, rfl, hn0⟩, hr0⟩ := hcs.cons_
  obtain ⟨v1, r1, rfl, ⟨n1, rfl, hn1⟩, hr1⟩ := hr0.cons_
  obtain rfl := hr1.empty_
  obtain rfl : cs = #[.int .u32 n0, .int .u32 n1] := by cases cs; simp_all
  obtain ⟨v2, r2, e2, ⟨k0, rfl, hk0⟩, hr2⟩ := hds.cons_
  obtain ⟨v3, r3, rfl, ⟨k1, rfl, hk1⟩, hr3⟩ := hr2.cons_
  obtain rfl := hr3.empty_
  obtain rfl : ds = #[.int .u64 k0, .int .u64 k1] := by cases ds; simp_all
  have b0 := bounds_u32 hn0
  have b1 := bounds_u32 hn1
  have b2 := bounds_u64 hk0
  have b3 := bounds_u64 hk1
  clear hcs hr0 hr1 e0 hn0 hn1 hds hr2 hr3 e2 hk0 hk1
  by_cases h1 : 200 < l.length
  · go_enter Try.func7, Try.ntmps7
    go_wp2_with (go_at_call 8; refine (awake_any _).mono ?_; rintro e w1 ⟨rfl, hb1⟩)
    go_ret
    exact ⟨rfl, (((Below.refl _ _).alloc (Nat.le_refl _) _).alloc (by simp) _).trans (hb1.mono (by simp; omega))⟩
  · generalize hw0 : (w.alloc (.cells #[.int .u32 n0, .int .u32 n1] 42)).alloc (.cells #[.int .u64 k0, .int .u64 k1] 44) = w0
    have hbel0 : Below w.heap.size w w0 := by rw [← hw0]; exact ((Below.refl _ _).alloc (Nat.le_refl _) _).alloc (by simp) _
    have hz0 : w0.heap.size = w.heap.size + 2 := by rw [← hw0]; simp
    have hr0 : Blk w0 w.heap.size 42 #[.int .u32 n0, .int .u32 n1] := by rw [← hw0]; exact (Blk.new w _ _).alloc _
    have hr1 : Blk w0 (w.heap.size + 1) 44 #[.int .u64 k0, .int .u64 k1] := by rw [← hw0]; exact Blk.new2 w _ _ _
    obtain ⟨w1, cap1, hrun1, hbuf1, hb1, hz1, hcap1⟩ := conv_bytes (P := Try.prog) w0 9 40 5 l Try.underlying9 Try.underlying40 Try.underlying5
    obtain ⟨w2, cap2, hrun2, hbuf2, hb2, hz2, hcap2⟩ := conv_bytes (P := Try.prog) w1 9 40 5 l Try.underlying9 Try.underlying40 Try.underlying5
    obtain ⟨w3, cap3, hrun3, hbuf3, hb3, hz3, hcap3⟩ := conv_bytes (P := Try.prog) w2 9 40 5 l Try.underlying9 Try.underlying40 Try.underlying5
    generalize hga : w0.heap.size = ga at *
    generalize hgb : w1.heap.size = gb at *
    generalize hgc : w2.heap.size = gc at *
    have i1 : w.heap.size + 1 < ga := by omega
    have i2 : ga < gb := by omega
    have i3 : gb < gc := by omega
    have F : (ByteBuf w3 ga 5 l ∧ ByteBuf w3 gb 5 l ∧ ByteBuf w3 gc 5 l) ∧ Blk w3 w.heap.size 42 #[.int .u32 n0, .int .u32 n1] ∧ Blk w3 (w.heap.size + 1) 44 #[.int .u64 k0, .int .u64 k1] ∧ Below w.heap.size w w3 := by
      exact ⟨⟨(hbuf1.below hb2 (by omega)).below hb3 (by omega), hbuf2.below hb3 (by omega), hbuf3⟩, ((hr0.below hb1 (by omega)).below hb2 (by omega)).below hb3 (by omega), ((hr1.below hb1 (by omega)).below hb2 (by omega)).below hb3 (by omega),
        ((hbel0.trans (hb1.mono (by omega))).trans (hb2.mono (by omega))).trans (hb3.mono (by omega))⟩
    have HF := Lib.hid F
    have HZ := Lib.hid (And.intro hz1 (And.intro hz2 hz3))
    clear F hbuf1 hbuf2 hbuf3 hb1 hb2 hb3 hz3 hz1 hz2 hbel0 hz0 hr0 hr1
    obtain ⟨fa, hfa⟩ := byte_fun (fun i => k0 / 2 ^ (8 * (i % 8)) % 256) (fun i => by omega)
    obtain ⟨fb, hfb⟩ := byte_fun (fun i => (k1 / 2 ^ (8 * (i % 8)) + (i : Int)) % 256) (fun i => by omega)
    have FA := Lib.hid hfa; clear hfa
    have FB := Lib.hid hfb; clear hfb
    go_enter Try.func7, Try.ntmps7
    go_wp2_with fail
    clear hrun1 hrun2 hrun3 hw0 hga hgb hgc
    go_loopw [10] (fun i wr => ∃ k : Nat, k ≤ l.length ∧ i = .int .i64 k ∧ Blk wr w.heap.size 42 #[.int .u32 n0, .int .u32 n1] ∧ Blk wr (w.heap.size + 1) 44 #[.int .u64 k0, .int .u64 k1] ∧ Below w.heap.size w wr ∧
      ByteBuf wr ga 5 (mixTo fa l k) ∧ ByteBuf wr gb 5 (mixTo fb l k) ∧ ByteBuf wr gc 5 (mixTo (fun i => byteAt l i ^^^ fa i ^^^ fb i) l k)) (fun i _ => l.length - (intOf i).toNat)
    case atStart => exact ⟨0, by omega, rfl, HF.out.2.1, HF.out.2.2.1, HF.out.2.2.2, by rw [mixTo_zero]; exact HF.out.1.1, by rw [mixTo_zero]; exact HF.out.1.2.1, by rw [mixTo_zero]; exact HF.out.1.2.2⟩
    case round =>
      clear HF
      obtain ⟨k, hk, rfl, hr0, hr1, hbel, ha, hb, hc⟩ := hrel
      by_cases hlt : k < l.length
      · have hc1 := hr1.cell 0
        have hc2 := hr1.cell 1
        simp at hc1 hc2
        have hca := ha.cell (j := k) (by rw [mixTo_length]; exact hlt)
        have hcb := hb.cell (j := k) (by rw [mixTo_length]; exact hlt)
        have hcc := hc.cell (j := k) (by rw [mixTo_length]; exact hlt)
        have hfa := ha.frozen (j := k) (by rw [mixTo_length]; exact hlt)
        have hfb := hb.frozen (j := k) (by rw [mixTo_length]; exact hlt)
        have hfc := hc.frozen (j := k) (by rw [mixTo_length]; exact hlt)
        obtain ⟨x, hx⟩ : ∃ x, x = fa k := ⟨_, rfl⟩
        obtain ⟨y, hy⟩ : ∃ y, y = fb k := ⟨_, rfl⟩
        obtain ⟨z, hz⟩ : ∃ z, z = byteAt l k ^^^ x := ⟨_, rfl⟩
        obtain ⟨u, hu⟩ : ∃ u, u = z ^^^ y := ⟨_, rfl⟩
        have ex := FA.out k
        have ey := FB.out k
        rw [← hx] at ex
        rw [← hy] at ey
        have ez : bits .xor .u8 ((byteAt l k).toNat : Int) (x.toNat : Int) = (z.toNat : Int) := by rw [u8_xor_nat _ _ (UInt8.toNat_lt _) (UInt8.toNat_lt _), hz, UInt8.toNat_xor]
        have eu : bits .xor .u8 (z.toNat : Int) (y.toNat : Int) = (u.toNat : Int) := by rw [u8_xor_nat _ _ (UInt8.toNat_lt _) (UInt8.toNat_lt _), hu, UInt8.toNat_xor]
        have H : ∀ wr', wr' = (((wr.setCell ⟨ga, k, none⟩ (.int .u8 x.toNat)).setCell ⟨gb, k, none⟩ (.int .u8 y.toNat)).setCell ⟨gc, k, none⟩ (.int .u8 u.toNat)).drew →
            Blk wr' w.heap.size 42 #[.int .u32 n0, .int .u32 n1] ∧ Blk wr' (w.heap.size + 1) 44 #[.int .u64 k0, .int .u64 k1] ∧ Below w.heap.size w wr' ∧
            ByteBuf wr' ga 5 (mixTo fa l (k + 1)) ∧ ByteBuf wr' gb 5 (mixTo fb l (k + 1)) ∧ ByteBuf wr' gc 5 (mixTo (fun i => byteAt l i ^^^ fa i ^^^ fb i) l (k + 1)) := by
          rintro wr' rfl
          refine ⟨(((hr0.far (by simp; omega) _).far (by simp; omega) _).far (by simp; omega) _), (((hr1.far (by simp; omega) _).far (by simp; omega) _).far (by simp; omega) _),
            (((hbel.setCell (p := ⟨ga, k, none⟩) (by simp; omega) _).setCell (p := ⟨gb, k, none⟩) (by simp; omega) _).setCell (p := ⟨gc, k, none⟩) (by simp; omega) _).drew, ?_, ?_, ?_⟩
          · have h := ((ha.set x (i := k) (by rw [mixTo_length]; exact hlt)).far (p := ⟨gb, k, none⟩) (by simp; omega) (.int .u8 y.toNat)).far (p := ⟨gc, k, none⟩) (by simp; omega) (.int .u8 u.toNat)
            rw [hx, mixTo_set] at h
            rw [hx]; exact h
          · have h := ((hb.far (p := ⟨ga, k, none⟩) (by simp; omega) (.int .u8 x.toNat)).set y (i := k) (by rw [mixTo_length]; exact hlt)).far (p := ⟨gc, k, none⟩) (by simp; omega) (.int .u8 u.toNat)
            rw [hy, mixTo_set] at h
            rw [hy]; exact h
          · have h := ((hc.far (p := ⟨ga, k, none⟩) (by simp; omega) (.int .u8 x.toNat)).far (p := ⟨gb, k, none⟩) (by simp; omega) (.int .u8 y.toNat)).set u (i := k) (by rw [mixTo_length]; exact hlt)
            have eu2 : u = (fun i => byteAt l i ^^^ fa i ^^^ fb i) k := by rw [hu, hz, hx, hy]
            rw [eu2, mixTo_set] at h
            rw [eu2]; exact h
        have HH := Lib.hid H
        clear H hr0 hr1 hbel ha hb hc hx hy hz hu
        go_wp2_with fail
        go_region
        go_wp2_with fail
        go_roundw
        case rel => exact ⟨k + 1, by omega, by go_num, HH.out _ rfl⟩
        case measure => simp [intOf]; omega
      · obtain rfl : k = l.length := by omega
        have hcv1 : ∀ n, (convert 40 9 (.slice (some ⟨ga, 0, none⟩) l.length cap1)).run Try.prog (wr.drewN n) = .ok (.string (bs (mixTo fa l l.length))) (wr.drewN n) := fun n => by
          have h := (ha.drewN n).string (P := Try.prog) (src := 40) (dst := 9) Try.underlying40 Try.underlying5 Try.underlying9 cap1
          rwa [mixTo_length] at h
        have hcv2 : ∀ n, (convert 40 9 (.slice (some ⟨gb, 0, none⟩) l.length cap2)).run Try.prog (wr.drewN n) = .ok (.string (bs (mixTo fb l l.length))) (wr.drewN n) := fun n => by
          have h := (hb.drewN n).string (P := Try.prog) (src := 40) (dst := 9) Try.underlying40 Try.underlying5 Try.underlying9 cap2
          rwa [mixTo_length] at h
        have hcv3 : ∀ n, (convert 40 9 (.slice (some ⟨gc, 0, none⟩) l.length cap3)).run Try.prog (wr.drewN n) = .ok (.string (bs (mixTo (fun i => byteAt l i ^^^ fa i ^^^ fb i) l l.length))) (wr.drewN n) := fun n => by
          have h := (hc.drewN n).string (P := Try.prog) (src := 40) (dst := 9) Try.underlying40 Try.underlying5 Try.underlying9 cap3
          rwa [mixTo_length] at h
        have hsum := Crc.sum_three l (mixTo fa l l.length) (mixTo fb l l.length) (mixTo_length _ _ _) (mixTo_length _ _ _)
        rw [← mixTo_three] at hsum
        have hA := mixTo_length fa l l.length
        have hB := mixTo_length fb l l.length
        have hC := mixTo_length (fun i => byteAt l i ^^^ fa i ^^^ fb i) l l.length
        generalize mixTo fa l l.length = A at *
        generalize mixTo fb l l.length = B at *
        generalize mixTo (fun i => byteAt l i ^^^ fa i ^^^ fb i) l l.length = C at *
        obtain ⟨r, hr⟩ : ∃ r, r = Crc.sum l ^^^ Crc.sum A := ⟨_, rfl⟩
        rw [← hr] at hsum
        have q1 : bits .xor .u32 ((Crc.sum l).toNat : Int) ((Crc.sum A).toNat : Int) = (r.toNat : Int) := by rw [Crc.int_xor, ← hr]
        have q2 : bits .xor .u32 (r.toNat : Int) ((Crc.sum B).toNat : Int) = ((Crc.sum C).toNat : Int) := by rw [Crc.int_xor, hsum]
        have HL := Lib.hid (And.intro hA (And.intro hB hC))
        clear hsum hr hA hB hC ha hb hc
        have hs : ∀ (L : List UInt8) n, L.length = l.length → Calls Try.prog 13 #[.string (bs L)] (wr.drewN n) fun e w' => e = .returned (.int .u32 (Crc.sum L).toNat) ∧ w' = wr.drewN n := fun L n hL =>
          (sum_any L _ (by omega)).mono fun _ _ ⟨h1, h2⟩ => ⟨h1, h2.symm⟩
        have HS := Lib.hid hs; clear hs
        go_wp2_with fail
        go_quiet ((go_at_call 13; first | exact Calls.quiet_of_same (HS.out l _ rfl) | exact Calls.quiet_of_same (HS.out A _ HL.out.1) | exact Calls.quiet_of_same (HS.out B _ HL.out.2.1) | exact Calls.quiet_of_same (HS.out C _ HL.out.2.2)))
        clear hcv1 hcv2 hcv3 q1 q2 HS hr1
        have hc0 : (wr.drewN nq).cell? ⟨w.heap.size, 0, none⟩ = some (.int .u32 n0) := hr0.cell 0
        have hc1 : (wr.drewN nq).cell? ⟨w.heap.size, 1, none⟩ = some (.int .u32 n1) := hr0.cell 1
        have hbq := below_drewN hbel nq
        clear hbel hr0
        generalize wr.drewN nq = wq at *
        obtain ⟨r0, hr0⟩ : ∃ r0 : BitVec 32, n0 = (r0.toNat : Int) := ⟨BitVec.ofNat 32 n0.toNat, by rw [BitVec.toNat_ofNat, Nat.mod_eq_of_lt (by omega)]; omega⟩
        obtain ⟨r1, hr1⟩ : ∃ r1 : BitVec 32, n1 = (r1.toNat : Int) := ⟨BitVec.ofNat 32 n1.toNat, by rw [BitVec.toNat_ofNat, Nat.mod_eq_of_lt (by omega)]; omega⟩
        subst hr0 hr1
        have hs : ∀ (x : BitVec 32) n, Calls Try.prog 9 #[.int .u32 x.toNat, .int .u8 9] (wq.drewN n) fun e w' => e = .returned (.int .u32 (Crc.step x 9).toNat) ∧ w' = wq.drewN n := fun x n =>
          (step_any x 9 _).mono fun _ _ ⟨h1, h2⟩ => ⟨h1, h2.symm⟩
        have HS := Lib.hid hs; clear hs
        go_wp2_with fail
        go_quiet ((go_at_call 9; exact Calls.quiet_of_same (HS.out _ _)))
        clear HS HL FA FB HZ b0 b1
        have hc0' : ((wq.drewN nq).cell? ⟨w.heap.size, 0, none⟩ = some (.int .u32 r0.toNat) ∧ (wq.drewN nq).cell? ⟨w.heap.size, 1, none⟩ = some (.int .u32 r1.toNat)) ∧ Below w.heap.size w (wq.drewN nq) := ⟨⟨hc0, hc1⟩, below_drewN hbq nq⟩
        clear hc0 hc1 hbq
        generalize wq.drewN nq = wz at *
        obtain ⟨⟨hc0, hc1⟩, hbz⟩ := hc0'
        have eqb : (((Crc.step r0 9).toNat : Int) == ((Crc.step r1 9).toNat : Int)) = ((r0.toNat : Int) == (r1.toNat : Int)) := by
          rw [Bool.eq_iff_iff, beq_iff_eq, beq_iff_eq]
          constructor
          · intro h
            have h2 : (Crc.step r0 9).toNat = (Crc.step r1 9).toNat := by omega
            rw [Crc.step_inj (BitVec.eq_of_toNat_eq h2)]
          · intro h
            have h2 : r0.toNat = r1.toNat := by omega
            rw [BitVec.eq_of_toNat_eq h2]
        obtain ⟨x, hx⟩ : ∃ x, x = r0 ^^^ r1 := ⟨_, rfl⟩
        have q1 : bits .xor .u32 (r0.toNat : Int) (r1.toNat : Int) = (x.toNat : Int) := by rw [Crc.int_xor, ← hx]
        have q2 : bits .xor .u32 ((Crc.skip r0 3).toNat : Int) ((Crc.skip r1 3).toNat : Int) = ((Crc.skip x 3).toNat : Int) := by rw [Crc.int_xor, hx, Crc.skip_xor]
        clear hx
        have hs : ∀ (x : BitVec 32) W, Calls Try.prog 15 #[.int .u32 x.toNat, .int .i64 3] W fun e w' => e = .returned (.int .u32 (Crc.skip x 3).toNat) ∧ Below W.heap.size W w' := fun x W => skip_any x 3 (by omega) W
        have HS := Lib.hid hs; clear hs
        go_wp2_with fail
        go_region_held3 (fun W => W.cell? ⟨w.heap.size, 0, none⟩ = some (.int .u32 r0.toNat) ∧ W.cell? ⟨w.heap.size, 1, none⟩ = some (.int .u32 r1.toNat) ∧ Below w.heap.size w W) ((first | assumption | exact ⟨hc0, hc1, hbz.drew⟩))
          (first
            | (go_at_call 15; refine (HS.out _ _).mono ?_; rintro e w1 ⟨rfl, hb1⟩; have kk : w1.cell? ⟨w.heap.size, 0, none⟩ = some (.int .u32 r0.toNat) ∧ w1.cell? ⟨w.heap.size, 1, none⟩ = some (.int .u32 r1.toNat) ∧ Below w.heap.size w w1 := keep_two (by assumption) hb1; clear hb1)
            | (go_at_call 8; refine (awake_any _).mono ?_; rintro e w1 ⟨rfl, hb1⟩; have kk : w1.cell? ⟨w.heap.size, 0, none⟩ = some (.int .u32 r0.toNat) ∧ w1.cell? ⟨w.heap.size, 1, none⟩ = some (.int .u32 r1.toNat) ∧ Below w.heap.size w w1 := keep_two (by assumption) hb1; clear hb1))
        have HK := Lib.hid kk
        clear kk
        go_wp2_with fail
        go_ret
        exact ⟨rfl, HK.out.2.2⟩
end Go.Proofs.Ythnclpcipphfkaa
