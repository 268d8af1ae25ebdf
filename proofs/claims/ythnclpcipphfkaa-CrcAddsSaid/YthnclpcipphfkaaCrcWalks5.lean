/- The rules of crc, walked, on: twice, Skip, Join. -/
import Derived.Test.YthnclpcipphfkaaCrcWalks4
namespace Go.Proofs.Ythnclpcipphfkaa
open Go.RowKit

set_option maxHeartbeats 400000 in
theorem twice_any (f : Nat → BitVec 32) (w : World) :
    Calls Try.prog 25 #[.agg (Crc.cellsOf f)] w fun e w' => e = .returned (.agg (Crc.cellsOf fun i => Crc.ofN f (f i) 32)) ∧ Below w.heap.size w w' := by
  obtain ⟨i0, hi0, hsz⟩ : ∃ i0, Try.prog.info? 22 = some i0 ∧ i0.size = 1 := by
    have h : (Try.prog.info? 22).map (·.size) = some 1 := by kernel_rfl
    cases hq : Try.prog.info? 22 with
    | none => rw [hq] at h; cases h
    | some i => rw [hq] at h; exact ⟨i, rfl, by simpa using h⟩
  have hix : ∀ k : Nat, k < 32 → ∀ W, (Instr.index 49 (.agg (Crc.cellsOf f)) (.int .i64 (k : Int))).run Try.prog W = .ok (.int .u32 (f k).toNat) W := fun k hk W =>
    run_index_agg W _ _ 32 _ .i64 k _ i0 _ Try.underlying49 hk hi0 hsz Try.underlying22 rfl (by rw [Crc.cellsOf, Crc.cellsTo_at f 32 k hk, if_pos hk])
  have HIX := Lib.hid hix; clear hix hi0 hsz
  go_enter Try.func25, Try.ntmps25
  have hb0 := ((Blk.new w 49 (Crc.cellsOf f)).alloc (.cells Crc.zeros 49)).alloc (.cells Crc.zeros 49)
  go_wp2_with (refine wpList_load_row rfl 49 _ rfl w.heap.size rfl 49 _ (0, 0) _ hb0.at_ Try.underlying49 rfl (by rw [Crc.cellsOf, Crc.cellsTo_size]; exact info49) ?_)
  go_loopw [7] (fun i wr => ∃ k : Nat, k ≤ 32 ∧ i = .int .i64 k ∧ Below w.heap.size w wr ∧ Blk wr w.heap.size 49 (Crc.cellsOf f) ∧ Blk wr (w.heap.size + 1) 49 Crc.zeros ∧ Blk wr (w.heap.size + 1 + 1) 49 (Crc.cellsTo (fun i => Crc.ofN f (f i) 32) k)) (fun i _ => 32 - (intOf i).toNat)
  case atStart =>
    refine ⟨0, by omega, rfl, (((Below.refl _ _).alloc (Nat.le_refl _) _).alloc (by simp) _).alloc (by simp; omega) _, hb0, (Blk.new2 w _ _ _).alloc _, ?_⟩
    have h := Blk.new2 (w.alloc (.cells (Crc.cellsOf f) 49)) (.cells Crc.zeros 49) 49 (Crc.cellsTo (fun i => Crc.ofN f (f i) 32) 0)
    rw [World.size_alloc] at h
    exact h
  case round =>
    clear hb0
    obtain ⟨k, hk, rfl, hb, h0, h1, h2⟩ := hrel
    by_cases hlt : k < 32
    · have hg := h0.at_
      have hlt2 := h2.lt
      have HB := Lib.hid (And.intro hb (And.intro h0 (And.intro h1 h2)))
      clear hb h0 h1 h2
      have hi1 := HIX.out k hlt
      have hnew : ∀ w1, Below wr.heap.size wr w1 → w1.cell? ⟨w.heap.size + 1 + 1, k, none⟩ = some (.int .u32 (0 : Nat)) ∧ w1.frozen? ⟨w.heap.size + 1 + 1, k, none⟩ = false ∧
          (∀ v, v = Value.int .u32 (Crc.ofN f (f k) 32).toNat → Below w.heap.size w (w1.setCell ⟨w.heap.size + 1 + 1, k, none⟩ v) ∧ Blk (w1.setCell ⟨w.heap.size + 1 + 1, k, none⟩ v) w.heap.size 49 (Crc.cellsOf f) ∧
            Blk (w1.setCell ⟨w.heap.size + 1 + 1, k, none⟩ v) (w.heap.size + 1) 49 Crc.zeros ∧ Blk (w1.setCell ⟨w.heap.size + 1 + 1, k, none⟩ v) (w.heap.size + 1 + 1) 49 (Crc.cellsTo (fun i => Crc.ofN f (f i) 32) (k + 1))) := by
        intro w1 hb1
        obtain ⟨hb, h0, h1, h2⟩ := HB.out
        have h2' := h2.below hb1 (by omega)
        have hc := h2'.cell k
        rw [Crc.cellsTo_at _ _ _ hlt, if_neg (by omega)] at hc
        refine ⟨hc, h2'.frozen k, ?_⟩
        rintro v rfl
        have h3 := h2'.set k (.int .u32 (Crc.ofN f (f k) 32).toNat)
        rw [Crc.cellsTo_set (fun i => Crc.ofN f (f i) 32) k hlt] at h3
        exact ⟨(hb.trans (hb1.mono hb.size)).setCell (by simp; omega) _, (h0.below hb1 (by omega)).far (by simp; omega) _, (h1.below hb1 (by omega)).far (by simp) _, h3⟩
      have HN := Lib.hid hnew; clear hnew
      go_wp2_with (first
        | (refine wpList_load_row rfl 49 _ rfl w.heap.size rfl 49 _ (0, 0) _ hg Try.underlying49 rfl (by rw [Crc.cellsOf, Crc.cellsTo_size]; exact info49) ?_)
        | (go_at_call 24; refine (of_any f (f k) wr).mono ?_; rintro e w1 ⟨rfl, hb1⟩; clear hg; have hcc := (HN.out w1 hb1).1; have hff := (HN.out w1 hb1).2.1; have HL := Lib.hid ((HN.out w1 hb1).2.2 _ rfl)))
      go_roundw
      case rel => exact ⟨k + 1, by omega, by go_num, HL.out⟩
      case measure => simp [intOf]; omega
    · obtain rfl : k = 32 := by omega
      have HB := Lib.hid hb; clear hb
      go_wp2_with (first
        | (refine wpList_load_row rfl 49 _ rfl (w.heap.size + 1 + 1) rfl 49 _ (0, 0) _ h2.at_ Try.underlying49 rfl (by rw [Crc.cellsTo_size]; exact info49) ?_)
        | (refine wpList_store_row rfl 49 _ _ rfl (w.heap.size + 1) _ rfl rfl 49 _ h1.at_ (by rw [Crc.cellsTo_size]; exact info49) (by rw [Crc.cellsTo_size]; rfl) (Crc.cellsOf_one _ _) ?_))
      exact bodyPost_ret (results_cell_row rfl _ _ (w.heap.size + 1) 49 _ (0, 0) _ rfl (h1.setRow _).at_ Try.underlying49 rfl (by rw [Crc.cellsTo_size]; exact info49)) rfl ⟨rfl, below_setRow HB.out (by omega) _⟩

namespace Crc
/-- What the loop of Skip keeps: x is to be fed z times m noughts yet; f is the rule of m noughts. -/
def SkipRel (r : BitVec 32) (n : Nat) (x : BitVec 32) (z : Int) (m : Nat) (f : Nat → BitVec 32) : Prop :=
  skip x (z.toNat * m) = skip r n ∧ ∀ i, i < 32 → f i = skip (1#32 <<< i) m
theorem SkipRel.start (r : BitVec 32) (n : Int) : SkipRel r n.toNat r n 1 (fun i => skip (1#32 <<< i) 1) :=
  ⟨by rw [Nat.mul_one], fun _ _ => rfl⟩
theorem SkipRel.even {r : BitVec 32} {n : Nat} {x : BitVec 32} {z : Int} {m : Nat} {f : Nat → BitVec 32} (h : SkipRel r n x z m f) (h0 : 0 < z) (h2 : (z % 2 == 1) = false) :
    SkipRel r n x (z / 2) (m + m) (fun i => ofN f (f i) 32) := by
  have e : z % 2 = 0 := by have : ¬ z % 2 = 1 := by simpa using h2
                           omega
  refine ⟨?_, fun i hi => ?_⟩
  · have e1 : (z / 2).toNat * (m + m) = z.toNat * m := by
      have : z.toNat = 2 * (z / 2).toNat := by omega
      rw [this, ← Nat.mul_two, Nat.mul_comm 2, Nat.mul_assoc, Nat.mul_comm 2 m]
    rw [e1]; exact h.1
  · show ofN f (f i) 32 = _
    rw [ofN_skip m f h.2, h.2 i hi, skip_add]
theorem SkipRel.odd {r : BitVec 32} {n : Nat} {x : BitVec 32} {z : Int} {m : Nat} {f : Nat → BitVec 32} (h : SkipRel r n x z m f) (h0 : 0 < z) (h2 : (z % 2 == 1) = true) :
    SkipRel r n (ofN f x 32) (z / 2) (m + m) (fun i => ofN f (f i) 32) := by
  have e : z % 2 = 1 := by simpa using h2
  refine ⟨?_, fun i hi => ?_⟩
  · have e1 : m + (z / 2).toNat * (m + m) = z.toNat * m := by
      have : z.toNat = 2 * (z / 2).toNat + 1 := by omega
      rw [this, Nat.add_mul, Nat.one_mul, ← Nat.mul_two, Nat.mul_comm 2, Nat.mul_assoc, Nat.mul_comm 2 m]; omega
    rw [ofN_skip m f h.2, skip_add, e1]; exact h.1
  · show ofN f (f i) 32 = _
    rw [ofN_skip m f h.2, h.2 i hi, skip_add]
theorem SkipRel.done {r : BitVec 32} {n : Nat} {x : BitVec 32} {z : Int} {m : Nat} {f : Nat → BitVec 32} (h : SkipRel r n x z m f) (h0 : ¬ 0 < z) : x = skip r n := by
  have : z.toNat = 0 := by omega
  have h1 := h.1
  rw [this, Nat.zero_mul] at h1
  exact h1
end Crc

set_option maxHeartbeats 1000000 in
theorem skip_any (r : BitVec 32) (n : Int) (hn : n ≤ 1048576) (w : World) :
    Calls Try.prog 15 #[.int .u32 r.toNat, .int .i64 n] w fun e w' => e = .returned (.int .u32 (Crc.skip r n.toNat).toNat) ∧ Below w.heap.size w w' := by
  go_enter Try.func15, Try.ntmps15
  go_wp2_with fail
  refine (one_any w).mono ?_
  rintro e w1 ⟨rfl, hb1⟩
  have hz : w.heap.size ≤ w1.heap.size := hb1.size
  have hb0 := Blk.new w1 49 Crc.zeros
  go_wp2_with (refine wpList_store_row rfl 49 _ _ rfl w1.heap.size _ rfl rfl 49 _ hb0.at_ (by rw [Crc.cellsOf, Crc.cellsTo_size]; exact info49) (by rw [Crc.cellsOf, Crc.cellsTo_size]; rfl) (Crc.cellsOf_one _ _) ?_)
  have HB := Lib.hid (And.intro (hb0.setRow (Crc.cellsOf fun i => Crc.skip (1#32 <<< i) 1)) (below_setRow (hb1.alloc hz (.cells Crc.zeros 49)) hz (Crc.cellsOf fun i => Crc.skip (1#32 <<< i) 1)))
  clear hb0 hb1
  generalize hg1 : w1.heap.size = g at *
  clear hg1
  go_loopw [0, 6] (fun t i wr => ∃ (x : BitVec 32) (z : Int) (m : Nat) (f : Nat → BitVec 32), t = .int .u32 x.toNat ∧ i = .int .i64 z ∧ z ≤ n ∧ Crc.SkipRel r n.toNat x z m f ∧ Below w.heap.size w wr ∧ Blk wr g 49 (Crc.cellsOf f)) (fun _ i _ => (intOf i).toNat)
  case atStart => exact ⟨r, n, 1, _, rfl, rfl, Int.le_refl _, Crc.SkipRel.start r n, HB.out.2, HB.out.1⟩
  case round =>
    clear HB
    obtain ⟨x, z, m, f, rfl, rfl, hzn, hrel, hb, h0⟩ := hrel
    have HR := Lib.hid hrel; clear hrel
    by_cases hpos : 0 < z
    · have hg := h0.at_
      have hgl := h0.lt
      have HB := Lib.hid (And.intro hb h0); clear hb h0
      cases hodd : (z % 2 == 1)
      · go_wp2_with (first
          | (refine wpList_load_row rfl 49 _ rfl g rfl 49 _ (0, 0) _ hg Try.underlying49 rfl (by rw [Crc.cellsOf, Crc.cellsTo_size]; exact info49) ?_)
          | (go_at_call 25; refine (twice_any f wr).mono ?_; rintro e w2 ⟨rfl, hb2⟩; clear hg; have h2 := HB.out.2.below hb2 hgl)
          | (refine wpList_store_row rfl 49 _ _ rfl g _ rfl rfl 49 _ h2.at_ (by rw [Crc.cellsOf, Crc.cellsTo_size]; exact info49) (by rw [Crc.cellsOf, Crc.cellsOf, Crc.cellsTo_size, Crc.cellsTo_size]) (Crc.cellsOf_one _ _) ?_))
        go_roundw
        case rel => exact ⟨x, z / 2, m + m, _, rfl, by go_num, by omega, HR.out.even hpos hodd, below_setRow (HB.out.1.trans (hb2.mono HB.out.1.size)) hz _, h2.setRow _⟩
        case measure => simp [intOf]; omega
      · go_wp2_with (first
          | (refine wpList_load_row rfl 49 _ rfl g rfl 49 _ (0, 0) _ hg Try.underlying49 rfl (by rw [Crc.cellsOf, Crc.cellsTo_size]; exact info49) ?_)
          | (refine wpList_load_row rfl 49 _ rfl g rfl 49 _ (0, 0) _ hg1 Try.underlying49 rfl (by rw [Crc.cellsOf, Crc.cellsTo_size]; exact info49) ?_)
          | (go_at_call 24; refine (of_any f x wr).mono ?_; rintro e w2 ⟨rfl, hb2⟩; clear hg; have hg1 := (HB.out.2.below hb2 hgl).at_)
          | (go_at_call 25; refine (twice_any f w2).mono ?_; rintro e w3 ⟨rfl, hb3⟩; clear hg1; have h2 := (HB.out.2.below hb2 hgl).below hb3 (Nat.lt_of_lt_of_le hgl hb2.size))
          | (refine wpList_store_row rfl 49 _ _ rfl g _ rfl rfl 49 _ h2.at_ (by rw [Crc.cellsOf, Crc.cellsTo_size]; exact info49) (by rw [Crc.cellsOf, Crc.cellsOf, Crc.cellsTo_size, Crc.cellsTo_size]) (Crc.cellsOf_one _ _) ?_))
        go_roundw
        case rel => exact ⟨_, z / 2, m + m, _, rfl, by go_num, by omega, HR.out.odd hpos hodd, below_setRow ((HB.out.1.trans (hb2.mono HB.out.1.size)).trans (hb3.mono (Nat.le_trans HB.out.1.size hb2.size))) hz _, h2.setRow _⟩
        case measure => simp [intOf]; omega
    · have HB := Lib.hid hb; clear hb
      go_wp2
      go_ret
      exact ⟨ret_of (by rw [HR.out.done (by omega)]), HB.out⟩

set_option maxHeartbeats 400000 in
theorem join_any (a b : BitVec 32) (n : Int) (hn : n ≤ 1048576) (w : World) :
    Calls Try.prog 21 #[.int .u32 a.toNat, .int .u32 b.toNat, .int .i64 n] w fun e w' => e = .returned (.int .u32 (Crc.skip a n.toNat ^^^ b).toNat) ∧ Below w.heap.size w w' := by
  go_enter Try.func21, Try.ntmps21
  go_wp2_with (go_at_call 15; refine (skip_any _ _ hn _).mono ?_; rintro e w1 ⟨rfl, hb1⟩)
  go_ret
  exact ⟨ret_of (Crc.int_xor _ _), hb1⟩
end Go.Proofs.Ythnclpcipphfkaa
