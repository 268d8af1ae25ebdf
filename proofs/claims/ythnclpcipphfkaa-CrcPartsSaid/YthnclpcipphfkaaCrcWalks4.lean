/- The rules of crc (32 numbers, an array by value), walked: one, of, twice, Skip, Join. -/
import Derived.Test.YthnclpcipphfkaaCrcWalks3
namespace Go.Proofs.Ythnclpcipphfkaa
open Go.RowKit

namespace Crc
/-- the cells of a rule of which the first k rows are laid. -/
def cellsTo (f : Nat → BitVec 32) (k : Nat) : Array Value := ((List.range 32).map fun i => Value.int .u32 (if i < k then (f i).toNat else 0 : Nat)).toArray
def cellsOf (f : Nat → BitVec 32) : Array Value := cellsTo f 32
theorem cellsTo_size (f : Nat → BitVec 32) (k : Nat) : (cellsTo f k).size = 32 := by simp [cellsTo]
theorem cellsTo_at (f : Nat → BitVec 32) (k i : Nat) (hi : i < 32) : (cellsTo f k)[i]? = some (.int .u32 (if i < k then (f i).toNat else 0 : Nat)) := by
  simp [cellsTo, hi]
theorem cellsTo_set (f : Nat → BitVec 32) (k : Nat) (hk : k < 32) : (cellsTo f k).setIfInBounds k (.int .u32 ((f k).toNat : Nat)) = cellsTo f (k + 1) := by
  apply Array.ext_getElem?
  intro i
  by_cases hi : i < 32
  · rw [cellsTo_at f (k + 1) i hi, Array.getElem?_setIfInBounds, cellsTo_at f k i hi, cellsTo_size]
    by_cases e : k = i
    · subst e; simp [hk]
    · have e1 : (i < k + 1) = (i < k) := by apply propext; omega
      simp [e, e1]
  · rw [Array.getElem?_eq_none (by simp [cellsTo_size]; omega), Array.getElem?_eq_none (by simp [cellsTo_size]; omega)]
def zeros : Array Value := #[.int .u32 0, .int .u32 0, .int .u32 0, .int .u32 0, .int .u32 0, .int .u32 0, .int .u32 0, .int .u32 0, .int .u32 0, .int .u32 0, .int .u32 0, .int .u32 0, .int .u32 0, .int .u32 0, .int .u32 0, .int .u32 0, .int .u32 0, .int .u32 0, .int .u32 0, .int .u32 0, .int .u32 0, .int .u32 0, .int .u32 0, .int .u32 0, .int .u32 0, .int .u32 0, .int .u32 0, .int .u32 0, .int .u32 0, .int .u32 0, .int .u32 0, .int .u32 0]
theorem cellsTo_zero (f : Nat → BitVec 32) : zeros = cellsTo f 0 := rfl
theorem cellsOf_one (f : Nat → BitVec 32) (k : Nat) : (cellsTo f k).all (·.oneCell') = true := by
  simp [cellsTo, Value.oneCell']
theorem int_shl (k : Nat) (_hk : k < 32) : (2 : Int) ^ k % 4294967296 = ((1#32 <<< k).toNat : Int) := by
  rw [BitVec.toNat_shiftLeft, Nat.shiftLeft_eq]
  simp
end Crc
theorem info49 : (Try.prog.info? 49).map (·.size) = some 32 := by kernel_rfl


set_option maxHeartbeats 400000 in
theorem one_any (w : World) :
    Calls Try.prog 23 #[] w fun e w' => e = .returned (.agg (Crc.cellsOf fun i => Crc.skip (1#32 <<< i) 1)) ∧ Below w.heap.size w w' := by
  go_enter Try.func23, Try.ntmps23
  go_wp2
  go_loopw [3] (fun i wr => ∃ k : Nat, k ≤ 32 ∧ i = .int .i64 k ∧ Below w.heap.size w wr ∧ Blk wr w.heap.size 49 Crc.zeros ∧ Blk wr (w.heap.size + 1) 49 (Crc.cellsTo (fun i => Crc.skip (1#32 <<< i) 1) k)) (fun i _ => 32 - (intOf i).toNat)
  case atStart =>
    exact ⟨0, by omega, rfl, ((Below.refl _ _).alloc (Nat.le_refl _) _).alloc (by simp) _, (Blk.new w _ _).alloc _, Blk.new2 w _ _ _⟩
  case round =>
    obtain ⟨k, hk, rfl, hb, h0, h1⟩ := hrel
    by_cases hlt : k < 32
    · have hc := h1.cell k
      rw [Crc.cellsTo_at _ _ _ hlt, if_neg (by omega)] at hc
      have hf := h1.frozen k
      have h2 := h1.set k (.int .u32 (Crc.skip (1#32 <<< k) 1).toNat)
      rw [Crc.cellsTo_set (fun i => Crc.skip (1#32 <<< i) 1) k hlt] at h2
      have h3 := h0.far (p := ⟨w.heap.size + 1, k, none⟩) (by simp) (.int .u32 (Crc.skip (1#32 <<< k) 1).toNat)
      have hb' := hb.setCell (p := ⟨w.heap.size + 1, k, none⟩) (by simp) (.int .u32 (Crc.skip (1#32 <<< k) 1).toNat)
      have HK := Lib.hid (And.intro h2 (And.intro h3 hb'))
      clear h2 h3 hb' h0 h1 hb
      have hs := step_any (1#32 <<< k) 0 wr
      rw [← Crc.int_shl k hlt] at hs
      have HS := Lib.hid hs; clear hs
      go_wp2_with (go_at_call 9; refine HS.out.mono ?_; rintro e w' ⟨rfl, rfl⟩)
      go_roundw
      case rel => exact ⟨k + 1, by omega, by go_num, HK.out.2.2, HK.out.2.1, HK.out.1⟩
      case measure => simp [intOf]; omega
    · obtain rfl : k = 32 := by omega
      have HB := Lib.hid hb; clear hb
      go_wp2_with (first
        | (refine wpList_load_row rfl 49 _ rfl (w.heap.size + 1) rfl 49 _ (0, 0) _ h1.at_ Try.underlying49 rfl (by rw [Crc.cellsTo_size]; exact info49) ?_)
        | (refine wpList_store_row rfl 49 _ _ rfl w.heap.size _ rfl rfl 49 _ h0.at_ (by rw [Crc.cellsTo_size]; exact info49) (by rw [Crc.cellsTo_size]; rfl) (Crc.cellsOf_one _ _) ?_))
      exact bodyPost_ret (results_cell_row rfl _ _ w.heap.size 49 _ (0, 0) _ rfl (h0.setRow _).at_ Try.underlying49 rfl (by rw [Crc.cellsTo_size]; exact info49)) rfl ⟨rfl, below_setRow HB.out (Nat.le_refl _) _⟩

namespace Crc
theorem shr_bit (r : BitVec 32) (k : Nat) (_hk : k < 32) : (r.toNat : Int) / 2 ^ k = ((r >>> k).toNat : Int) := by
  rw [BitVec.toNat_ushiftRight, Nat.shiftRight_eq_div_pow]; simp
theorem of_form (x y u r : BitVec 32) (k : Nat) (hk : k < 32) (h : y = x ^^^ (if r.getLsbD k then u else 0#32)) :
    bits .xor .u32 (x.toNat : Int) (bits .and .u32 (u.toNat : Int) (-bits .and .u32 ((r >>> k).toNat : Int) 1 % 4294967296)) = (y.toNat : Int) := by
  have h1 : bits .and .u32 ((r >>> k).toNat : Int) 1 = (((r >>> k) &&& 1#32).toNat : Int) := int_and _ 1#32
  rw [h1, int_neg, int_and, int_xor, mask, h]
  have e : (r >>> k).getLsbD 0 = r.getLsbD k := by rw [BitVec.getLsbD_ushiftRight]; rfl
  rw [e]
end Crc

set_option maxHeartbeats 400000 in
theorem of_any (f : Nat → BitVec 32) (r : BitVec 32) (w : World) :
    Calls Try.prog 24 #[.agg (Crc.cellsOf f), .int .u32 r.toNat] w fun e w' => e = .returned (.int .u32 (Crc.ofN f r 32).toNat) ∧ Below w.heap.size w w' := by
  obtain ⟨i0, hi0, hsz⟩ : ∃ i0, Try.prog.info? 22 = some i0 ∧ i0.size = 1 := by
    have h : (Try.prog.info? 22).map (·.size) = some 1 := by kernel_rfl
    cases hq : Try.prog.info? 22 with
    | none => rw [hq] at h; cases h
    | some i => rw [hq] at h; exact ⟨i, rfl, by simpa using h⟩
  have hix : ∀ k : Nat, k < 32 → ∀ W, (Instr.index 49 (.agg (Crc.cellsOf f)) (.int .i64 (k : Int))).run Try.prog W = .ok (.int .u32 (f k).toNat) W := fun k hk W =>
    run_index_agg W _ _ 32 _ .i64 k _ i0 _ Try.underlying49 hk hi0 hsz Try.underlying22 rfl (by rw [Crc.cellsOf, Crc.cellsTo_at f 32 k hk, if_pos hk])
  have HIX := Lib.hid hix; clear hix hi0 hsz
  go_enter Try.func24, Try.ntmps24
  have hb0 := Blk.new w 49 (Crc.cellsOf f)
  go_wp2_with (refine wpList_load_row rfl 49 _ rfl w.heap.size rfl 49 _ (0, 0) _ hb0.at_ Try.underlying49 rfl (by rw [Crc.cellsOf, Crc.cellsTo_size]; exact info49) ?_)
  have HB := Lib.hid (((Below.refl w.heap.size w).alloc (Nat.le_refl _) (.cells (Crc.cellsOf f) 49))); clear hb0
  go_loop [5, 9] (fun t i => ∃ k : Nat, k ≤ 32 ∧ i = .int .i64 k ∧ t = .int .u32 (Crc.ofN f r k).toNat) (fun _ i => 32 - (intOf i).toNat)
  case atStart => exact ⟨0, by omega, rfl, rfl⟩
  case round =>
    obtain ⟨k, hk, rfl, rfl⟩ := hrel
    by_cases hlt : k < 32
    · have hx : Crc.ofN f r (k + 1) = Crc.ofN f r k ^^^ (if r.getLsbD k then f k else 0#32) := rfl
      generalize Crc.ofN f r k = x at hx ⊢
      have HX := Lib.hid hx; clear hx
      have hi1 := HIX.out k hlt
      have hsr := Crc.shr_bit r k hlt
      go_wp2
      go_round
      case rel => exact ⟨k + 1, by omega, by go_num, val_of (Crc.of_form _ _ _ _ _ hlt HX.out)⟩
      case measure => simp [intOf]; omega
    · obtain rfl : k = 32 := by omega
      go_wp2
      go_ret
      exact ⟨rfl, HB.out⟩
end Go.Proofs.Ythnclpcipphfkaa
