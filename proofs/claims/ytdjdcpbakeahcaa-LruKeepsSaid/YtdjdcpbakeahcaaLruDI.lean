/- lru: Keys at values that are numbers, walked. No conditions but that lengths are what memory holds. -/
import Derived.Test.YtdjdcpbakeahcaaLruCI
import Derived.Test.YtdjdcpbakeahcaaVals
import Derived.LaidEqlPtr
namespace Go.Proofs.Ytdjdcpbakeahcaa.Av.LruI
open Go Go.RowKit
set_option linter.unusedVariables false
set_option linter.unusedSimpArgs false
set_option maxRecDepth 100000

section
variable {w : World} {g m h : Nat} {l1 l2 ls : List Lk} {l : Lk} {most : Int}
def lenOf : Value → Nat
  | .slice _ n _ => n
  | _ => 0
theorem LruAt_below {tk tL : TypeId} {zv : List Value} {w' : World} (A : LruAt tk tL zv w g m h ls most) (hb : Below w.heap.size w w') : LruAt tk tL zv w' g m h ls most :=
  A.same (hb.block _ (heap_lt A.hd)) fun x hx => hb.block _ (A.lt hx)
theorem info_link : ∃ j, Try.prog.info? tk = some j ∧ j.size ≠ 0 := ⟨_, rfl, by decide⟩
theorem neq_no (w : World) (a : Addr) : (binOp .neq 93 (.pointer (some a)) (.pointer (some a))).run Try.prog w = .ok (.bool false) w := by
  obtain ⟨j, hte, hsz⟩ := info_link
  have h : ∀ d : Nat, (Op.equalIn (d + 1) 93 (.pointer (some a)) (.pointer (some a))).run Try.prog w = .ok true w := fun d => by
    simp [Op.equalIn, run_underlying Try.underlying93, sizeOf, typeInfo, hte, run_sameAddr_same]
  simp only [binOp]
  simp [Op.equal, Op.maxDepth, h 9999]
theorem neq_yes (w : World) {a b : Addr} {ca cb : Array Value} {ta tb : TypeId} (hne : a ≠ b) (ha : w.heap[a.block]? = some (.cells ca ta (0, 0))) (hb : w.heap[b.block]? = some (.cells cb tb (0, 0))) : (binOp .neq 93 (.pointer (some a)) (.pointer (some b))).run Try.prog w = .ok (.bool true) w := by
  obtain ⟨j, hte, hsz⟩ := info_link
  have h : ∀ d : Nat, (Op.equalIn (d + 1) 93 (.pointer (some a)) (.pointer (some b))).run Try.prog w = .ok false w := fun d => by
    simp [Op.equalIn, run_underlying Try.underlying93, sizeOf, typeInfo, hte, hsz, run_sameAddr_other w hne ha hb]
  simp only [binOp]
  simp [Op.equal, Op.maxDepth, h 9999]
set_option maxHeartbeats 2000000 in
theorem keys_ok (A : LruI w g m h ls most) (hn : ls.length ≤ 1000) : Calls Try.prog 34 #[pnt g] w fun e w' => ∃ A' c', e = .returned (.slice A' ls.length c') ∧ OwnT w' w.heap.size A' ls.length c' (ls.map (·.k)) ∧ Below w.heap.size w w' := by
  obtain ⟨es, c, hm, ho⟩ := A.mp
  obtain ⟨g0, g1, g2, _⟩ := A.head
  have co := ok_any w g h g2
  have hln := run_len_map (P := Try.prog) w 9 93 m c es 92 3 Try.underlying92 hm
  have e1 : (es.size : Int) = ls.length := by
    have := ho.len
    simp only [Array.length_toList] at this
    rw [this]
  rw [e1] at hln
  obtain ⟨i, hi, hz0, hz1, hz2⟩ := info_parts infoT
  obtain ⟨wM, hmk, hown, hgr⟩ := run_make_own (P := Try.prog) w w.heap.size 40 9 i _ 1 Try.underlying40 hi hz0 hz1 .i64 .i64 ls.length (by rw [hz2]; omega) (by unfold maxLen; omega) (Nat.le_refl _)
  have hBM := grownT_below (OwnT.nil_ w w.heap.size) hgr (Nat.le_refl _)
  have hOM : OwnT wM w.heap.size (some ⟨w.heap.size, 0, none⟩) 0 ls.length [] := ⟨rfl, hown⟩
  have AM := LruAt_below A hBM
  obtain ⟨_, _, hf, _, _⟩ := AM.first.at
  have hf : wM.cell? ⟨h, 3, none⟩ = some (pnt (fstB ls h)) := hf
  obtain ⟨G0, G1, G2, _⟩ := AM.head
  have HA := Lib.hid (And.intro A (And.intro hBM hOM))
  clear hm ho A e1 hi hz0 hz1 hz2 hown hgr hBM hOM AM
  go_enter Try.func34, Try.ntmps34
  go_wp2_with fail
  refine co.mono ?_
  rintro e w1 ⟨rfl, rfl⟩
  go_wp2_with fail
  clear hmk hln co g0 g1 g2 G0 G1 G2 hf
  go_loopw [3, 4] (fun v x wr => ∃ (a r : List Lk) (A' : Option Addr) (c' : Nat), ls = a ++ r ∧ x = pnt (fstB r h) ∧ v = .slice A' a.length c' ∧ OwnT wr w.heap.size A' a.length c' (a.map (·.k)) ∧ Below w.heap.size w wr) (fun v _ _ => ls.length - lenOf v)
  case atStart => exact ⟨[], ls, _, _, rfl, rfl, rfl, HA.out.2.2, HA.out.2.1⟩
  case round =>
    obtain ⟨a, r, A', c', hl, rfl, rfl, hO, hB⟩ := hrel
    have AR := LruAt_below HA.out.1 hB
    obtain ⟨G0, G1, G2, _⟩ := AR.head
    have HR := Lib.hid (And.intro AR (And.intro hO hB))
    clear AR hO hB
    cases r with
    | nil =>
      have hq : (binOp .neq 93 (pnt (fstB [] h)) (pnt h)).run Try.prog wr = .ok (.bool false) wr := neq_no wr _
      go_wp2_with fail
      go_ret
      obtain ⟨_, hO, hB⟩ := HR.out
      rw [List.append_nil] at hl
      subst hl
      exact ⟨A', c', rfl, hO, hB⟩
    | cons y r =>
      have hyl : y ∈ ls := by rw [hl]; simp
      have AR := HR.out.1
      have hne : (⟨y.x, 0, none⟩ : Addr) ≠ ⟨h, 0, none⟩ := fun e => by
        injection e with e
        have hap : Apart ([(⟨h, [], zI⟩ : Lk)] ++ ls) := AR.apart
        exact ne_of_apart hap (List.mem_singleton.2 rfl) hyl e.symm
      obtain ⟨ya, yn, hN⟩ := AR.node (List.mem_cons_of_mem _ hyl)
      have hq : (binOp .neq 93 (pnt (fstB (y :: r) h)) (pnt h)).run Try.prog wr = .ok (.bool true) wr := neq_yes wr hne hN AR.first
      obtain ⟨k0, _, _, _, _⟩ := hN.at
      have k0 : wr.cell? ⟨fstB (y :: r) h, 0, none⟩ = some (.string (bs y.k)) := k0
      have hlen : a.length + 1 + r.length = ls.length := by rw [hl]; simp; omega
      have HLn := Lib.hid hlen
      have HL := Lib.hid hl
      clear hN AR hne hlen hl
      go_wp2_with (at_builtin; refine wpList_appT _ rfl _ _ rfl w.heap.size rfl (OwnT.alloc HR.out.2.1 _) rfl (RdT.one _ y.k) (by have := HLn.out; omega) (by have := HR.out.2.2.size; simp; omega) ?_)
      intro A2 c2 w2 ho2 hg2
      have hB2 : Below w.heap.size w w2 := (HR.out.2.2.alloc (HR.out.2.2.size) _).trans (grownT_below (OwnT.alloc HR.out.2.1 _) hg2 (by have := HR.out.2.2.size; simp; omega))
      have A2' := LruAt_below HA.out.1 hB2
      have k2 : w2.cell? ⟨fstB (y :: r) h, 3, none⟩ = some (pnt (fstB r h)) := by
        have A3 : LruI w2 g m h (a ++ y :: r) most := HL.out ▸ A2'
        have := A3.link.at.2.2.1
        rw [A3.vals y (by simp)] at this
        exact this
      have HO := Lib.hid (And.intro ho2 hB2)
      clear ho2 hg2 hB2 A2' k0 hq
      go_wp2_with fail
      go_roundw
      case rel =>
        refine ⟨a ++ [y], r, A2, c2, by rw [HL.out]; simp, rfl, by rw [List.length_append]; rfl, ?_, HO.out.2⟩
        have := HO.out.1.out
        rw [List.length_append, List.map_append]
        exact this
      case measure =>
        show ls.length - (a.length + 1) < ls.length - a.length
        have := HLn.out
        omega
end
end Go.Proofs.Ytdjdcpbakeahcaa.Av.LruI
