/- lru: Fork at values of a cache, walked. No conditions but that lengths are what memory holds. -/
import Derived.Test.YtdicpbecdhaphaaLruDK
import Derived.Deep.RegionWith
namespace Go.Proofs.Ytdicpbecdhaphaa.Av.LruK
open Go Go.RowKit
set_option linter.unusedVariables false
set_option linter.unusedSimpArgs false
set_option maxRecDepth 100000

def blkOf : Value → Nat
  | .pointer (some a) => a.block
  | _ => 0
theorem idx_at {h : Nat} {zv : List Value} {a r : List Lk} (hap : Apart ((⟨h, [], zv⟩ : Lk) :: (a ++ r))) : ((a ++ r).map (·.x)).idxOf (fstB r h) = a.length := by
  have hn := List.nodup_cons.1 hap
  rw [List.map_append, List.idxOf_append]
  cases r with
  | nil =>
    have h1 : h ∉ a.map (·.x) := fun e => hn.1 (by rw [List.append_nil]; exact e)
    rw [if_neg (by exact h1)]
    simp [fstB]
  | cons y r =>
    have h1 : y.x ∉ a.map (·.x) := fun e => by
      have h2 := hn.2
      rw [List.map_append] at h2
      exact (List.nodup_append.1 h2).2.2 _ e _ (by simp) rfl
    rw [if_neg (by exact h1)]
    simp [fstB]
theorem held_only {w : World} {S : Nat → Prop} {w' : World} (hh : Held ⟨w, S, #[], []⟩ w') : Only w S w' :=
  ⟨hh.os, hh.tape, hh.output, hh.size, fun k hk hn => hh.block k fun e => e.elim (fun e => Nat.not_le.2 hk e) hn⟩
section
variable {w : World} {g m h : Nat} {l1 l2 ls : List Lk} {l : Lk} {most : Int}
/-- how far the copy is -/
def Far (w : World) (most : Int) (a : List Lk) (c : Nat) (wr : World) : Prop :=
  ∃ m' h' lc, LruI wr c m' h' lc most ∧ itemsOf lc = itemsOf a ∧ Only w (fun _ => False) wr ∧ w.heap.size ≤ c ∧ ∀ x, hidB m' h' lc x → w.heap.size ≤ x
theorem Far.alike {a : List Lk} {c : Nat} {wr w' : World} (hF : Far w most a c wr) (e : Alike wr w') : Far w most a c w' := by
  obtain ⟨m2, h2, lc, A, hx, hO, hc, hh⟩ := hF
  exact ⟨m2, h2, lc, A.alike e, hx, hO.alike e, hc, hh⟩
theorem far_put {a : List Lk} {y : Lk} {c : Nat} {wr : World} (hF : Far w most a c wr) (hlt : (a.length : Int) < most) (hk : ∀ z ∈ a, z.k ≠ y.k) (t : List UInt8) (b : Bool) (hyv : y.v = [.string (bs t), .bool b]) :
    Calls Try.prog 109 #[pnt c, .string (bs y.k), .agg #[.string (bs t), .bool b]] wr fun e w' => e = .returned (.tuple #[.string ByteArray.empty, .bool false]) ∧ Far w most (a ++ [y]) c w' := by
  obtain ⟨m2, h2, lc, A, hx, hO, hc, hh⟩ := hF
  have hlen : lc.length = a.length := by
    have := congrArg List.length hx
    simpa [itemsOf] using this
  have hks : ∀ z ∈ lc, z.k ≠ y.k := fun z hz e => by
    have h1 : (z.k, z.v) ∈ itemsOf a := hx ▸ List.mem_map_of_mem (f := fun l : Lk => (l.k, l.v)) hz
    obtain ⟨q, hq, e2⟩ := List.mem_map.1 h1
    simp only [Prod.mk.injEq] at e2
    exact hk q hq (e2.1.trans e)
  refine (put_new A hks t b (by omega)).mono ?_
  rintro e w' ⟨rfl, m3, h3, l3, A3, hx3, hH, hh3⟩
  refine ⟨rfl, m3, h3, l3, A3, ?_, hO.trans (held_only hH) fun x hx' hs => ?_, hc, fun x hx' => ?_⟩
  · rw [hx3]
    simp only [itemsOf, List.map_append, List.map_cons, List.map_nil, hyv]
    rw [show List.map (fun l => (l.k, l.v)) lc = List.map (fun l => (l.k, l.v)) a from hx]
  · rcases hs with rfl | hs
    · omega
    · have := hh x hs; omega
  · rcases hh3 x hx' with h | h
    · exact hh x h
    · have := hO.size; omega
set_option maxHeartbeats 2000000 in
theorem fork_ok (A : LruI w g m h ls most) (hn : (ls.length : Int) ≤ most) (hv : ∀ y ∈ ls, ∃ (t : List UInt8) (b : Bool), y.v = [.string (bs t), .bool b]) : Calls Try.prog 85 #[pnt g] w (Made w most (itemsOf ls)) := by
  obtain ⟨g0, g1, g2, _⟩ := A.head
  have co := ok_any w g h g2
  have cm := made_ok w most
  have HA := Lib.hid A
  clear A
  go_enter Try.func85, Try.ntmps85
  go_wp2_with fail
  refine co.mono ?_
  rintro e w1 ⟨rfl, rfl⟩
  go_wp2_with fail
  refine cm.mono ?_
  rintro e w1 ⟨c, m', h', lc, rfl, A', hx, hO, hc, hh⟩
  have A1 := HA.out.only hO
  obtain ⟨G0, G1, G2, _⟩ := A1.head
  obtain ⟨_, _, hf, _, _⟩ := A1.first.at
  have hf : w1.cell? ⟨h, 4, none⟩ = some (pnt (fstB ls h)) := hf
  have HF : Hid (Far w most [] c w1) := Lib.hid ⟨m', h', lc, A', hx, hO, hc, hh⟩
  clear A' hx hO hc hh A1
  go_wp2_with fail
  clear co cm g0 g1 g2 G0 G1 G2 hf
  go_loopw [4] (fun x wr => ∃ a r : List Lk, ls = a ++ r ∧ x = pnt (fstB r h) ∧ Far w most a c wr) (fun x _ => ls.length - (ls.map (·.x)).idxOf (blkOf x))
  case atStart => exact ⟨[], ls, rfl, rfl, HF.out⟩
  case round =>
    obtain ⟨a, r, hl, rfl, hF⟩ := hrel
    obtain ⟨m2, h2, lc2, A2, hx2, hO2, hc2, hh2⟩ := hF
    have AR := HA.out.only hO2
    obtain ⟨G0, G1, G2, _⟩ := AR.head
    cases r with
    | nil =>
      have hq : (binOp .neq 146 (pnt (fstB [] h)) (pnt h)).run Try.prog wr = .ok (.bool false) wr := neq_no wr _
      have HR := Lib.hid (And.intro hl (And.intro A2 (And.intro hx2 (And.intro hO2 (And.intro hc2 hh2)))))
      clear AR A2 hx2 hO2 hc2 hh2 hl
      go_wp2_with fail
      go_ret
      obtain ⟨hl, A2, hx2, hO2, hc2, hh2⟩ := HR.out
      rw [List.append_nil] at hl
      subst hl
      exact ⟨c, m2, h2, lc2, rfl, A2, hx2, hO2, hc2, hh2⟩
    | cons y r =>
      have hyl : y ∈ ls := by rw [hl]; simp
      have hne : (⟨y.x, 0, none⟩ : Addr) ≠ ⟨h, 0, none⟩ := fun e => by
        injection e with e
        have hap : Apart ([(⟨h, [], zI⟩ : Lk)] ++ ls) := AR.apart
        exact ne_of_apart hap (List.mem_singleton.2 rfl) hyl e.symm
      obtain ⟨ya, yn, hN⟩ := AR.node (List.mem_cons_of_mem _ hyl)
      have hq : (binOp .neq 146 (pnt (fstB (y :: r) h)) (pnt h)).run Try.prog wr = .ok (.bool true) wr := neq_yes wr hne hN AR.first
      obtain ⟨k0, _, _, k1, _⟩ := hN.at
      have k0 : wr.cell? ⟨fstB (y :: r) h, 0, none⟩ = some (.string (bs y.k)) := k0
      obtain ⟨t, b, hyv⟩ := hv y hyl
      have k2 : wr.cell? ⟨y.x, 2, none⟩ = some (.bool b) := by
        have := k1 1 (by rw [hyv]; show 1 < 2; omega)
        simpa [hyv] using this
      have k2 : wr.cell? ⟨fstB (y :: r) h, 2, none⟩ = some (.bool b) := k2
      have k1 : wr.cell? ⟨y.x, 1, none⟩ = some (.string (bs t)) := by
        have := k1 0 (by rw [hyv]; show 0 < 2; omega)
        simpa [hyv] using this
      have k1 : wr.cell? ⟨fstB (y :: r) h, 1, none⟩ = some (.string (bs t)) := k1
      have hlen : a.length + 1 + r.length = ls.length := by rw [hl]; simp; omega
      have hks : ∀ z ∈ a, z.k ≠ y.k := fun z hz e => by
        have hkk := AR.keys
        rw [hl, List.map_append] at hkk
        exact (List.nodup_append.1 hkk).2.2 _ (List.mem_map_of_mem hz) _ (by simp) e
      have cp := far_put (Far.alike ⟨m2, h2, lc2, A2, hx2, hO2, hc2, hh2⟩ (Alike.drew wr)) (by omega) hks t b hyv
      have HR := Lib.hid (And.intro hl (And.intro hlen hyl))
      clear AR A2 hx2 hO2 hc2 hh2 hl hlen hne hN hks hyv
      go_wp2_with fail
      go_region_with (refine cp.mono ?_; rintro e w2 ⟨rfl, hF2⟩)
      all_goals
        have k2 : w2.cell? ⟨fstB (y :: r) h, 4, none⟩ = some (pnt (fstB r h)) := by
          obtain ⟨_, _, _, _, _, hO3, _, _⟩ := hF2
          have A3 : LruI w2 g m h (a ++ y :: r) most := HR.out.1 ▸ HA.out.only hO3
          have := A3.link.at.2.2.1
          rw [A3.vals y (by simp)] at this
          exact this
        have HF2 := Lib.hid hF2
        clear hF2 k0 k1 hq cp
        go_wp2_with fail
        go_roundw
        case rel => exact ⟨a ++ [y], r, by rw [HR.out.1]; simp, rfl, HF2.out⟩
        case measure =>
          have hap : Apart ((⟨h, [], zI⟩ : Lk) :: ls) := HA.out.apart
          obtain ⟨hl, hlen, _⟩ := HR.out
          show ls.length - (ls.map (·.x)).idxOf (fstB r h) < ls.length - (ls.map (·.x)).idxOf (fstB (y :: r) h)
          have i1 : (ls.map (·.x)).idxOf (fstB (y :: r) h) = a.length := by
            rw [hl] at hap ⊢
            exact idx_at hap
          have i2 : (ls.map (·.x)).idxOf (fstB r h) = (a ++ [y]).length := by
            have e : ls = (a ++ [y]) ++ r := by rw [hl]; simp
            rw [e] at hap ⊢
            exact idx_at hap
          rw [i1, i2, List.length_append, List.length_singleton]
          omega
end
end Go.Proofs.Ytdicpbecdhaphaa.Av.LruK
