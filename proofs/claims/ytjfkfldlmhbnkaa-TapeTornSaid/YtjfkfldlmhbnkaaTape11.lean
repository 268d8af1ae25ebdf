/- tape: laying, as contracts; the law on laying, walked. No conditions but that numbers have 64 bits. -/
import Derived.Test.YtjfkfldlmhbnkaaTape10
import Derived.Test.YtjfkfldlmhbnkaaNonce16
namespace Go.Proofs.Ytjfkfldlmhbnkaa.Av
set_option maxHeartbeats 1000000
open Go Go.RowKit
set_option linter.unusedVariables false
set_option linter.unusedSimpArgs false
set_option maxRecDepth 100000

/-- the sectors of a text -/
def secT (t : List UInt8) (g : Nat) (at_ : Int) (i : Nat) : List UInt8 := sec (mkT g (at_ + (i : Int))) (pc (Quill.rowB t) i)
def layT (t : List UInt8) (g : Nat) (at_ : Int) : List (List UInt8) := (List.range (npc (Quill.rowB t))).map (secT t g at_)
/-- may a text be laid? -/
def OkL (t : List UInt8) (g : Nat) (at_ most : Int) : Prop := 1 ≤ g ∧ g ≤ 1099511627776 ∧ t ≠ [] ∧ t.length ≤ 1400 ∧ 0 ≤ most ∧ most ≤ 256 ∧ 0 ≤ at_ ∧ at_ ≤ most ∧ (szT t.length : Int) ≤ most - at_
theorem rowB_len (t : List UInt8) : (Quill.rowB t).length = t.length + 2 := by unfold Quill.rowB; rw [List.length_append, Quill.numB_length]; omega
theorem npc_row {t : List UInt8} (h : t ≠ []) (h2 : t.length ≤ 1400) : npc (Quill.rowB t) = szT t.length := by
  have : 0 < t.length := List.length_pos_iff.2 h
  unfold npc szT
  rw [rowB_len, if_neg (by omega)]
theorem zeroL_rep (v : AV) : ∀ n, zeroL [v] n = List.replicate n v
  | 0 => rfl
  | n + 1 => by rw [zeroL, zeroL_rep v n]; rfl
theorem pc48 (t : List UInt8) (i : Nat) : (pc t i).length ≤ 48 := by unfold pc; rw [List.length_take]; omega
section
variable {t : List UInt8} {g : Nat} {at_ most : Int}
theorem okM_at (h : OkL t g at_ most) {i : Nat} (hi : i < npc (Quill.rowB t)) : OkM g (at_ + (i : Int)) := by
  obtain ⟨h1, h2, h3, h4, h5, h6, h7, h8, h9⟩ := h
  have := npc_row h3 h4
  unfold OkM; omega
theorem lay_yes (h : OkL t g at_ most) : SP 43 [T t, U g, Z at_, Z most] (.tup [.own 9 (npc (Quill.rowB t)) ((layT t g at_).map T), Z 0]) := by
  obtain ⟨h1, h2, h3, h4, h5, h6, h7, h8, h9⟩ := id h
  have hk := npc_row h3 h4
  have hl := rowB_len t
  have hS := size_ok t.length
  rw [← bs_size] at hS
  have hb := bs_size t
  have hlt : ∀ i : Nat, i < npc (Quill.rowB t) → mkT g (at_ + (i : Int)) ≠ 0 ∧ mkT g (at_ + (i : Int)) < 18446744073709551616 := fun i hi => by
    have : 1 ≤ g ∧ g ≤ 1099511627776 ∧ 0 ≤ at_ + (i : Int) ∧ at_ + (i : Int) < 1048575 := okM_at h hi
    unfold mkT; omega
  have := lay_walk (npc (Quill.rowB t)) (pcs (Quill.rowB t) (npc (Quill.rowB t))) (pc (Quill.rowB t)) (secT t g at_) (fun i => mkT g (at_ + (i : Int))) (fun i => (List.range (npc (Quill.rowB t))).map fun j => if j < i then T (secT t g at_ j) else T [])
    h7 (by omega) (by omega) (chk_ok h1 h2 h3 (by omega) h5 h6 h7 h8 (by rw [bs_size]; exact h9) hS) (rowk_nil t (by omega)) (cut_yes (Quill.rowB t) most (by omega) (by omega)) (fun i hi => by simp [pcs, hi]) (fun i hi => mark_mkT (okM_at h hi))
    (fun i hi => seal_yes _ _ (hlt i hi).1 (hlt i hi).2 (pc48 _ _)) (by rw [zeroL_rep]; apply List.ext_getElem? ; intro j; by_cases hj : j < npc (Quill.rowB t) <;> simp [List.getElem?_replicate, hj])
    (fun i hi => by
      show List.set _ i _ = _
      apply List.ext_getElem?
      intro j
      rw [List.getElem?_set]
      by_cases hj : j < npc (Quill.rowB t)
      · by_cases e : i = j
        · subst e; simp [hj]
        · have e2 : (j < i + 1) = (j < i) := by apply propext; omega
          simp [hj, e, e2]
      · by_cases e : i = j
        · omega
        · simp [hj, e])
    (fun i hi => by simp)
  have e : (List.range (npc (Quill.rowB t))).map (fun j => if j < npc (Quill.rowB t) then T (secT t g at_ j) else T []) = (layT t g at_).map T := by
    unfold layT
    rw [List.map_map]
    apply List.map_congr_left
    intro j hj
    rw [List.mem_range] at hj
    simp [hj]
  simp only [e] at this
  exact this
theorem rlay_yes (h : OkL t g at_ most) : SP 44 [T t, U g, Z at_, Z most] (.tup [.own 9 (npc (Quill.rowB t)) ((layT t g at_).map T), Z 0]) := by
  obtain ⟨h1, h2, h3, h4, h5, h6, h7, h8, h9⟩ := id h
  have hk := npc_row h3 h4
  have hl := rowB_len t
  have hS := rsize_ok t.length
  rw [← bs_size] at hS
  have hb := bs_size t
  have hlt : ∀ i : Nat, i < npc (Quill.rowB t) → mkT g (at_ + (i : Int)) ≠ 0 ∧ mkT g (at_ + (i : Int)) < 18446744073709551616 := fun i hi => by
    have : 1 ≤ g ∧ g ≤ 1099511627776 ∧ 0 ≤ at_ + (i : Int) ∧ at_ + (i : Int) < 1048575 := okM_at h hi
    unfold mkT; omega
  have := rlay_walk (szT (bs t).size) (npc (Quill.rowB t)) (pcs (Quill.rowB t) (npc (Quill.rowB t))) (pc (Quill.rowB t)) (secT t g at_) (fun i => mkT g (at_ + (i : Int))) (fun i => (List.range i).map fun j => T (secT t g at_ j))
    h1 h2 h3 (by omega) h5 h6 h7 h8 (by rw [bs_size]; exact h9) hS (by omega) (rrowk_nil t (by omega)) (rcut_yes (Quill.rowB t) 256 (by omega) (by omega)) (fun i hi => by simp [pcs, hi]) (fun i hi => rmark_mkT (okM_at h hi))
    (fun i hi => rseal_yes _ _ (hlt i hi).1 (hlt i hi).2 (pc48 _ _)) rfl (fun i hi => by simp [List.range_succ]) (fun i hi => by simp)
  have e : (List.range (npc (Quill.rowB t))).map (fun j => T (secT t g at_ j)) = (layT t g at_).map T := by
    unfold layT; rw [List.map_map]; rfl
  simp only [e] at this
  exact this
/-- why a text is not laid -/
theorem lay_no (h : ¬ OkL t g at_ most) : ∃ e : Int, e ≠ 0 ∧ SP 43 [T t, U g, Z at_, Z most] (.tup [nilA, Z e]) ∧ SP 44 [T t, U g, Z at_, Z most] (.tup [nilA, Z e]) := by
  have hb := bs_size t
  by_cases h1 : g < 1 ∨ 1099511627776 < g ∨ t = []
  · exact ⟨2, by decide, lay_bad (by decide) (chk_arg h1), rlay_arg h1⟩
  have k1 : 1 ≤ g := by omega
  have k2 : g ≤ 1099511627776 := by omega
  have k3 : t ≠ [] := fun e => h1 (.inr (.inr e))
  by_cases h2 : 1400 < (bs t).size
  · exact ⟨5, by decide, lay_bad (by decide) (chk_long k1 k2 k3 h2), rlay_long k1 k2 k3 h2⟩
  by_cases h3 : most < 0 ∨ 256 < most ∨ at_ < 0 ∨ most < at_
  · exact ⟨8, by decide, lay_bad (by decide) (chk_range k1 k2 k3 (by omega) h3), rlay_range k1 k2 k3 (by omega) h3⟩
  have hS := size_ok t.length
  have hS2 := rsize_ok t.length
  rw [← bs_size] at hS hS2
  by_cases h4 : most - at_ < (szT (bs t).size : Int)
  · exact ⟨7, by decide, lay_bad (by decide) (chk_full k1 k2 k3 (by omega) (by omega) (by omega) (by omega) (by omega) h4 hS), rlay_full k1 k2 k3 (by omega) (by omega) (by omega) (by omega) (by omega) h4 hS2⟩
  · exact absurd ⟨k1, k2, k3, by omega, by omega, by omega, by omega, by omega, by rw [← bs_size]; omega⟩ h
end
theorem size_both (n : Int) (h2 : n ≤ 9223372036854775807) : ∃ k : Int, SP 45 [Z n] (Z k) ∧ SP 46 [Z n] (Z k) := by
  by_cases h : n < 0
  · exact ⟨0, size_neg h, rsize_neg h⟩
  · obtain ⟨m, rfl⟩ : ∃ m : Nat, n = m := ⟨n.toNat, by omega⟩
    exact ⟨_, size_ok m, rsize_ok m⟩
theorem awake17_walk (s0 s1 : List UInt8) (h1 : SP 43 [T [97, 98], U 1, Z 0, Z 3] (.tup [.own 9 1 [T s0], Z 0])) (h2 : SP 43 [T [99], U 1, Z 1, Z 3] (.tup [.own 9 1 [T s1], Z 0]))
    (h3 : SP 47 [.vs 2 [T s0, T s1], U 1] (.tup [.own 9 2 [T [97, 98], T [99]], Z 2])) (h4 : SP 49 [.vs 1 [T s1], U 1, Z 0] (.tup [T [], Z 0, B false])) (h5 : SP 43 [T [100], U 1, Z 3, Z 3] (.tup [nilA, Z 7]))
    (h6 : SP 43 [T [100], U 1, Z 4, Z 3] (.tup [nilA, Z 8])) (h7 : SP 45 [Z 46] (Z 1)) (h8 : SP 45 [Z 47] (Z 2)) (h9 : SP 45 [Z 0] (Z 0)) : SP 42 [] (B true) := by
  refine S_ Try.func42 (by kernel_rfl) rfl (Nat.le_of_ble_eq_true rfl) ?_
  show avc Try.prog SP _ _ _ _ _ _
  dsimp only [avc, startS, Array.toList, Try.f42]
  repeat' ((try conv => whnf) <;> (first | (refine Hold.mk ?_) | (refine And.intro (fun _ => ?_) (fun h => Bool.noConfusion h)) | (refine And.intro (fun h => Bool.noConfusion h) (fun _ => ?_)) | (refine And.intro (Nat.le_of_ble_eq_true rfl) ?_) | (refine And.intro (fun _ => ?_) (fun h => Bool.noConfusion ((beq_self_eq_true _).symm.trans h))) | (refine And.intro (fun h => Bool.noConfusion ((bne_self_eq_false _).symm.trans h)) (fun _ => ?_)) | (refine And.intro (fun h => Bool.noConfusion ((beq_self_eq_true _).symm.trans h)) (fun _ => ?_)) | (refine And.intro (fun _ => ?_) (fun h => Bool.noConfusion ((bne_self_eq_false _).symm.trans h))) | (refine ⟨_, h1, ?_⟩) | (refine ⟨_, h2, ?_⟩) | (refine ⟨_, h3, ?_⟩) | (refine ⟨_, h4, ?_⟩) | (refine ⟨_, h5, ?_⟩) | (refine ⟨_, h6, ?_⟩) | (refine ⟨_, h7, ?_⟩) | (refine ⟨_, h8, ?_⟩) | (refine ⟨_, h9, ?_⟩) | (refine ⟨true, ?_⟩) | (refine ⟨_, rfl, ?_⟩) | (refine ⟨[], [0, 1, 3, 0, 8, 24, 63, 127, 255, 511, 511, 1023, 4095], len_ok rfl (by kernel_rfl), ?_⟩) | (exact True.intro) | (refine And.intro (show eqT _ _ = true by kernel_rfl) ?_) | (refine And.intro rfl ?_) | (refine And.intro (And.intro (Nat.le_of_ble_eq_true rfl) rfl) ?_) | (refine And.intro (And.intro rfl (And.intro rfl rfl)) ?_) | (exact And.intro rfl (And.intro rfl rfl)) | (exact And.intro rfl rfl) | (refine br_lt ?_ ?_ <;> intro hBr <;> (first | (exfalso; omega) | (exfalso; contradiction) | (exfalso; exact hBr rfl) | skip)) | (refine br_lt_ ?_ ?_ <;> intro hBr <;> (first | (exfalso; omega) | (exfalso; contradiction) | (exfalso; exact hBr rfl) | skip)) | (refine br_le ?_ ?_ <;> intro hBr <;> (first | (exfalso; omega) | (exfalso; contradiction) | (exfalso; exact hBr rfl) | skip)) | (refine br_le_ ?_ ?_ <;> intro hBr <;> (first | (exfalso; omega) | (exfalso; contradiction) | (exfalso; exact hBr rfl) | skip)) | (refine br_eq ?_ ?_ <;> intro hBr <;> (first | (exfalso; omega) | (exfalso; contradiction) | (exfalso; exact hBr rfl) | skip)) | (refine br_eq_ ?_ ?_ <;> intro hBr <;> (first | (exfalso; omega) | (exfalso; contradiction) | (exfalso; exact hBr rfl) | skip)) | (refine br_seq ?_ ?_ <;> intro hBr <;> (first | (exfalso; omega) | (exfalso; contradiction) | (exfalso; exact hBr rfl) | skip)) | (refine br_seq_ ?_ ?_ <;> intro hBr <;> (first | (exfalso; omega) | (exfalso; contradiction) | (exfalso; exact hBr rfl) | skip)) | (refine br_not ?_) | (refine br_not_ ?_) | (refine br_and ?_) | (refine br_and_ ?_) | (refine And.intro (by omega) ?_) | (refine ⟨_, wrap_i64 (by omega), ?_⟩) | (refine ⟨_, wrap_u64 (by omega) (by omega), ?_⟩) | (refine ⟨_, wrap_u8 (by omega) (by omega), ?_⟩) | (refine ⟨_, wrap_u32 (by omega) (by omega), ?_⟩) | (refine ⟨_, wrap_u16 (by omega) (by omega), ?_⟩) | (refine ⟨_, rfl, ?_⟩) | (exact rfl)))
end Go.Proofs.Ytjfkfldlmhbnkaa.Av
