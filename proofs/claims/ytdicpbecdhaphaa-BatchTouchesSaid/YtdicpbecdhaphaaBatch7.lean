/- batch: what every right program tells of some ops; the law BatchTouches. No conditions. -/
import Derived.Test.YtdicpbecdhaphaaBatch6
import Derived.Test.YtdicpbecdhaphaaOpRows
namespace Go.Proofs.Ytdicpbecdhaphaa.Av
open Go Go.RowKit Go.ChangeShapes Go.WideShapes Tre
set_option linter.unusedVariables false
set_option linter.unusedSimpArgs false
set_option maxRecDepth 100000
set_option maxHeartbeats 2000000

theorem over_in13 {os : List OpP} (h : ¬ Over13 os) : os.length ≤ 50 ∧ ∀ o ∈ os, o.2.1.length ≤ 150 ∧ o.2.2.length ≤ 1000 := by
  refine ⟨?_, fun o ho => ?_⟩
  · apply Classical.byContradiction; intro e; exact h (.inl (by omega))
  · constructor <;> (apply Classical.byContradiction; intro e; exact h (.inr ⟨o, ho, by omega⟩))
abbrev awL : List OpP := [(1, [97], [120]), (3, [98], [])]
theorem awake13_walk (s : List UInt8) (hs : ((bs s).size : Int) = 16) (ce : SP 40 [.vs 2 (opC awL)] (.tup [T s, Z 0])) (cd : SP 41 [T s] (.tup [.vs 2 (opC awL), Z 0])) (cd2 : SP 41 [T [0]] (.tup [.vs 0 [], Z 3]))
    (l1 : SP 36 [.vs 2 (opC awL), T [97], T [], B false] (.tup [T [120], B true])) (l2 : SP 36 [.vs 2 (opC awL), T [98, 99], T [121], B true] (.tup [T [], B false]))
    (cz : SP 42 [.vs 2 (opC awL)] (Z 16)) (cm : SP 38 [.vs 2 (opC awL), .vs 2 (opC awL)] (B true)) (ck : SP 43 [.vs 1 (opC [(4, [], [])])] (Z 22)) (ct : SP 34 [opA (3, [98], []), T [98]] (B true))
    (cz0 : SP 42 [nilA] (Z 5)) : SP 33 [] (B true) := by
  have hw : ([.ex (.int .u8 ((3 : Nat) : Int)), T [98], T []] : List AV).length = sizeT Try.prog 64 ∧ ∀ j v, ([.ex (.int .u8 ((3 : Nat) : Int)), T [98], T []] : List AV)[j]? = some v → (opC awL)[mulS ((1 : Nat) : Int).toNat (sizeT Try.prog 64) + j]? = some v := opW (os := awL) (i := 1) (by decide)
  refine S_ Try.func33 (by kernel_rfl) rfl (Nat.le_of_ble_eq_true rfl) ?_
  show avc Try.prog SP _ _ _ _ _ _
  dsimp only [avc, startS, Array.toList, Try.f33]
  repeat' ((try conv => whnf) <;> (first | (refine Hold.mk ?_) | (refine And.intro (fun _ => ?_) (fun h => Bool.noConfusion h)) | (refine And.intro (fun h => Bool.noConfusion h) (fun _ => ?_)) | (refine And.intro (Nat.le_of_ble_eq_true rfl) ?_) | (refine And.intro (fun _ => ?_) (fun h => Bool.noConfusion ((beq_self_eq_true _).symm.trans h))) | (refine And.intro (fun h => Bool.noConfusion ((bne_self_eq_false _).symm.trans h)) (fun _ => ?_)) | (refine And.intro (fun h => Bool.noConfusion ((beq_self_eq_true _).symm.trans h)) (fun _ => ?_)) | (refine And.intro (fun _ => ?_) (fun h => Bool.noConfusion ((bne_self_eq_false _).symm.trans h))) | (refine ⟨_, ce, ?_⟩) | (refine ⟨_, cd, ?_⟩) | (refine ⟨_, cd2, ?_⟩) | (refine ⟨_, l1, ?_⟩) | (refine ⟨_, l2, ?_⟩) | (refine ⟨_, cz, ?_⟩) | (refine ⟨_, cm, ?_⟩) | (refine ⟨_, ck, ?_⟩) | (refine ⟨_, ct, ?_⟩) | (refine ⟨_, cz0, ?_⟩) | (refine ⟨true, ?_⟩) | (refine ⟨_, hw, ?_⟩) | (exact True.intro) | (refine And.intro (show eqT _ _ = true by kernel_rfl) ?_) | (refine And.intro rfl ?_) | (refine And.intro (And.intro (Nat.le_of_ble_eq_true rfl) rfl) ?_) | (refine And.intro (And.intro rfl rfl) ?_) | (refine And.intro (And.intro rfl (And.intro rfl rfl)) ?_) | (exact And.intro rfl (And.intro rfl rfl)) | (exact And.intro rfl rfl) | (refine br_lt ?_ ?_ <;> intro hBr <;> (first | (exfalso; omega) | (exfalso; contradiction) | (exfalso; exact hBr rfl) | skip)) | (refine br_lt_ ?_ ?_ <;> intro hBr <;> (first | (exfalso; omega) | (exfalso; contradiction) | (exfalso; exact hBr rfl) | skip)) | (refine br_le ?_ ?_ <;> intro hBr <;> (first | (exfalso; omega) | (exfalso; contradiction) | (exfalso; exact hBr rfl) | skip)) | (refine br_le_ ?_ ?_ <;> intro hBr <;> (first | (exfalso; omega) | (exfalso; contradiction) | (exfalso; exact hBr rfl) | skip)) | (refine br_eq ?_ ?_ <;> intro hBr <;> (first | (exfalso; omega) | (exfalso; contradiction) | (exfalso; exact hBr rfl) | skip)) | (refine br_eq_ ?_ ?_ <;> intro hBr <;> (first | (exfalso; omega) | (exfalso; contradiction) | (exfalso; exact hBr rfl) | skip)) | (refine br_seq ?_ ?_ <;> intro hBr <;> (first | (exfalso; omega) | (exfalso; contradiction) | (exfalso; exact hBr rfl) | skip)) | (refine br_seq_ ?_ ?_ <;> intro hBr <;> (first | (exfalso; omega) | (exfalso; contradiction) | (exfalso; exact hBr rfl) | skip)) | (refine br_not ?_) | (refine br_not_ ?_) | (refine br_and ?_) | (refine br_and_ ?_) | (refine And.intro (by omega) ?_) | (refine ⟨_, wrap_i64 (by omega), ?_⟩) | (refine ⟨_, wrap_u64 (by omega) (by omega), ?_⟩) | (refine ⟨_, wrap_u8 (by omega) (by omega), ?_⟩) | (refine ⟨_, wrap_u32 (by omega) (by omega), ?_⟩) | (refine ⟨_, wrap_u16 (by omega) (by omega), ?_⟩) | (refine ⟨_, rfl, ?_⟩) | (exact rfl)))
theorem awake13_ok : SP 33 [] (B true) := by
  have hz : Sized awL := ⟨by decide, by decide⟩
  have ce := encode_ok awL hz
  have h2 : (encOps awL).2 = 0 := by
    unfold encOps
    rw [show checkL awL = 0 from rfl, if_neg (by decide), if_neg (by decide)]
  obtain ⟨d1, d2, d3, _⟩ := dec_enc h2
  rw [h2] at ce
  have cd := decode_ok (encOps awL).1 (by rw [d2]; omega)
  rw [d1] at cd
  generalize (encOps awL).1 = s at ce cd d2
  have hs := bs_size s
  have cd2 := decode_ok [0] (by decide)
  rw [show decOps [0] = ([], 3) by unfold decOps; rw [Crc.opened_short (by decide), if_pos (by decide)]] at cd2
  refine awake13_walk s (by rw [hs, d2]; rfl) ce cd cd2 (last_ok awL [97] [] false (by decide) (by decide) (by decide) ([120], true) (by kernel_rfl)) (last_ok awL [98, 99] [121] true (by decide) (by decide) (by decide) ([], false) (by kernel_rfl))
    (size_ok awL hz 16 (by kernel_rfl)) (by have := bsame_ok awL awL (by decide) (by decide); rwa [decide_eq_true rfl] at this) (check_ok [(4, [], [])] ⟨by decide, by decide⟩ 22 (by kernel_rfl)) ?_ ?_
  · have := touches_ok (3, [98], []) [98] (by decide) (by decide)
    rwa [show touchP (3, [98], []) [98] = true by kernel_rfl] at this
  · refine Sound.weak (size_ok [] ⟨by decide, by decide⟩ 5 rfl) rfl fun w F j h1 h2 x hx => ?_
    match j, h1 with
    | 0, _ => have := hx.ex_inv; subst this; exact .vnil _
end Go.Proofs.Ytdicpbecdhaphaa.Av
