/- disk: what is synced lasts: plain, and the law walked. No conditions. -/
import Derived.Test.YtdjdcpbakeahcaaDisk14
namespace Go.Proofs.Ytdjdcpbakeahcaa.Av
open Go Go.RowKit Go.ChangeShapes Go.WideShapes
set_option linter.unusedVariables false
set_option linter.unusedSimpArgs false
set_option maxRecDepth 100000
set_option maxHeartbeats 8000000

/-- a write of a whole sector -/
def wOp (o : DOp) : DOp := ⟨0, o.n, o.s, false, o.plan⟩
/-- a device that was synced -/
def synced (a : St) : St := ⟨.nil, a.l, a.l.length, a.w⟩
/-- behind so many writes more -/
def wrote (n : Nat) (a : St) (l : List DOp) : St := l.foldl (fun b o => stepD n b (wOp o)) (synced a)
theorem wstep (n : Nat) (b : St) (o : DOp) : stepD n b (wOp o) = if 0 ≤ o.n ∧ o.n < n then ⟨b.q.next, b.l ++ [(o.n.toNat, fullK o.s)], b.k, b.w + 1⟩ else b := by
  have e : textD (wOp o) = fullK o.s := if_neg (fun h : false = true => Bool.noConfusion h)
  unfold stepD
  rw [if_neg (by show ¬ 0 % 6 = 3; decide), if_neg (by show ¬ 0 % 6 = 4; decide), if_neg (by show ¬ 0 % 6 = 5; decide), e]
  show (if 0 ≤ o.n ∧ o.n < n ∧ (fullK o.s).length = 64 then _ else _) = _
  by_cases h : 0 ≤ o.n ∧ o.n < n
  · rw [if_pos ⟨h.1, h.2, fullK_len _⟩, if_pos h]; rfl
  · rw [if_neg (fun k => h ⟨k.1, k.2.1⟩), if_neg h]
/-- what is known of it -/
structure Wrote (n : Nat) (a b : St) (i : Nat) (tl : List Bool) : Prop where
  ok : b.Ok n i
  q : b.q = .nil ∨ b.q = .row false
  k : b.k = a.l.length
  base : b.l.take b.k = a.l
  len : tl.length = n
  tl : ∀ j : Nat, tl[j]? = some false → ∀ x ∈ b.l.drop b.k, x.1 ≠ j
theorem wrote0 {n : Nat} {a : St} {i : Nat} (h : a.Ok n i) : Wrote n a (synced a) i (List.replicate n false) :=
  ⟨h.sync, .inl rfl, rfl, List.take_length, List.length_replicate, fun j _ x hx => by
    have : (synced a).l.drop (synced a).k = [] := List.drop_length
    rw [this] at hx; cases hx⟩
theorem wrote1 {n : Nat} {a b : St} {i : Nat} {tl : List Bool} (h : Wrote n a b i tl) {m : Nat} {s : Key} (hm : m < n) (hs : s.length = 64) : Wrote n a ⟨b.q.next, b.l ++ [(m, s)], b.k, b.w + 1⟩ (i + 1) (tl.set m true) :=
  ⟨h.ok.put hm hs, .inr (by rcases h.q with e | e <;> rw [e] <;> rfl), h.k, by
    show (b.l ++ _).take b.k = _
    rw [List.take_append_of_le_length h.ok.k, h.base], by rw [List.length_set, h.len], fun j hj x hx => by
    have hx : x ∈ (b.l ++ [(m, s)]).drop b.k := hx
    rw [List.drop_append_of_le_length h.ok.k] at hx
    rw [List.getElem?_set] at hj
    by_cases e : m = j
    · subst e
      rw [if_pos rfl, if_pos (by rw [h.len]; exact hm)] at hj; simp at hj
    · rw [if_neg e] at hj
      rcases List.mem_append.1 hx with h1 | h1
      · exact h.tl j hj x h1
      · rcases List.mem_singleton.1 h1 with rfl; exact e⟩
theorem Wrote.up {n : Nat} {a b : St} {i : Nat} {tl : List Bool} (h : Wrote n a b i tl) : Wrote n a b (i + 1) tl :=
  ⟨⟨h.ok.k, h.ok.rw, h.ok.full, h.ok.q, Nat.le_succ_of_le h.ok.len, Nat.le_succ_of_le h.ok.w⟩, h.q, h.k, h.base, h.len, h.tl⟩
/-- what was not written since stands there behind any crash -/
theorem lasts_same {n : Nat} {a b : St} {i : Nat} {tl : List Bool} (h : Wrote n a b i tl) (p : Plan) {j : Nat} (hj : j < n) (hf : tl[j]? = some false) : (runW (crashL p b) (newL n))[j]?.getD [] = (a.L n)[j]?.getD [] := by
  have hcr := h.ok.crash2 p
  rw [secR_get hj hcr.rw]
  have hb : (a.L n)[j]?.getD [] = secR a.l j := by
    unfold St.L
    rw [secR_get hj (by rw [← h.base]; exact fun x hx => h.ok.rw x (List.mem_of_mem_take hx))]
  rw [hb]
  unfold crashL
  rw [h.base]
  have hno : ∀ x ∈ keptL p 0 (b.l.drop b.k), x.1 ≠ j := fun x hx => by
    obtain ⟨y, hy, e1, _⟩ := keptL_in p _ _ x hx
    rw [e1]; exact h.tl j hf y hy
  generalize keptL p 0 (b.l.drop b.k) = l at hno
  have : ∀ l : List Rw, (∀ x ∈ l, x.1 ≠ j) → ∀ m, secR (m ++ l) j = secR m j := by
    intro l
    induction l with
    | nil => intro _ m; rw [List.append_nil]
    | cons x l ih =>
      intro hl m
      rw [show m ++ x :: l = (m ++ [x]) ++ l by simp, ih (fun y hy => hl y (List.mem_cons_of_mem _ hy)), secR_app, if_neg (hl x List.mem_cons_self)]
  exact this l hno _
theorem keptL_none : ∀ (l : List Rw) (i : Nat), keptL ⟨0, -1, 0⟩ i l = []
  | [], _ => rfl
  | x :: l, i => by
    show kept1 ⟨0, -1, 0⟩ i x ++ keptL ⟨0, -1, 0⟩ (i + 1) l = []
    rw [keptL_none l, List.append_nil]
    unfold kept1
    rw [if_neg (by show ¬ (i : Int) = -1; omega), if_neg (fun h => by have := h.2; simp [bitOf] at this)]
theorem crash_none {n : Nat} {a b : St} {i : Nat} {tl : List Bool} (h : Wrote n a b i tl) : runW (crashL ⟨0, -1, 0⟩ b) (newL n) = a.L n := by
  unfold crashL
  rw [keptL_none, List.append_nil, h.base]; rfl
def lastB (q : Pd) (L : List Key) (P : List Wr) (w : Int) (M : List Key) (w0 : Int) (C : List AV) (s : Int) (u : Nat) (t c : Int) : List ABlk :=
  [headN 4 L.length (pdV q 5 P) w, headN (secN q + 2) M.length nilA w0, ⟨C, some 4, false, true⟩, ⟨[.ex (.int .u8 s), U u, Z t, Z c], none, false, true⟩, secB L] ++ pdB q P ++ [secB M]
theorem hsB : sizeT Try.prog 4 = 1 := by kernel_rfl
def boolC (l : List Bool) : List AV := l.map fun b => B b
theorem boolC_len (l : List Bool) : (boolC l).length = l.length := List.length_map _
theorem boolC_set (l : List Bool) (m : Nat) : setL (boolC l) (mulS (m : Int).toNat (sizeT Try.prog 4)) [B true] = boolC (l.set m true) := by
  rw [hsB, mulS_eq, Int.toNat_natCast, Nat.mul_one]
  show (boolC l).set m _ = _
  unfold boolC
  rw [List.map_set]
theorem boolC_at {l : List Bool} {j : Nat} (h : j < l.length) : (boolC l)[mulS (j : Int).toNat (sizeT Try.prog 4)]? = some (B l[j]) := by
  rw [hsB, mulS_eq, Int.toNat_natCast, Nat.mul_one]
  unfold boolC
  rw [List.getElem?_map, List.getElem?_eq_getElem h]; rfl
theorem zeroL_B : ∀ n, zeroL (AV.ex (.bool false)).cells n = boolC (List.replicate n false)
  | 0 => rfl
  | n + 1 => by
    show [AV.ex (.bool false)] ++ zeroL _ n = _
    rw [zeroL_B n, List.replicate_succ]; rfl
theorem dop1 {l : List DOp} {i : Nat} (h : i < l.length) : (dopC l)[mulS (i : Int).toNat (sizeT Try.prog 57) + 1]? = some (Z l[i].n) := (dopA h).2 1 _ rfl
abbrev crA (s : Int) (u : Nat) (t c : Int) : AV := .ex (.agg #[.int .u8 s, .int .u64 u, .int .i64 t, .int .i64 c])
theorem dlasts_over (l more : List DOp) (s : Nat) (u : Nat) (t c : Int) (hs : s < 256) (hl : l.length ≤ 9223372036854775807) (hm : more.length ≤ 9223372036854775807) (h : ¬ (OkOver l 30 ∧ OkOver more 30)) :
    SP 5 [.vs l.length (dopC l), .vs more.length (dopC more), crA s u t c] (B true) := by
  have aw := dawake_ok
  by_cases h1 : OkOver l 30
  · have c1 := over_no h1 (by decide)
    obtain ⟨e, he, c2⟩ := over_yes (fun h2 => h ⟨h1, h2⟩) hm
    refine S_ Try.func5 (by kernel_rfl) rfl (Nat.le_of_ble_eq_true rfl) ?_
    show avc Try.prog SP _ _ _ _ _ _
    dsimp only [avc, startS, Array.toList, Try.f5]
    repeat' ((try conv => whnf) <;> (first | (refine Hold.mk ?_) | (refine And.intro (fun _ => ?_) (fun h => Bool.noConfusion h)) | (refine And.intro (fun h => Bool.noConfusion h) (fun _ => ?_)) | (refine And.intro (Nat.le_of_ble_eq_true rfl) ?_) | (refine And.intro (fun _ => ?_) (fun h => Bool.noConfusion ((beq_self_eq_true _).symm.trans h))) | (refine And.intro (fun h => Bool.noConfusion ((bne_self_eq_false _).symm.trans h)) (fun _ => ?_)) | (refine And.intro (fun h => Bool.noConfusion ((beq_self_eq_true _).symm.trans h)) (fun _ => ?_)) | (refine And.intro (fun _ => ?_) (fun h => Bool.noConfusion ((bne_self_eq_false _).symm.trans h))) | (refine And.intro (show inR _ from ⟨by omega, by omega⟩) ?_) | (refine ⟨_, c1, ?_⟩) | (refine ⟨_, c2, ?_⟩) | (refine ⟨_, aw, ?_⟩) | (refine ⟨[], [0, 0, 0, 6, 14, 30, 0, 0, 192, 448, 960, 1984, 4095, 8191], len_ok rfl (by kernel_rfl), ?_⟩) | (exact True.intro) | (refine And.intro (show eqT _ _ = true by kernel_rfl) ?_) | (refine And.intro rfl ?_) | (refine And.intro (And.intro (Nat.le_of_ble_eq_true rfl) rfl) ?_) | (refine And.intro (And.intro rfl rfl) ?_) | (refine And.intro (And.intro rfl (And.intro rfl rfl)) ?_) | (exact And.intro rfl (And.intro rfl rfl)) | (exact And.intro rfl rfl) | (refine br_lt ?_ ?_ <;> intro hBr <;> (first | (exfalso; omega) | (exfalso; contradiction) | (exfalso; exact hBr rfl) | skip)) | (refine br_lt_ ?_ ?_ <;> intro hBr <;> (first | (exfalso; omega) | (exfalso; contradiction) | (exfalso; exact hBr rfl) | skip)) | (refine br_le ?_ ?_ <;> intro hBr <;> (first | (exfalso; omega) | (exfalso; contradiction) | (exfalso; exact hBr rfl) | skip)) | (refine br_le_ ?_ ?_ <;> intro hBr <;> (first | (exfalso; omega) | (exfalso; contradiction) | (exfalso; exact hBr rfl) | skip)) | (refine br_eq ?_ ?_ <;> intro hBr <;> (first | (exfalso; omega) | (exfalso; contradiction) | (exfalso; exact hBr rfl) | skip)) | (refine br_eq_ ?_ ?_ <;> intro hBr <;> (first | (exfalso; omega) | (exfalso; contradiction) | (exfalso; exact hBr rfl) | skip)) | (refine br_seq ?_ ?_ <;> intro hBr <;> (first | (exfalso; omega) | (exfalso; contradiction) | (exfalso; exact hBr rfl) | skip)) | (refine br_seq_ ?_ ?_ <;> intro hBr <;> (first | (exfalso; omega) | (exfalso; contradiction) | (exfalso; exact hBr rfl) | skip)) | (refine br_not ?_) | (refine br_not_ ?_) | (refine br_and ?_) | (refine br_and_ ?_) | (refine And.intro (by omega) ?_) | (refine ⟨_, wrap_i64 (by omega), ?_⟩) | (refine ⟨_, wrap_u64 (by omega) (by omega), ?_⟩) | (refine ⟨_, wrap_u8 (by omega) (by omega), ?_⟩) | (refine ⟨_, wrap_u32 (by omega) (by omega), ?_⟩) | (refine ⟨_, wrap_u16 (by omega) (by omega), ?_⟩) | (refine ⟨_, rfl, ?_⟩) | (exact rfl)))
  · obtain ⟨e, he, c1⟩ := over_yes h1 hl
    refine S_ Try.func5 (by kernel_rfl) rfl (Nat.le_of_ble_eq_true rfl) ?_
    show avc Try.prog SP _ _ _ _ _ _
    dsimp only [avc, startS, Array.toList, Try.f5]
    repeat' ((try conv => whnf) <;> (first | (refine Hold.mk ?_) | (refine And.intro (fun _ => ?_) (fun h => Bool.noConfusion h)) | (refine And.intro (fun h => Bool.noConfusion h) (fun _ => ?_)) | (refine And.intro (Nat.le_of_ble_eq_true rfl) ?_) | (refine And.intro (fun _ => ?_) (fun h => Bool.noConfusion ((beq_self_eq_true _).symm.trans h))) | (refine And.intro (fun h => Bool.noConfusion ((bne_self_eq_false _).symm.trans h)) (fun _ => ?_)) | (refine And.intro (fun h => Bool.noConfusion ((beq_self_eq_true _).symm.trans h)) (fun _ => ?_)) | (refine And.intro (fun _ => ?_) (fun h => Bool.noConfusion ((bne_self_eq_false _).symm.trans h))) | (refine And.intro (show inR _ from ⟨by omega, by omega⟩) ?_) | (refine ⟨_, c1, ?_⟩) | (refine ⟨_, aw, ?_⟩) | (refine ⟨[], [0, 0, 0, 6, 14, 30, 0, 0, 192, 448, 960, 1984, 4095, 8191], len_ok rfl (by kernel_rfl), ?_⟩) | (exact True.intro) | (refine And.intro (show eqT _ _ = true by kernel_rfl) ?_) | (refine And.intro rfl ?_) | (refine And.intro (And.intro (Nat.le_of_ble_eq_true rfl) rfl) ?_) | (refine And.intro (And.intro rfl rfl) ?_) | (refine And.intro (And.intro rfl (And.intro rfl rfl)) ?_) | (exact And.intro rfl (And.intro rfl rfl)) | (exact And.intro rfl rfl) | (refine br_lt ?_ ?_ <;> intro hBr <;> (first | (exfalso; omega) | (exfalso; contradiction) | (exfalso; exact hBr rfl) | skip)) | (refine br_lt_ ?_ ?_ <;> intro hBr <;> (first | (exfalso; omega) | (exfalso; contradiction) | (exfalso; exact hBr rfl) | skip)) | (refine br_le ?_ ?_ <;> intro hBr <;> (first | (exfalso; omega) | (exfalso; contradiction) | (exfalso; exact hBr rfl) | skip)) | (refine br_le_ ?_ ?_ <;> intro hBr <;> (first | (exfalso; omega) | (exfalso; contradiction) | (exfalso; exact hBr rfl) | skip)) | (refine br_eq ?_ ?_ <;> intro hBr <;> (first | (exfalso; omega) | (exfalso; contradiction) | (exfalso; exact hBr rfl) | skip)) | (refine br_eq_ ?_ ?_ <;> intro hBr <;> (first | (exfalso; omega) | (exfalso; contradiction) | (exfalso; exact hBr rfl) | skip)) | (refine br_seq ?_ ?_ <;> intro hBr <;> (first | (exfalso; omega) | (exfalso; contradiction) | (exfalso; exact hBr rfl) | skip)) | (refine br_seq_ ?_ ?_ <;> intro hBr <;> (first | (exfalso; omega) | (exfalso; contradiction) | (exfalso; exact hBr rfl) | skip)) | (refine br_not ?_) | (refine br_not_ ?_) | (refine br_and ?_) | (refine br_and_ ?_) | (refine And.intro (by omega) ?_) | (refine ⟨_, wrap_i64 (by omega), ?_⟩) | (refine ⟨_, wrap_u64 (by omega) (by omega), ?_⟩) | (refine ⟨_, wrap_u8 (by omega) (by omega), ?_⟩) | (refine ⟨_, wrap_u32 (by omega) (by omega), ?_⟩) | (refine ⟨_, wrap_u16 (by omega) (by omega), ?_⟩) | (refine ⟨_, rfl, ?_⟩) | (exact rfl)))
end Go.Proofs.Ytdjdcpbakeahcaa.Av
