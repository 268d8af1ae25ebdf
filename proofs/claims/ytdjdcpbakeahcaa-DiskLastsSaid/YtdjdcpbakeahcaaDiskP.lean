/- disk: plain facts: a device behind writes, undone, and kept in part, as lists of sectors. No conditions but that lengths are as stated. -/
import Derived.Test.YtdjdcpbakeahcaaDisk5
namespace Go.Proofs.Ytdjdcpbakeahcaa.Av
open Go Go.RowKit
set_option linter.unusedVariables false
set_option linter.unusedSimpArgs false

/-- a write: of which sector, its first bytes -/
abbrev Rw := Nat × Key
/-- one write more -/
def put1 (M : List Key) (x : Rw) : List Key := M.set x.1 (ovl x.2.length x.2 (M[x.1]?.getD []))
def runW (l : List Rw) (M : List Key) : List Key := l.foldl put1 M
theorem put1_len (M : List Key) (x : Rw) : (put1 M x).length = M.length := by unfold put1; rw [List.length_set]
theorem runW_len : ∀ (l : List Rw) (M : List Key), (runW l M).length = M.length
  | [], _ => rfl
  | x :: l, M => (runW_len l (put1 M x)).trans (put1_len M x)
theorem runW_app (a b : List Rw) (M : List Key) : runW (a ++ b) M = runW b (runW a M) := List.foldl_append
def RwOk (l : List Rw) (n : Nat) : Prop := ∀ x ∈ l, x.1 < n ∧ x.2.length ≤ 64
def Full64 (l : List Rw) : Prop := ∀ x ∈ l, x.2.length = 64
theorem ovl_full {t s : Key} (h : t.length = s.length) : ovl t.length t s = t := by
  unfold ovl; rw [List.take_of_length_le (Nat.le_refl _), List.drop_of_length_le (by omega), List.append_nil]
theorem ovl_len2 {t s : Key} (h : t.length ≤ s.length) : (ovl t.length t s).length = s.length := by
  unfold ovl; rw [List.length_append, List.length_take, List.length_drop]; omega
theorem Sec.put1 {M : List Key} (h : Sec M) {x : Rw} (h1 : x.1 < M.length) (h2 : x.2.length ≤ 64) : Sec (put1 M x) := by
  have := h _ (List.getElem_mem h1)
  refine Sec.set h ?_
  rw [secGet h1, ovl_len2 (by omega), this]
theorem Sec.runW : ∀ {l : List Rw} {M : List Key}, Sec M → RwOk l M.length → Sec (runW l M)
  | [], _, h, _ => h
  | x :: l, M, h, hl => Sec.runW (M := Av.put1 M x) (h.put1 (hl x List.mem_cons_self).1 (hl x List.mem_cons_self).2) fun y hy => by
      rw [put1_len]; exact hl y (List.mem_cons_of_mem _ hy)
/-- pending writes, with what stood there -/
def pend : List Rw → List Key → List Wr
  | [], _ => []
  | x :: l, M => (x.1, x.2, M[x.1]?.getD []) :: pend l (M.set x.1 x.2)
theorem pend_len : ∀ (l : List Rw) (M : List Key), (pend l M).length = l.length
  | [], _ => rfl
  | x :: l, M => congrArg (· + 1) (pend_len l _)
theorem put1_full {M : List Key} (h : Sec M) {x : Rw} (h1 : x.1 < M.length) (h2 : x.2.length = 64) : put1 M x = M.set x.1 x.2 := by
  unfold put1
  rw [secGet h1, ovl_full (by rw [h2, h _ (List.getElem_mem h1)])]
theorem pend_app : ∀ (l : List Rw) (x : Rw) (M : List Key), Sec M → RwOk l M.length → Full64 l → pend (l ++ [x]) M = pend l M ++ [(x.1, x.2, (runW l M)[x.1]?.getD [])]
  | [], x, M, _, _, _ => rfl
  | y :: l, x, M, hM, hl, hf => by
    have hy := hl y List.mem_cons_self
    have hy2 := hf y List.mem_cons_self
    have e := put1_full hM hy.1 hy2
    have hs : Sec (M.set y.1 y.2) := hM.set hy2
    show (y.1, y.2, _) :: pend (l ++ [x]) (M.set y.1 y.2) = (y.1, y.2, _) :: (pend l (M.set y.1 y.2) ++ _)
    rw [pend_app l x _ hs (fun z hz => by rw [List.length_set]; exact hl z (List.mem_cons_of_mem _ hz)) (fun z hz => hf z (List.mem_cons_of_mem _ hz))]
    show _ = _ :: (_ ++ [(x.1, x.2, (runW l (put1 M y))[x.1]?.getD [])])
    rw [e]
theorem pend_ok : ∀ (l : List Rw) (M : List Key), Sec M → RwOk l M.length → Full64 l → WrOk (pend l M) M.length
  | [], _, _, _, _ => fun x hx => by cases hx
  | y :: l, M, hM, hl, hf => fun x hx => by
    have hy := hl y List.mem_cons_self
    have hy2 := hf y List.mem_cons_self
    rcases List.mem_cons.1 hx with rfl | hx
    · refine ⟨hy.1, hy2, ?_⟩
      show (M[y.1]?.getD []).length = 64
      rw [secGet hy.1]; exact hM _ (List.getElem_mem _)
    · have := pend_ok l (M.set y.1 y.2) (hM.set hy2) (fun z hz => by rw [List.length_set]; exact hl z (List.mem_cons_of_mem _ hz)) (fun z hz => hf z (List.mem_cons_of_mem _ hz)) x hx
      rw [List.length_set] at this
      exact this
/-- what is undone is as it was -/
theorem undo_pend : ∀ (l : List Rw) (M : List Key), Sec M → RwOk l M.length → Full64 l → undoL (pend l M) (runW l M) = M
  | [], _, _, _, _ => rfl
  | y :: l, M, hM, hl, hf => by
    have hy := hl y List.mem_cons_self
    have hy2 := hf y List.mem_cons_self
    have e := put1_full hM hy.1 hy2
    show (undoL (pend l (M.set y.1 y.2)) (runW l (put1 M y))).set y.1 (M[y.1]?.getD []) = M
    rw [e, undo_pend l _ (hM.set hy2) (fun z hz => by rw [List.length_set]; exact hl z (List.mem_cons_of_mem _ hz)) (fun z hz => hf z (List.mem_cons_of_mem _ hz))]
    rw [secGet hy.1, List.set_set, List.set_getElem_self]
/-- the writes that a crash keeps -/
def kept1 (p : Plan) (i : Nat) (x : Rw) : List Rw := if (i : Int) = p.torn then [(x.1, x.2.take (clampI p.cut).toNat)] else if i < 64 ∧ bitOf p.keep i = true then [x] else []
def keptL (p : Plan) : Nat → List Rw → List Rw
  | _, [] => []
  | i, x :: l => kept1 p i x ++ keptL p (i + 1) l
theorem keptL_app (p : Plan) : ∀ (l : List Rw) (i : Nat) (x : Rw), keptL p i (l ++ [x]) = keptL p i l ++ kept1 p (i + l.length) x
  | [], i, x => by show kept1 p i x ++ [] = [] ++ _; rw [List.append_nil]; rfl
  | y :: l, i, x => by
    rw [List.cons_append, keptL, keptL_app p l, keptL, List.append_assoc]
    rw [show i + 1 + l.length = i + (y :: l).length by simp; omega]
theorem keptL_in (p : Plan) : ∀ (l : List Rw) (i : Nat), ∀ x ∈ keptL p i l, ∃ y ∈ l, x.1 = y.1 ∧ x.2.length ≤ y.2.length
  | [], _, x, hx => by cases hx
  | y :: l, i, x, hx => by
    rcases List.mem_append.1 hx with h | h
    · refine ⟨y, List.mem_cons_self, ?_⟩
      unfold kept1 at h
      split at h
      · rcases List.mem_singleton.1 h with rfl
        exact ⟨rfl, by show (y.2.take _).length ≤ _; rw [List.length_take]; omega⟩
      · split at h
        · rcases List.mem_singleton.1 h with rfl; exact ⟨rfl, Nat.le_refl _⟩
        · cases h
    · obtain ⟨z, hz, h2⟩ := keptL_in p l (i + 1) x h
      exact ⟨z, List.mem_cons_of_mem _ hz, h2⟩
theorem keptL_len (p : Plan) : ∀ (l : List Rw) (i : Nat), (keptL p i l).length ≤ l.length
  | [], _ => Nat.le_refl _
  | y :: l, i => by
    have := keptL_len p l (i + 1)
    show (kept1 p i y ++ _).length ≤ _
    rw [List.length_append]
    have : (kept1 p i y).length ≤ 1 := by unfold kept1; split; · simp
                                          · split <;> simp
    simp only [List.length_cons]; omega
theorem ovl_take {n : Nat} {t s : Key} (ht : t.length = 64) (hn : n ≤ 64) : ovl (t.take n).length (t.take n) s = ovl n t s := by
  unfold ovl
  rw [List.length_take, ht, Nat.min_eq_left hn, List.take_take, Nat.min_self]
theorem ovl_zero (t s : Key) : ovl 0 t s = s := by unfold ovl; simp
/-- a crash keeps what the document says -/
theorem keep_kept (p : Plan) : ∀ (l : List Rw) (i : Nat) (M0 M : List Key), Sec M → M.length = M0.length → RwOk l M.length → Full64 l → keepL p i (pend l M0) M = runW (keptL p i l) M
  | [], _, _, _, _, _, _, _ => rfl
  | x :: l, i, M0, M, hM, hn, hl, hf => by
    have hx := hl x List.mem_cons_self
    have hx2 := hf x List.mem_cons_self
    have hlt : x.1 < M.length := hx.1
    have hc := clampI_in p.cut
    have e1 : M.set x.1 (ovl (fN p i) x.2 (M[x.1]?.getD [])) = runW (kept1 p i x) M := by
      unfold kept1 fN frontI
      by_cases h1 : (i : Int) = p.torn
      · rw [if_pos h1, if_pos h1]
        show _ = Av.put1 M _
        unfold Av.put1
        show _ = M.set x.1 (ovl (x.2.take _).length (x.2.take _) _)
        rw [ovl_take hx2 (by omega)]
      · rw [if_neg h1, if_neg h1]
        by_cases h2 : i < 64
        · by_cases h3 : bitOf p.keep i = true
          · rw [if_pos h2, if_pos h3, if_pos ⟨h2, h3⟩]
            show M.set x.1 (ovl 64 x.2 _) = Av.put1 M x
            unfold Av.put1
            rw [hx2]
          · rw [if_pos h2, if_neg h3, if_neg (fun h => h3 h.2)]
            show M.set x.1 (ovl 0 x.2 _) = M
            rw [ovl_zero, secGet hlt, List.set_getElem_self]
        · rw [if_neg h2, if_neg (fun h => h2 h.1)]
          show M.set x.1 (ovl 0 x.2 _) = M
          rw [ovl_zero, secGet hlt, List.set_getElem_self]
    have hk : RwOk (kept1 p i x) M.length := fun y hy => by
      have := keptL_in p [x] i y (by show y ∈ kept1 p i x ++ []; rw [List.append_nil]; exact hy)
      obtain ⟨z, hz, h1, h2⟩ := this
      rcases List.mem_singleton.1 hz with rfl
      exact ⟨by rw [h1]; exact hlt, by omega⟩
    have hs : Sec (runW (kept1 p i x) M) := Sec.runW hM hk
    show keepL p (i + 1) (pend l (M0.set x.1 x.2)) (M.set x.1 (ovl (fN p i) x.2 (M[x.1]?.getD []))) = runW (kept1 p i x ++ keptL p (i + 1) l) M
    rw [e1, runW_app]
    refine keep_kept p l (i + 1) _ _ hs (by rw [runW_len, List.length_set]; exact hn) (fun z hz => by rw [runW_len]; exact hl z (List.mem_cons_of_mem _ hz)) fun z hz => hf z (List.mem_cons_of_mem _ hz)
/-- a new device's sectors -/
def newL (n : Nat) : List Key := List.replicate n zK
theorem newL_len (n : Nat) : (newL n).length = n := List.length_replicate
theorem newL_sec (n : Nat) : Sec (newL n) := fun s hs => by rw [(List.mem_replicate.1 hs).2]; exact zK_len
/-- one sector, by the document: byte by byte, the last write that has it -/
def secR (l : List Rw) (n : Nat) : Key := l.foldl (fun b x => if x.1 = n then ovl x.2.length x.2 b else b) zK
theorem runW_get (n : Nat) : ∀ (l : List Rw) (M : List Key), n < M.length → RwOk l M.length → (runW l M)[n]?.getD [] = l.foldl (fun b x => if x.1 = n then ovl x.2.length x.2 b else b) (M[n]?.getD [])
  | [], _, _, _ => rfl
  | x :: l, M, hn, hl => by
    show (runW l (put1 M x))[n]?.getD [] = _
    rw [runW_get n l _ (by rw [put1_len]; exact hn) (fun z hz => by rw [put1_len]; exact hl z (List.mem_cons_of_mem _ hz))]
    rw [List.foldl_cons]
    congr 1
    unfold put1
    rw [List.getElem?_set]
    by_cases e : x.1 = n
    · subst e; simp [hn]
    · simp [e]
theorem secR_get {l : List Rw} {k n : Nat} (hn : n < k) (hl : RwOk l k) : (runW l (newL k))[n]?.getD [] = secR l n := by
  rw [runW_get n l _ (by rw [newL_len]; exact hn) (by rw [newL_len]; exact hl)]
  unfold secR newL
  congr 1
  rw [List.getElem?_replicate, if_pos hn]; rfl
theorem secR_len {l : List Rw} {k : Nat} (hl : RwOk l k) (n : Nat) : (secR l n).length = 64 := by
  unfold secR
  have : ∀ (l : List Rw) (b : Key), RwOk l k → b.length = 64 → (l.foldl (fun b x => if x.1 = n then ovl x.2.length x.2 b else b) b).length = 64 := by
    intro l
    induction l with
    | nil => intro b _ h; exact h
    | cons x l ih =>
      intro b hl hb
      rw [List.foldl_cons]
      refine ih _ (fun z hz => hl z (List.mem_cons_of_mem _ hz)) ?_
      split
      · rw [ovl_len2 (by have := (hl x List.mem_cons_self).2; omega), hb]
      · exact hb
  exact this l zK hl zK_len
theorem secR_app (l : List Rw) (x : Rw) (n : Nat) : secR (l ++ [x]) n = if x.1 = n then ovl x.2.length x.2 (secR l n) else secR l n := by
  unfold secR; rw [List.foldl_append]; rfl
end Go.Proofs.Ytdjdcpbakeahcaa.Av
