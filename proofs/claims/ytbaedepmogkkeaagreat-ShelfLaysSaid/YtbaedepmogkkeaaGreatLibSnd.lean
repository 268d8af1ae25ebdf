/- Go's library: copies of a text, texts put together, as contracts of the abstract machine. No conditions but that lengths are what memory holds. -/
import Derived.Test.YtbaedepmogkkeaaGreatStamp3
import Derived.Test.YtbaedepmogkkeaaGreatShelf
namespace Go.Proofs.YtbaedepmogkkeaaGreat.Av
open Go Go.RowKit
set_option linter.unusedVariables false
set_option linter.unusedSimpArgs false
set_option maxRecDepth 100000

theorem repeat_snd (l : List UInt8) (c : Nat) (hc : c ≤ 9223372036854775807) (hl : l.length * c ≤ 140737488355328) : SP 130 [T l, Z c] (T (Lib.repeatL l c)) := by
  have hd : (bs l).data.toList = l := by simp [bs]
  have hsz : (bs l).size = l.length := bs_size l
  refine sound_ex (vs := [.string (bs l), .int .i64 c]) Tryz.func130 (by kernel_rfl) rfl (fun w => ?_)
  have := Tryz.strings_Repeat (bs l) c w hc (by rw [hsz]; exact hl)
  rw [hd] at this
  exact this
theorem join_snd (L : List (List UInt8)) (sep : List UInt8) (hn : L.length ≤ 140737488355328) (hl : (Lib.join L sep).length ≤ 140737488355328) : SP 134 [.vs L.length (L.map T), T sep] (T (Lib.join L sep)) := by
  have hd : ∀ l : List UInt8, (bs l).data.toList = l := fun l => by simp [bs]
  refine ⟨enters Tryz.func134 (by kernel_rfl) rfl, fun w F xs hs hr hF => ?_⟩
  have h0 := hr 0 (by simp)
  have h1 := hr 1 (by simp)
  simp only [List.getElem_cons_zero, List.getElem_cons_succ] at h0 h1
  have h1 := h1.ex_inv
  have hx : ∃ v, xs = #[v, .string (bs sep)] ∧ xs.getD 0 undef = v := by
    have hs2 : xs.size = 2 := by simpa using hs
    refine ⟨xs.getD 0 undef, ?_, rfl⟩
    apply Array.ext
    · rw [hs2]; rfl
    · intro i hi hi2
      match i, hi with
      | 0, hi => simp [hi]
      | 1, hi =>
        have : xs.getD 1 undef = xs[1] := by simp [hi]
        rw [← this, h1]; rfl
  obtain ⟨v, rfl, hv⟩ := hx
  rw [hv] at h0
  rcases h0.vs_inv with ⟨q1, q2, rfl⟩ | ⟨g, o, k, u, q1, rfl, q2⟩
  · have hL : L = [] := List.eq_nil_of_length_eq_zero q1
    subst hL
    refine (Tryz.strings_Join_none none 0 (bs sep) w).mono ?_
    rintro e w' ⟨rfl, rfl⟩
    exact ⟨_, F, rfl, Below.refl _ _, fun _ _ h => h, fun _ _ h => .inl h, .ex _ _⟩
  · by_cases h0 : L.length = 0
    · have hL : L = [] := List.eq_nil_of_length_eq_zero h0
      subst hL
      refine (Tryz.strings_Join_none (some ⟨g, o, none⟩) k (bs sep) w).mono ?_
      rintro e w' ⟨rfl, rfl⟩
      exact ⟨_, F, rfl, Below.refl _ _, fun _ _ h => h, fun _ _ h => .inl h, .ex _ _⟩
    · have hcell : ∀ (j : Nat) x, (L.map bs)[j]? = some x → w.cell? ⟨g, o + j, none⟩ = some (.string x) := by
        intro j x hj
        have hlt : j < L.length := by have := (List.getElem?_eq_some_iff.1 hj).1; simpa using this
        have hj2 : j < (L.map T).length := by simpa using hlt
        have hr2 := q2.2 j hj2
        have e : (L.map T)[j] = AV.ex (.string (bs L[j])) := by simp
        rw [e] at hr2
        have hr2 := hr2.ex_inv
        simp [hlt] at hj
        rw [(q2.1 j hj2).2, hr2, hj]
      have hg : g < w.heap.size := by
        have hj2 : 0 < (L.map T).length := by simp; omega
        exact hF _ _ (q2.1 0 hj2).1
      have hmap : (L.map bs).map (fun x => x.data.toList) = L := by
        rw [List.map_map]
        conv => rhs; rw [← List.map_id L]
        apply List.map_congr_left
        intro l _
        exact hd l
      have := Tryz.strings_Join g o k (L.map bs) (bs sep) w hcell hg (by simpa using hn) (by simpa using q1) (by rw [hmap, hd]; exact hl)
      rw [hmap, hd, List.length_map] at this
      refine this.mono ?_
      rintro e w' ⟨rfl, hb⟩
      exact ⟨_, F, rfl, hb, fun _ _ h => h, fun _ _ h => .inl h, .ex _ _⟩
end Go.Proofs.YtbaedepmogkkeaaGreat.Av
