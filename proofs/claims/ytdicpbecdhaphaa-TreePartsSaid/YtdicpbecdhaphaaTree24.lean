/- tree: the law TreeParts holds of any ops and any text. No conditions. -/
import Derived.Test.YtdicpbecdhaphaaTree23
namespace Go.Proofs.Ytdicpbecdhaphaa.Av
open Go Go.RowKit Go.ChangeShapes Go.WideShapes Tre
set_option linter.unusedVariables false
set_option linter.unusedSimpArgs false
set_option maxRecDepth 100000
set_option maxHeartbeats 2000000

/-- pairs put into a tree, the last one first -/
def backT (V : Tr) (u : List Pr) : Tr := u.foldr (fun x t => Tr.put x.1 x.2 t) V
theorem backT_at (V : Tr) (u : List Pr) {i : Nat} (h : i < u.length) : backT V (u.drop i) = Tr.put u[i].1 u[i].2 (backT V (u.drop (i + 1))) := by
  rw [List.drop_eq_getElem_cons h]; rfl
theorem backT_good {V : Tr} {A u C : List Pr} (hs : Srt (A ++ u ++ C)) (hg : Tr.Good V) (hl : V.toL = A ++ C) : ∀ (k i : Nat), i + k = u.length → Tr.Good (backT V (u.drop i)) ∧ (backT V (u.drop i)).toL = A ++ u.drop i ++ C
  | 0, i, h => by
    obtain rfl : i = u.length := by omega
    rw [List.drop_length, List.append_nil]; exact ⟨hg, hl⟩
  | k + 1, i, h => by
    obtain ⟨g, e⟩ := backT_good hs hg hl k (i + 1) (by omega)
    have hi : i < u.length := by omega
    obtain ⟨g2, e2⟩ := g.put u[i].1 u[i].2
    rw [backT_at V u hi]
    exact ⟨g2, by rw [e2, e, back_put hs hi]⟩
theorem tparts_ok (os : List OpP) (hl : os.length ≤ 9223372036854775807) (p : Key) (hpl : p.length ≤ 9223372036854775807) : SP 7 [.vs os.length (opC os), T p] (B true) := by
  by_cases h : Over13 os
  · exact tparts_over os p (over13_yes hl h) awake14_ok
  by_cases hk : 150 < p.length
  · exact tparts_long os p (by rw [bs_size]; exact hk) (over13_no h) awake14_ok
  have m := made_of h
  generalize Tr.apply os .nil = U at m
  generalize applyL os [] = r at m
  have ml := m.len
  have mr := m.list
  have srt := m.good.srt
  have hcn := m.cn
  have hwt := m.wt
  have hby := m.bytes
  obtain ⟨gV, eV⟩ := m.good.drop p
  have cd := tdrop_ok (t := U) (p := p) ⟨by omega, by omega⟩ (by omega)
  rw [mr] at eV
  generalize Tr.drop p U = V at gV eV cd
  have srt2 : Srt r := by rw [← mr]; exact srt
  obtain ⟨A, C, q1, q2, q3⟩ := parts p srt2
  have hat := fun i (hi : i < (underL p r).length) => under_at (p := p) srt2 hi
  have hud := under_drop p r
  have hcu : (underL p r).length ≤ r.length := List.length_filter_le _ _
  obtain ⟨u, hu⟩ : ∃ u, u = underL p r := ⟨_, rfl⟩
  have key : ∀ x ∈ U.toL, x.1.length ≤ 1000000000 := fun x hx => by rw [mr] at hx; have := m.key x hx; omega
  have t1 := told_ok U p 1000 srt (by rw [mr]; omega) key (by omega)
  rw [mr, List.take_of_length_le (by show _ ≤ 1000; omega)] at t1
  rw [← hu] at q1 hat t1 hcu
  have hV : V.toL = A ++ C := eV.trans q2
  have keyV : ∀ x ∈ V.toL, x.1.length ≤ 1000000000 := fun x hx => by
    rw [hV] at hx
    have : x ∈ r := by rw [q1]; simp only [List.mem_append] at hx ⊢; rcases hx with h | h <;> simp [h]
    have := m.key x this; omega
  have hlen := congrArg List.length q1
  simp only [List.length_append] at hlen
  have hbl := congrArg bytesL q1
  rw [bytesL_app, bytesL_app] at hbl
  have t2 := told_ok V p 1000 gV.srt (by rw [hV]; simp only [List.length_append]; omega) keyV (by omega)
  rw [eV, hud] at t2
  have l1 := len_ok_ V
  rw [Tr.cn_len, hV] at l1
  have l2 := len_ok_ U
  rw [Tr.cn_len, mr] at l2
  have b1 := bytes_ok V
  rw [Tr.wt_len, hV, bytesL_app] at b1
  have b3 := bytes_ok U
  rw [Tr.wt_len, mr] at b3
  have hs : Srt (A ++ u ++ C) := by rw [← q1]; exact srt2
  have hS := fun i (hi : i ≤ u.length) => backT_good hs gV hV (u.length - i) i (by omega)
  have hrk : rankL p r ≤ 50 := by rw [← q3]; omega
  have hum : ∀ i (hi : i < u.length), u[i] ∈ r := fun i hi => by rw [q1]; simp [List.getElem_mem hi]
  refine tparts_walk os p U V u r (fun i => backT V (u.drop i)) (A ++ C).length ((bytesL A + bytesL C : Nat) : Int) (bytesL u) ((bytesL r : Nat) : Int) (rankL p r) (by rw [bs_size]; omega) (by omega) (by omega) (by omega) (by omega) (by omega) (by omega) (by omega) (by omega)
    (by rw [hlen, List.length_append]; omega) (by show backT V (u.drop u.length) = V; rw [List.drop_length]; rfl) (over13_no h) awake14_ok m.own m.tree t1 cd t2 l1 l2 b1 (pbytes_ok u (by omega) (by omega) _ rfl) b3 ?_ ?_ ?_ ?_ ?_ ?_
  · intro i hi
    exact rank_ok U _ (by omega) _ ((Tr.rank_toL srt).trans (by rw [mr, hat i hi]; omega))
  · intro i hi
    obtain ⟨g, e⟩ := hS (i + 1) (by omega)
    show SP _ _ (trA (backT V (u.drop i)))
    rw [backT_at V u hi]
    have kk := m.key _ (hum i hi)
    have hd : (u.drop (i + 1)).length ≤ u.length := by rw [List.length_drop]; omega
    have hb : bytesL (u.drop (i + 1)) ≤ bytesL u := by
      have e1 : bytesL (u.take (i + 1)) + bytesL (u.drop (i + 1)) = bytesL u := by rw [← bytesL_app, List.take_append_drop]
      omega
    refine tput_ok ⟨?_, ?_⟩
    · rw [Tr.cn_len, e]; simp only [List.length_append]; omega
    · have k2 := key_le (hum i hi)
      rw [Tr.wt_len, e, bytesL_app, bytesL_app]; omega
  · intro i hi
    have := at_pos U i (by omega) (by omega) (by omega) (some r[i]) ((Tr.at_toL U i (by omega)).trans (by rw [mr, Int.toNat_natCast, List.getElem?_eq_getElem hi]))
    exact this
  · intro i hi
    have := get_ok U r[i].1 (some r[i].2) ((Tr.get_toL srt).trans (by rw [mr]; exact getL_of_mem srt2 (List.getElem_mem hi)))
    exact this
  · intro i hi
    exact rank_ok U _ (by omega) _ ((Tr.rank_toL srt).trans (by rw [mr, rankL_at srt2 hi]))
  · obtain ⟨g, e⟩ := hS 0 (by omega)
    rw [List.drop_zero] at e g
    have c := same_ok g m.good (by rw [e, ← q1]; omega) (by rw [e, ← q1, ← mr]; exact key)
    rw [e, ← q1, mr, decide_eq_true rfl] at c
    exact c
theorem treeParts_walk (rows : List (List Value)) (k : Nat) (F : Nat → Nat → Prop) (v : Value) (s : List UInt8) (w : World) (hq : rows.length = k) (hz : k ≤ 9223372036854775807)
    (hok : ∀ r ∈ rows, CellsOk [.int .u8, .str, .str] r) (hlo : ∀ g j, F g j → g < w.heap.size) (hrep : ∀ F' : Nat → Nat → Prop, (∀ g j, F g j → F' g j) → Rep w p0 c0 F' noD (.vs k (rows.flatten.map .ex)) v) (hs : s.length ≤ 9223372036854775807) :
    Calls Try.prog 7 #[v, .string (bs s)] w fun e w' => e = .returned (.bool true) ∧ Below w.heap.size w w' := by
  obtain ⟨os, e1, e2⟩ := rows_O hok
  have hr := hrep F fun _ _ h => h
  rw [e2, ← hq, ← e1] at hr
  refine calls_at (tparts_ok os (by omega) s hs) w F hlo _ rfl fun j hj => ?_
  match j, hj with
  | 0, _ => exact hr
  | 1, _ => exact .ex _ _
end Go.Proofs.Ytdicpbecdhaphaa.Av
