/- What the claim stands on, Rw19: contracts of functions and plain facts. No conditions. -/
import Derived.Test.YtbaedepmogkkeaaGreatRw18
import Derived.Test.YtbaedepmogkkeaaGreatRw16
namespace Go.Proofs.YtbaedepmogkkeaaGreat.Av
set_option maxHeartbeats 1000000
open Go Go.RowKit Tre
set_option linter.unusedVariables false
set_option linter.unusedSimpArgs false
set_option maxRecDepth 100000
def prC (l : List Pr) : List AV := l.flatMap fun p => [T p.1, T p.2]
theorem prC_len (l : List Pr) : (prC l).length = l.length * 2 := by
 induction l with
 | nil => rfl
 | cons o l ih => simp only [prC, List.flatMap_cons, List.length_append, List.length_cons, List.length_nil] at ih ⊢; omega
theorem prC_app (l m : List Pr) : prC (l ++ m) = prC l ++ prC m := by simp [prC]
theorem prC_at {l : List Pr} {i : Nat} (h : i < l.length) : ∀ j v, ([T (l[i]).1, T (l[i]).2] : List AV)[j]? = some v → (prC l)[i * 2 + j]? = some v := by
 induction l generalizing i with
 | nil => simp at h
 | cons o l ih =>
  intro j v hv
  have e : prC (o :: l) = [T o.1, T o.2] ++ prC l := rfl
  cases i with
  | zero =>
   simp only [List.getElem_cons_zero] at hv
   have hj := (List.getElem?_eq_some_iff.1 hv).1
   rw [e, Nat.zero_mul, Nat.zero_add, List.getElem?_append_left hj]
   exact hv
  | succ i =>
   have := ih (i := i) (by simpa using h) j v (by simpa using hv)
   rw [e, List.getElem?_append_right (by simp; omega)]
   rw [← this]
   congr 1
   simp; omega
theorem hsP : sizeT Tryz.prog 212 = 2 := by kernel_rfl
theorem prK {l : List Pr} {i : Nat} (h : i < l.length) : (prC l)[mulS (i : Int).toNat (sizeT Tryz.prog 212) + 0]? = some (T (l[i]).1) := by
 rw [hsP, mulS_eq, Int.toNat_natCast]; exact prC_at h 0 _ rfl
theorem prV {l : List Pr} {i : Nat} (h : i < l.length) : (prC l)[mulS (i : Int).toNat (sizeT Tryz.prog 212) + 1]? = some (T (l[i]).2) := by
 rw [hsP, mulS_eq, Int.toNat_natCast]; exact prC_at h 1 _ rfl
theorem prW {l : List Pr} {i : Nat} (h : i < l.length) : ([T (l[i]).1, T (l[i]).2] : List AV).length = sizeT Tryz.prog 212 ∧ ∀ j v, ([T (l[i]).1, T (l[i]).2] : List AV)[j]? = some v → (prC l)[mulS (i : Int).toNat (sizeT Tryz.prog 212) + j]? = some v := by
 rw [hsP, mulS_eq, Int.toNat_natCast]; exact ⟨rfl, prC_at h⟩
theorem one_pr (l : List Pr) : ∀ v ∈ prC l, one1 v = true := by
 intro v hv
 obtain ⟨p, _, hp⟩ := List.mem_flatMap.1 hv
 rcases List.mem_cons.1 hp with rfl | hp
 ·rfl
 ·rw [List.mem_singleton] at hp; subst hp; rfl
theorem room_p {k : Nat} (hk : k ≤ 1000000000000) : room k (bytesT Tryz.prog 212) := by
 rw [show bytesT Tryz.prog 212 = 32 by kernel_rfl]; unfold room; omega
theorem pre2 (k v : Key) : ([T k, T v] : List AV).length = 1 * sizeT Tryz.prog 212 ∧ ∀ u ∈ ([T k, T v] : List AV), one1 u = true := by
 rw [hsP]
 exact ⟨rfl, one_pr [(k, v)]⟩
theorem prC_take (l : List Pr) (i : Nat) : takeL (prC l) (mulS (0 : Int).toNat (sizeT Tryz.prog 212)) (mulS ((i : Int).toNat - (0 : Int).toNat) (sizeT Tryz.prog 212)) = prC (l.take i) := by
 rw [hsP, mulS_eq, mulS_eq]
 simp only [Int.toNat_natCast, Int.toNat_zero, Nat.zero_mul, Nat.sub_zero, takeL, List.drop_zero]
 induction l generalizing i with
 | nil => simp [prC]
 | cons o l ih =>
  cases i with
  | zero => simp [prC]
  | succ i =>
   have e : ∀ m, prC (o :: m) = T o.1 :: T o.2 :: prC m := fun m => rfl
   rw [List.take_succ_cons, e, e, ← ih i]
   rw [show (i + 1) * 2 = i * 2 + 1 + 1 by omega, List.take_succ_cons, List.take_succ_cons]
theorem prC_drop (l : List Pr) (i n : Nat) (hn : l.length = n) (hi : i ≤ n) : takeL (prC l) (mulS (i : Int).toNat (sizeT Tryz.prog 212)) (mulS ((n : Int).toNat - (i : Int).toNat) (sizeT Tryz.prog 212)) = prC (l.drop i) := by
 have e := prC_app (l.take i) (l.drop i)
 rw [List.take_append_drop] at e
 have h1 := prC_len (l.take i)
 have h2 := prC_len (l.drop i)
 rw [List.length_take] at h1
 rw [List.length_drop] at h2
 rw [hsP, mulS_eq, mulS_eq]
 simp only [Int.toNat_natCast, takeL]
 rw [e, List.drop_left' (by omega), List.take_of_length_le (by omega)]
theorem begins_ok (x p : Key) (hx : x.length ≤ 9223372036854775807) (hp : p.length ≤ 9223372036854775807) : SP 163 [T x, T p] (B (begins p x)) := by
 have s1 := bs_size x
 have s2 := bs_size p
 by_cases h : p.length ≤ x.length
 ·have e : (((bs x).extract (0 : Int).toNat ((bs p).size : Int).toNat).toList == (bs p).toList) = begins p x := by
   rw [bs_cut, bsl_, bsl_, ← begins_take h, bs_size]
   simp
  rw [← e]
  refine S_ Tryz.func163 (by kernel_rfl) rfl (Nat.le_of_ble_eq_true rfl) ?_
  show avc Tryz.prog SP _ _ _ _ _ _
  dsimp only [avc, startS, Array.toList, Tryz.f163]
  exact Av.W
 ·have e : begins p x = false := by
   unfold begins
   rw [Bool.eq_false_iff]
   intro hb
   have := (List.isPrefixOf_iff_prefix.1 hb).length_le
   omega
  rw [e]
  refine S_ Tryz.func163 (by kernel_rfl) rfl (Nat.le_of_ble_eq_true rfl) ?_
  show avc Tryz.prog SP _ _ _ _ _ _
  dsimp only [avc, startS, Array.toList, Tryz.f163]
  exact Av.W
def PrsOk (l : List Pr) : Prop := l.length ≤ 1000000 ∧ ∀ p ∈ l, p.1.length ≤ 1000000000 ∧ p.2.length ≤ 1000000000
theorem filter_step (f : Pr → Bool) (l : List Pr) {i : Nat} (h : i < l.length) : (l.take (i + 1)).filter f = (l.take i).filter f ++ if f l[i] = true then [l[i]] else [] := by
 rw [List.take_add_one, List.getElem?_eq_getElem h, List.filter_append]
 congr 1
 show List.filter f [l[i]] = _
 simp only [List.filter_cons, List.filter_nil]
abbrev rowP (cs : List AV) : ABlk := ⟨cs, some 212, false, true⟩
def FInv (f : Pr → Bool) (l : List Pr) (k : Key) (vs : List AV) (bl : List ABlk) : Prop :=
 ∃ (i m : Nat) (D : List AV), i ≤ l.length ∧ m = ((l.take i).filter f).length ∧ D = prC ((l.take i).filter f) ∧ (vs = [Z i, .sl 0 m, .vs l.length (prC l), T k] ∧ bl = [rowP D])
theorem FInv.start (f : Pr → Bool) (l : List Pr) (k : Key) : FInv f l k [Z 0, .sl 0 0, .vs l.length (prC l), T k] [rowP []] := ⟨0, 0, [], by omega, rfl, rfl, rfl, rfl⟩
theorem FInv.hit {f : Pr → Bool} {l : List Pr} {k : Key} {i : Nat} (h : i < l.length) (hf : f l[i] = true) : FInv f l k [Z ((i : Int) + 1), .sl 0 (((l.take i).filter f).length + 1), .vs l.length (prC l), T k] [rowP (prC ((l.take i).filter f) ++ [T (l[i]).1, T (l[i]).2])] :=
 ⟨i + 1, _, _, by omega, by rw [filter_step f l h, if_pos hf, List.length_append]; rfl, by rw [filter_step f l h, if_pos hf, prC_app]; rfl, rfl, rfl⟩
theorem FInv.miss {f : Pr → Bool} {l : List Pr} {k : Key} {i : Nat} (h : i < l.length) (hf : f l[i] = false) : FInv f l k [Z ((i : Int) + 1), .sl 0 (((l.take i).filter f).length), .vs l.length (prC l), T k] [rowP (prC ((l.take i).filter f))] :=
 ⟨i + 1, _, _, by omega, by rw [filter_step f l h, if_neg (by rw [hf]; decide), List.append_nil], by rw [filter_step f l h, if_neg (by rw [hf]; decide), List.append_nil], rfl, rfl⟩
def muI (n : Nat) : List AV → List ABlk → Nat
 | .ex (.int _ i) :: _, _ => n - i.toNat
 | _, _ => 0
theorem pdel_ok (l : List Pr) (k : Key) (hl : PrsOk l) : SP 116 [.vs l.length (prC l), T k] (.vs (delL k l).length (prC (delL k l))) := by
 have hn := hl.1
 obtain ⟨R, hR⟩ : ∃ R, R = delL k l := ⟨_, rfl⟩
 rw [← hR]
 refine S_ Tryz.func116 (by kernel_rfl) rfl (Nat.le_of_ble_eq_true rfl) ?_
 show avc Tryz.prog SP _ _ _ _ _ _
 dsimp only [avc, startS, Array.toList, Tryz.f116]
 refine Av.Wk ?_
 refine ⟨[6, 5, 0, 1], [(5, some 212)], FInv (fun p => p.1 != k) l k, muI l.length, ?_, ?_⟩
 ·exact FInv.start _ l k
 rintro vs bl ⟨i, m, D, hi, hm, hD, rfl, rfl⟩
 have hml : m ≤ i := by rw [hm]; exact Nat.le_trans (List.length_filter_le _ _) (by rw [List.length_take]; omega)
 have hDl : D.length = m * sizeT Tryz.prog 212 := by rw [hD, prC_len, hm, hsP]
 by_cases hlt : i < l.length
 ·have h1 := prK hlt
  have h2 := prW hlt
  have hdec : muI l.length [Z ((i : Int) + 1)] [] < muI l.length [Z i] [] := by show l.length - ((i : Int) + 1).toNat < l.length - (i : Int).toNat; omega
  have hb : (!((bs (l[i]).1).toList == (bs k).toList)) = ((l[i]).1 != k) := by rw [bsl_, bsl_]; rfl
  cases hf : ((l[i]).1 != k) with
  | true =>
   rw [hf] at hb
   have fin := FInv.hit (f := fun p => p.1 != k) (k := k) hlt hf
   rw [← hm, ← hD] at fin
   clear hR
   repeat' ((try conv => whnf) <;> first | refine Av.Va ?_ | (refine ⟨_, h1, ?_⟩) | (refine br_t hb ?_) | (refine ⟨_, h2, ?_⟩) | (refine ⟨false, ?_⟩) | (refine And.intro ⟨room_p (by omega), hDl, pre2 _ _⟩ ?_) | exact True.intro | refine Av.Vb ?_ | exact ⟨rfl, rfl, rfl⟩ | exact ⟨rfl, rfl⟩ | (refine Av.Vc ?_ ?_ <;> intro hBr <;> first | (exfalso; omega) | (exfalso; contradiction) | (exfalso; exact hBr rfl) | skip) | refine Av.Vd ?_ | exact rfl)
   exact hdec
  | false =>
   rw [hf] at hb
   have fin := FInv.miss (f := fun p => p.1 != k) (k := k) hlt hf
   rw [← hm, ← hD] at fin
   clear hR
   exact Av.W
 ·obtain rfl : i = l.length := by omega
  rw [List.take_length] at hm hD
  have e1 : R.length = m := by rw [hR, hm]; rfl
  have e2 : prC R = D := by rw [hR, hD]; rfl
  rw [e1, e2]
  clear hR hm hD e1 e2 hml hDl
  exact Av.W
theorem pdrop_ok (l : List Pr) (k : Key) (hl : PrsOk l) (hk : k.length ≤ 1000000000) : SP 117 [.vs l.length (prC l), T k] (.vs (dropL k l).length (prC (dropL k l))) := by
 have hn := hl.1
 obtain ⟨R, hR⟩ : ∃ R, R = dropL k l := ⟨_, rfl⟩
 rw [← hR]
 refine S_ Tryz.func117 (by kernel_rfl) rfl (Nat.le_of_ble_eq_true rfl) ?_
 show avc Tryz.prog SP _ _ _ _ _ _
 dsimp only [avc, startS, Array.toList, Tryz.f117]
 refine Av.Wk ?_
 refine ⟨[6, 5, 0, 1], [(5, some 212)], FInv (fun p => !begins k p.1) l k, muI l.length, ?_, ?_⟩
 ·exact FInv.start _ l k
 rintro vs bl ⟨i, m, D, hi, hm, hD, rfl, rfl⟩
 have hml : m ≤ i := by rw [hm]; exact Nat.le_trans (List.length_filter_le _ _) (by rw [List.length_take]; omega)
 have hDl : D.length = m * sizeT Tryz.prog 212 := by rw [hD, prC_len, hm, hsP]
 by_cases hlt : i < l.length
 ·have h1 := prK hlt
  have h2 := prW hlt
  have hdec : muI l.length [Z ((i : Int) + 1)] [] < muI l.length [Z i] [] := by show l.length - ((i : Int) + 1).toNat < l.length - (i : Int).toNat; omega
  have hx := hl.2 _ (List.getElem_mem hlt)
  have c := begins_ok (l[i]).1 k (by omega) (by omega)
  cases hf : begins k (l[i]).1 with
  | false =>
   rw [hf] at c
   have fin := FInv.hit (f := fun p => !begins k p.1) (k := k) hlt (by simp only [hf]; rfl)
   rw [← hm, ← hD] at fin
   clear hR
   repeat' ((try conv => whnf) <;> first | refine Av.Va ?_ | (refine ⟨_, h1, ?_⟩) | refine ⟨_, c, ?_⟩ | (refine ⟨_, h2, ?_⟩) | (refine ⟨false, ?_⟩) | (refine And.intro ⟨room_p (by omega), hDl, pre2 _ _⟩ ?_) | exact True.intro | refine Av.Vb ?_ | exact ⟨rfl, rfl, rfl⟩ | exact ⟨rfl, rfl⟩ | (refine Av.Vc ?_ ?_ <;> intro hBr <;> first | (exfalso; omega) | (exfalso; contradiction) | (exfalso; exact hBr rfl) | skip) | refine Av.Vd ?_ | exact rfl)
   exact hdec
  | true =>
   rw [hf] at c
   have fin := FInv.miss (f := fun p => !begins k p.1) (k := k) hlt (by simp only [hf]; rfl)
   rw [← hm, ← hD] at fin
   clear hR
   exact Av.W
 ·obtain rfl : i = l.length := by omega
  rw [List.take_length] at hm hD
  have e1 : R.length = m := by rw [hR, hm]; rfl
  have e2 : prC R = D := by rw [hR, hD]; rfl
  rw [e1, e2]
  clear hR hm hD e1 e2 hml hDl
  exact Av.W
end Go.Proofs.YtbaedepmogkkeaaGreat.Av
namespace Go.Proofs.YtbaedepmogkkeaaGreat.Av
open Go Go.RowKit Tre
set_option linter.unusedVariables false
set_option linter.unusedSimpArgs false
set_option maxRecDepth 100000
set_option maxHeartbeats 2000000
abbrev encP (x : Pr) : List Value := [.string (bs x.1), .string (bs x.2)]
theorem u_rel {t : Tr} {p : Key} {Y : Value} {w W : World} {F : Nat → Nat → Prop} {gh : Array Value} {a : Act} {sl : Sl} (hsz : a.tmps.size = 35) (hkeep : ∀ t, t < 3 → a.tmps.getD t undef = gh.getD t undef) (hd : a.defers = [])
  (hF : ∀ g j, F g j → W.cell? ⟨g, j, none⟩ = w.cell? ⟨g, j, none⟩ ∧ (w.cell? ⟨g, j, none⟩).isSome = true) (h0 : gh.getD 0 undef = Y) (h1 : Rep w p0 c0 F noD (.vp [ndA t] 0) (gh.getD 1 undef)) (h2 : Rep w p0 c0 F noD (.vp [T p] 0) (gh.getD 2 undef))
  (hsl : ∀ t v, look sl t = some v → ∃ u, v = .ex u ∧ a.tmps.getD t undef = u) : Rel Tryz.prog ⟨W, fun _ => False, gh, []⟩ F ⟨35, 3⟩ (ltD 0) p0 c0 F ((0, .ex Y) :: (1, .vp [ndA t] 0) :: (2, .vp [T p] 0) :: sl) [] a W := by
 have ext : Ext w noD p0 c0 F W (ltD 0) p0 c0 F := ⟨fun _ h => h.elim, fun _ _ h => h, fun g j hj => (hF g j hj).1⟩
 refine ⟨fun t v ht => ?_, hsz, hkeep, hd, fun r b h => by simp [look] at h, fun r r' b b' g h => by simp [look] at h, fun r b g h => by simp [look] at h, fun g j hj => ⟨?_, .inl hj⟩, fun r b g j h => by simp [look] at h, fun _ _ h => h, fun g j hj => ?_, Held.refl _, fun _ _ _ => rfl, fun r b K g h => by simp [look] at h⟩
 ·rw [look_cons] at ht
  by_cases e0 : 0 = t
  ·subst e0
   rw [if_pos rfl] at ht; injection ht with ht; subst ht
   rw [hkeep 0 (by omega), h0]; exact .ex _ _
  rw [if_neg e0, look_cons] at ht
  by_cases e1 : 1 = t
  ·subst e1
   rw [if_pos rfl] at ht; injection ht with ht; subst ht
   rw [hkeep 1 (by omega)]; exact h1.mono ext
  rw [if_neg e1, look_cons] at ht
  by_cases e2 : 2 = t
  ·subst e2
   rw [if_pos rfl] at ht; injection ht with ht; subst ht
   rw [hkeep 2 (by omega)]; exact h2.mono ext
  rw [if_neg e2] at ht
  obtain ⟨u, rfl, hu⟩ := hsl t v ht
  rw [hu]; exact .ex _ _
 all_goals
  obtain ⟨cs, t, fr, hh⟩ := cells_of_some (w := W) (g := g) (j := j) (by rw [(hF g j hj).1]; exact (hF g j hj).2)
  exact (Array.getElem?_eq_some_iff.1 hh).1
noncomputable abbrev ops3 : List Oper := match Tryz.f170.body with
 | some (.seq _ (.block _ (.loop (.seq (.block _ (.seq _ (.seq (.region _ ops _) _))) _)))) => ops.toList
 | _ => []
theorem look4 {a : Act} {v4 : Value} (h4 : a.tmps.getD 4 undef = v4) : ∀ t v, look [(4, AV.ex v4)] t = some v → ∃ u, v = .ex u ∧ a.tmps.getD t undef = u := by
 intro t v h
 rw [look_cons] at h
 by_cases e : 4 = t
 ·subst e; rw [if_pos rfl] at h; injection h with h; subst h; exact ⟨_, rfl, h4⟩
 ·rw [if_neg e] at h; simp [look] at h
theorem lookc {a : Act} {q : Nat} {vq : Value} {sl : Sl} (hq : a.tmps.getD q undef = vq) (hs : ∀ t v, look sl t = some v → ∃ u, v = .ex u ∧ a.tmps.getD t undef = u) : ∀ t v, look ((q, AV.ex vq) :: sl) t = some v → ∃ u, v = .ex u ∧ a.tmps.getD t undef = u := by
 intro t v h
 rw [look_cons] at h
 by_cases e : q = t
 ·subst e; rw [if_pos rfl] at h; injection h with h; subst h; exact ⟨_, rfl, hq⟩
 ·rw [if_neg e] at h; exact hs t v h
theorem under1_ok (t : Tr) (p : Key) (L : List Pr) (r0 : Int) (hr0 : 0 ≤ r0) (hr1 : r0 + L.length ≤ 1000000000) (cr : SP 171 [trA t, T p] (Z r0))
  (ca : ∀ k (hk : k < L.length), SP 172 [trA t, Z (r0 + k)] (.tup [T L[k].1, T L[k].2, B true])) (cb : ∀ k (hk : k < L.length), SP 173 [T L[k].1, T p] (B true))
  (ce : SP 172 [trA t, Z (r0 + L.length)] (.tup [T [], T [], B false]) ∨ ∃ x : Pr, SP 172 [trA t, Z (r0 + L.length)] (.tup [T x.1, T x.2, B true]) ∧ SP 173 [T x.1, T p] (B false)) :
  SeqSound Tryz.prog 170 [.vp [ndA t] 0, .vp [T p] 0] encP L := by
 refine ⟨enters Tryz.func170 rfl rfl, fun w FF lb n hlb hrep hFF => ?_⟩
 intro l J Jx W hW hJ hJx hY hJ0
 obtain ⟨F, hFd⟩ : ∃ F : Nat → Nat → Prop, F = fun g j => FF g j ∧ (False ∨ (w.cell? ⟨g, j, none⟩).isSome = true) := ⟨_, rfl⟩
 have hF1 : ∀ g j, F g j → FF g j ∧ (w.cell? ⟨g, j, none⟩).isSome = true := fun g j hj => by rw [hFd] at hj; exact ⟨hj.1, hj.2.resolve_left id⟩
 have hrep : ∀ j (h : j < 2), Rep w p0 c0 F noD ([.vp [ndA t] 0, .vp [T p] 0] : List AV)[j] (lb.getD j undef) := fun j h => by rw [hFd]; exact (hrep j h).shrink (G := fun _ _ => False)
 have hFW : ∀ g j, F g j → W.cell? ⟨g, j, none⟩ = w.cell? ⟨g, j, none⟩ := fun g j hj => World.cell?_of_block (w := w) (a := ⟨g, j, none⟩) (hW.block g (hFF g j (hF1 g j hj).1))
 clear hFd
 obtain ⟨Y, hYd⟩ : ∃ Y : Value, Y = .func (.yield l) #[] #[] := ⟨_, rfl⟩
 rw [← hYd]
 refine callsIn_of_wp Tryz.func170 rfl trivial ?_ rfl
 obtain ⟨gh, hgd⟩ : ∃ gh : Array Value, gh = #[Y] ++ lb ++ Array.replicate (35 - (#[Y] ++ lb).size) undef := ⟨_, rfl⟩
 have hsz : gh.size = 35 := by rw [hgd]; simp [hlb]
 have hg0 : gh.getD 0 undef = Y := by
  rw [hgd]; simp only [Array.getD_eq_getD_getElem?]
  rw [Array.getElem?_append_left (by simp; omega), Array.getElem?_append_left (by simp)]
  simp
 have hg1 : gh.getD 1 undef = lb.getD 0 undef := by
  rw [hgd]; simp only [Array.getD_eq_getD_getElem?]
  rw [Array.getElem?_append_left (by simp [hlb]), Array.getElem?_append_right (by simp)]
  simp
 have hg2 : gh.getD 2 undef = lb.getD 1 undef := by
  rw [hgd]; simp only [Array.getD_eq_getD_getElem?]
  rw [Array.getElem?_append_left (by simp [hlb]), Array.getElem?_append_right (by simp)]
  simp
 have hx1 : Rep w p0 c0 F noD (.vp [ndA t] 0) (gh.getD 1 undef) := by rw [hg1]; exact hrep 0 (by omega)
 have hx2 : Rep w p0 c0 F noD (.vp [T p] 0) (gh.getD 2 undef) := by rw [hg2]; exact hrep 1 (by omega)
 show Code.wpIn _ _ _ _ _ { tmps := #[Y] ++ lb ++ Array.replicate (35 - (#[Y] ++ lb).size) undef, defers := [] } _
 rw [← hgd]
 clear hgd hg1 hg2 hrep
 -- the index, ahead of the loop
 have hst : Rel Tryz.prog ⟨W, fun _ => False, gh, []⟩ F ⟨35, 3⟩ (ltD 0) p0 c0 F [(0, .ex Y), (1, .vp [ndA t] 0), (2, .vp [T p] 0)] [] { tmps := gh, defers := [] } W :=
  u_rel hsz (fun _ _ => rfl) rfl (fun g j hj => ⟨hFW g j hj, (hF1 g j hj).2⟩) hg0 hx1 hx2 (fun t v h => by simp [look] at h)
 refine wpIn_seq (seg mixed rfl (K := fun e sl h nx => e = .norm ∧ slotOf sl 4 = Z r0) ?_ hst ?_)
 ·show avc Tryz.prog SP _ _ _ _ _ _
  dsimp only [avc, aops, startS, Array.toList]
  exact Av.W
 rintro e sl1 h1 nx1 p1 c1 F1 a1 w1 ⟨rfl, h4⟩ hb1 hr1
 show Code.wpIn _ _ _ (Code.block 0 (Code.loop (Code.seq (Code.block 1 (Code.seq _ (Code.seq _ (Code.cond _ Code.ret Code.skip)))) _))) _ _ _
 have hc1 : ∀ g j, F g j → w1.cell? ⟨g, j, none⟩ = w.cell? ⟨g, j, none⟩ := fun g j hj => (hr1.cell g j hj).trans (hFW g j hj)
 have hJ1 : J [] w1 := hJ [] W w1 none hJ0 (below_grown hb1) (fun r e => by cases e)
 have hWs : W.heap.size ≤ w1.heap.size := hb1.size
 refine wpIn_block (wpIn_loop_ghost (fun q a w' => ∃ (k : Nat) (pre : List {x // x ∈ L}), k ≤ L.length ∧ q = L.length - k ∧ pre.map (·.1) = L.take k ∧ J pre w' ∧ a.tmps.size = 35 ∧ a.defers = [] ∧ (∀ t, t < 3 → a.tmps.getD t undef = gh.getD t undef) ∧ a.tmps.getD 4 undef = .int .i64 (r0 + k) ∧ (∀ g j, F g j → w'.cell? ⟨g, j, none⟩ = w.cell? ⟨g, j, none⟩))
  L.length ⟨0, [], Nat.zero_le _, rfl, rfl, hJ1, hr1.size, hr1.defers, hr1.keep, (slot_ex hr1 h4).trans (by rw [Int.natCast_zero, Int.add_zero]), hc1⟩ ?_)
 clear hst hJ1 hc1 hr1 h4 hb1
 rintro q a w1 ⟨k, pre, hk, rfl, hpre, hJp, hs1, hd1, hk1, hi1, hc1⟩
 have hr := u_rel (t := t) (p := p) (Y := Y) (sl := [(4, Z (r0 + k))]) hs1 hk1 hd1 (fun g j hj => ⟨hc1 g j hj, (hF1 g j hj).2⟩) hg0 hx1 hx2 (look4 hi1)
 have hpl : pre.length = k := by have := congrArg List.length hpre; simpa [Nat.min_eq_left hk] using this
 refine wpIn_seq (wpIn_block (wpIn_seq ?_))
 by_cases hkl : k < L.length
 · -- one more
  have c1 := ca k hkl
  have c2 := cb k hkl
  obtain ⟨i, hi⟩ : ∃ i : Int, i = r0 + k := ⟨_, rfl⟩
  rw [← hi] at c1 hr hi1
  obtain ⟨key, hkey⟩ : ∃ s, s = L[k].1 := ⟨_, rfl⟩
  obtain ⟨val, hval⟩ : ∃ s, s = L[k].2 := ⟨_, rfl⟩
  rw [← hkey] at c1 c2
  rw [← hval] at c1
  refine seg mixed rfl (K := fun e sl h nx => e = .norm ∧ slotOf sl 4 = Z i ∧ slotOf sl 5 = T key ∧ slotOf sl 6 = T val ∧ slotOf sl 7 = B true) ?_ hr ?_
  ·show avc Tryz.prog SP _ _ _ _ _ _
   dsimp only [avc, aops, Array.toList]
   exact Av.W
  rintro e sl2 h2 nx2 p2 cc2 F2 a2 w2 ⟨rfl, q4, q5, q6, q7⟩ hb2 hr2
  have hJ2 : J pre w2 := hJ pre w1 w2 none hJp (below_grown hb2) (fun r e => by cases e)
  have hr3 := u_rel (t := t) (p := p) (Y := Y) (sl := [(7, B true), (6, T val), (5, T key), (4, Z i)]) hr2.size hr2.keep hr2.defers (W := w2) (fun g j hj => ⟨(hr2.cell g j hj).trans (hc1 g j hj), (hF1 g j hj).2⟩) hg0 hx1 hx2 (lookc (slot_ex hr2 q7) (lookc (slot_ex hr2 q6) (lookc (slot_ex hr2 q5) (look4 (slot_ex hr2 q4)))))
  have hc2 : ∀ g j, F g j → w2.cell? ⟨g, j, none⟩ = w.cell? ⟨g, j, none⟩ := fun g j hj => (hr2.cell g j hj).trans (hc1 g j hj)
  refine wpIn_seq (wpIn_region ?_)
  show wpOpsIn _ _ _ _ _ (List.range' 0 12 ++ [12, 13, 14]) _ _
  refine segOps (l := ops3.take 12) (i := 0) (K := fun sl h nx => slotOf sl 4 = Z i ∧ slotOf sl 28 = B false ∧ slotOf sl 29 = .ex Y ∧ slotOf sl 30 = T key ∧ slotOf sl 31 = T val) ?_ ?_ hr3 ?_
  ·intro j o h
   rw [List.getElem?_take] at h
   split at h
   ·rw [Nat.zero_add]; exact (Array.getElem?_toList).symm.trans h
   ·cases h
  ·show aops Tryz.prog SP _ _ _ _ _ _ _
   exact Av.W
  rintro sl3 h3 nx3 p3 cc3 F3 a3 w3 ⟨q4, q28, q29, q30, q31⟩ hb3 hr4
  have hJ3 : J pre w3 := hJ pre w2 w3 none hJ2 (below_grown hb3) (fun r e => by cases e)
  have hc3 : ∀ g j, F g j → w3.cell? ⟨g, j, none⟩ = w.cell? ⟨g, j, none⟩ := fun g j hj => (hr4.cell g j hj).trans (hc2 g j hj)
  have ht28 := slot_ex hr4 q28
  have he29 := slot_ex hr4 q29
  have ht30 := slot_ex hr4 q30
  have ht31 := slot_ex hr4 q31
  refine opsIn_want rfl ?_ (yield_in rfl rfl (fun _ => trivial) rfl (he29.trans hYd) (R := fun e W' =>
     (e = .returned (.bool true) ∧ J (pre ++ [⟨L[k], List.getElem_mem hkl⟩]) W' ∧ KpF FF w3 W') ∨ (e = .returned (.bool false) ∧ Jx (pre ++ [⟨L[k], List.getElem_mem hkl⟩]) W')) ?_ ?_)
  ·have e28 : a3.tmps[28]?.getD undef = .bool false := by rw [← Array.getD_eq_getD_getElem?]; exact ht28
   have e28' : a3.tmps[28]? = some (.bool false) := by
    cases h : a3.tmps[28]? with
    | none => rw [h] at e28; cases e28
    | some x => rw [h] at e28; exact congrArg some e28
   simp [Region.wanted, yielded, e28']
  ·have e : (#[Operand.tmp 30, .tmp 31].map a3.eval) = (encP L[k]).toArray := by
    have e1 : a3.eval (.tmp 30) = .string (bs key) := ht30
    have e2 : a3.eval (.tmp 31) = .string (bs val) := ht31
    rw [hkey] at e1
    rw [hval] at e2
    simp only [List.map_toArray, List.map_cons, List.map_nil]
    rw [e1, e2]
   rw [e]
   exact hY pre ⟨L[k], List.getElem_mem hkl⟩ w3 hJ3 (by omega)
  have epre : (pre ++ [(⟨L[k], List.getElem_mem hkl⟩ : {x // x ∈ L})]).map (·.1) = L.take (k + 1) := by
   rw [List.map_append, hpre]; simp
  rintro e W' (⟨rfl, hJ4, hKp⟩ | ⟨rfl, hJx4⟩)
  ·refine ⟨_, rfl, ?_⟩
   have hr5 := hr4.put (v := B true) (x := .bool true) (d := 32) (.ex _ _) (by decide) (by decide)
   have hc4 : ∀ g j, F g j → W'.cell? ⟨g, j, none⟩ = w.cell? ⟨g, j, none⟩ := fun g j hj => (hKp g j (hF1 g j hj).1).trans (hc3 g j hj)
   have hr6 := u_rel (t := t) (p := p) (Y := Y) (W := W') (sl := [(32, B true), (28, B false), (4, Z i)]) hr5.size hr5.keep hr5.defers (fun g j hj => ⟨hc4 g j hj, (hF1 g j hj).2⟩) hg0 hx1 hx2
    (lookc (slot_ex hr5 rfl) (lookc (slot_ex hr5 q28) (look4 (slot_ex hr5 q4))))
   show wpOpsIn _ _ _ _ _ (List.range' 13 2 ++ []) _ _
   refine segOps (l := ops3.drop 13) (i := 13) (K := fun sl h nx => slotOf sl 34 = B false ∧ slotOf sl 4 = Z i) ?_ ?_ hr6 ?_
   ·intro j o h
    rw [List.getElem?_drop] at h
    exact (Array.getElem?_toList).symm.trans h
   ·show aops Tryz.prog SP _ _ _ _ _ _ _
    exact Av.W
   rintro sl7 h7 nx7 p7 cc7 F7 a7 w7 ⟨q34, q4⟩ hb7 hr7
   have hJ7 : J (pre ++ [⟨L[k], List.getElem_mem hkl⟩]) w7 := hJ _ W' w7 none hJ4 (below_grown hb7) (fun r e => by cases e)
   have hc7 : ∀ g j, F g j → w7.cell? ⟨g, j, none⟩ = w.cell? ⟨g, j, none⟩ := fun g j hj => (hr7.cell g j hj).trans (hc4 g j hj)
   refine wpIn_cond_false (slot_ex hr7 q34) (wpIn_skip ?_)
   have hr8 := u_rel (t := t) (p := p) (Y := Y) (W := w7) (sl := [(4, Z i)]) hr7.size hr7.keep hr7.defers (fun g j hj => ⟨hc7 g j hj, (hF1 g j hj).2⟩) hg0 hx1 hx2 (look4 (slot_ex hr7 q4))
   refine seg mixed rfl (K := fun e sl h nx => e = .norm ∧ slotOf sl 4 = Z (i + 1)) ?_ hr8 ?_
   ·show avc Tryz.prog SP _ _ _ _ _ _
    dsimp only [avc, aops, Array.toList]
    exact Av.W
   rintro e sl9 h9 nx9 p9 cc9 F9 a9 w9 ⟨rfl, q4⟩ hb9 hr9
   refine ⟨L.length - (k + 1), by omega, k + 1, _, by omega, rfl, epre, hJ _ w7 w9 none hJ7 (below_grown hb9) (fun r e => by cases e), hr9.size, hr9.defers, hr9.keep, (slot_ex hr9 q4).trans (by rw [hi, Int.natCast_add, Int.add_assoc]; rfl), fun g j hj => (hr9.cell g j hj).trans (hc7 g j hj)⟩
  ·refine ⟨_, rfl, ?_⟩
   have hr5 := hr4.put (v := B false) (x := .bool false) (d := 32) (.ex _ _) (by decide) (by decide)
   -- behind the last round
   have hr6 : Rel Tryz.prog ⟨W', fun _ => False, gh, []⟩ (fun _ _ => False) ⟨35, 3⟩ (ltD 0) p0 c0 (fun _ _ => False) [(32, B false), (28, B false)] [] (a3.put (some 32) (.bool false)) W' := by
    refine ⟨fun t v ht => ?_, hr5.size, hr5.keep, hr5.defers, fun r b h => by simp [look] at h, fun r r' b b' g h => by simp [look] at h, fun r b g h => by simp [look] at h, fun g j hj => hj.elim, fun r b g j h => by simp [look] at h, fun _ _ h => h, fun g j hj => hj.elim, Held.refl _, fun _ _ _ => rfl, fun r b K g h => by simp [look] at h⟩
    rw [look_cons] at ht
    by_cases e : 32 = t
    ·subst e; rw [if_pos rfl] at ht; injection ht with ht; subst ht; rw [slot_ex (t := 32) (v := .bool false) hr5 rfl]; exact .ex _ _
    rw [if_neg e, look_cons] at ht
    by_cases e : 28 = t
    ·subst e; rw [if_pos rfl] at ht; injection ht with ht; subst ht; rw [slot_ex (t := 28) (v := .bool false) hr5 q28]; exact .ex _ _
    ·rw [if_neg e] at ht; simp [look] at ht
   show wpOpsIn _ _ _ _ _ (List.range' 13 2 ++ []) _ _
   refine segOps (l := ops3.drop 13) (i := 13) (K := fun sl h nx => slotOf sl 34 = B true) ?_ ?_ hr6 ?_
   ·intro j o h
    rw [List.getElem?_drop] at h
    exact (Array.getElem?_toList).symm.trans h
   ·show aops Tryz.prog SP _ _ _ _ _ _ _
    exact Av.W
   rintro sl7 h7 nx7 p7 cc7 F7 a7 w7 q34 hb7 hr7
   refine wpIn_cond_true (slot_ex hr7 q34) (wpIn_ret ?_)
   refine ⟨hr7.defers, _, results_ok (us := []) rfl (fun j x h => by simp [Tryz.f170] at h), ⟨_, rfl⟩, .inr ⟨_, ?_, hJx _ W' w7 none hJx4 (below_grown hb7) (fun r e => by cases e)⟩⟩
   show (pre ++ [(⟨L[k], List.getElem_mem hkl⟩ : {x // x ∈ L})]).map (·.1) <+: L
   rw [epre]; exact List.take_prefix _ _
 · -- no more
  have hkl : k = L.length := by omega
  have hall : pre.map (·.1) = L := by rw [hpre, hkl, List.take_length]
  rw [← hkl] at ce
  obtain ⟨i, hi⟩ : ∃ i : Int, i = r0 + k := ⟨_, rfl⟩
  rw [← hi] at ce hr hi1
  have fin : ∀ {a : Act} {w2 : World}, Below w1.heap.size w1 w2 → a.defers = [] → bodyPost Tryz.prog Tryz.f170 (fun e W' => (∃ v, e = .returned v) ∧ ((∃ ys : List {x // x ∈ L}, ys.map (·.1) = L ∧ J ys W') ∨ ∃ pre : List {x // x ∈ L}, pre.map (·.1) <+: L ∧ Jx pre W')) .ret a w2 := by
   intro a w2 hb hd
   exact ⟨hd, _, results_ok (us := []) rfl (fun j x h => by simp [Tryz.f170] at h), ⟨_, rfl⟩, .inl ⟨pre, hall, hJ _ w1 w2 none hJp (below_grown hb) (fun r e => by cases e)⟩⟩
  rcases ce with c1 | ⟨x, c1, c2⟩
  ·refine seg mixed rfl (K := fun e sl h nx => e = .norm ∧ slotOf sl 7 = B false) ?_ hr ?_
   ·show avc Tryz.prog SP _ _ _ _ _ _
    dsimp only [avc, aops, Array.toList]
    exact Av.W
   rintro e sl2 h2 nx2 p2 cc2 F2 a2 w2 ⟨rfl, q7⟩ hb2 hr2
   have hr3 := u_rel (t := t) (p := p) (Y := Y) (sl := [(7, B false)]) hr2.size hr2.keep hr2.defers (W := w2) (fun g j hj => ⟨(hr2.cell g j hj).trans (hc1 g j hj), (hF1 g j hj).2⟩) hg0 hx1 hx2 (lookc (slot_ex hr2 q7) fun t v h => by simp [look] at h)
   refine wpIn_seq (seg mixed rfl (K := fun e sl h nx => e = .norm ∧ slotOf sl 34 = B true) ?_ hr3 ?_)
   ·show avc Tryz.prog SP _ _ _ _ _ _
    dsimp only [avc, aops, Array.toList]
    exact Av.W
   rintro e sl3 h3 nx3 p3 cc3 F3 a3 w3 ⟨rfl, q34⟩ hb3 hr4
   exact wpIn_cond_true (slot_ex hr4 q34) (wpIn_ret (fin (hb2.trans (hb3.mono hb2.size)) hr4.defers))
  ·obtain ⟨key, hkey⟩ : ∃ s, s = x.1 := ⟨_, rfl⟩
   obtain ⟨val, hval⟩ : ∃ s, s = x.2 := ⟨_, rfl⟩
   rw [← hkey] at c1 c2
   rw [← hval] at c1
   refine seg mixed rfl (K := fun e sl h nx => e = .norm ∧ slotOf sl 5 = T key ∧ slotOf sl 6 = T val ∧ slotOf sl 7 = B true) ?_ hr ?_
   ·show avc Tryz.prog SP _ _ _ _ _ _
    dsimp only [avc, aops, Array.toList]
    exact Av.W
   rintro e sl2 h2 nx2 p2 cc2 F2 a2 w2 ⟨rfl, q5, q6, q7⟩ hb2 hr2
   have hr3 := u_rel (t := t) (p := p) (Y := Y) (sl := [(7, B true), (6, T val), (5, T key)]) hr2.size hr2.keep hr2.defers (W := w2) (fun g j hj => ⟨(hr2.cell g j hj).trans (hc1 g j hj), (hF1 g j hj).2⟩) hg0 hx1 hx2 (lookc (slot_ex hr2 q7) (lookc (slot_ex hr2 q6) (lookc (slot_ex hr2 q5) fun t v h => by simp [look] at h)))
   refine wpIn_seq (seg mixed rfl (K := fun e sl h nx => e = .norm ∧ slotOf sl 34 = B true) ?_ hr3 ?_)
   ·show avc Tryz.prog SP _ _ _ _ _ _
    dsimp only [avc, aops, Array.toList]
    exact Av.W
   rintro e sl3 h3 nx3 p3 cc3 F3 a3 w3 ⟨rfl, q34⟩ hb3 hr4
   exact wpIn_cond_true (slot_ex hr4 q34) (wpIn_ret (fin (hb2.trans (hb3.mono hb2.size)) hr4.defers))
end Go.Proofs.YtbaedepmogkkeaaGreat.Av
namespace Go.Proofs.YtbaedepmogkkeaaGreat.Av
open Go Go.RowKit Tre
set_option linter.unusedVariables false
set_option linter.unusedSimpArgs false
set_option maxRecDepth 100000
set_option maxHeartbeats 1000000
theorem under_ok (t : Tr) (p : Key) : SP 121 [trA t, T p] (.clo 170 [.vp [ndA t] 0, .vp [T p] 0]) := by
 refine S_ Tryz.func121 (by kernel_rfl) rfl (Nat.le_of_ble_eq_true rfl) ?_
 show avc Tryz.prog SP _ _ _ _ _ _
 dsimp only [avc, startS, Array.toList, Tryz.f121]
 exact Av.W
theorem takeWhile_at {α : Type} (f : α → Bool) : ∀ (l : List α), (∀ k (h : k < (l.takeWhile f).length), l[k]? = some (l.takeWhile f)[k] ∧ f (l.takeWhile f)[k] = true) ∧
  (l[(l.takeWhile f).length]? = none ∨ ∃ x, l[(l.takeWhile f).length]? = some x ∧ f x = false)
 | [] => ⟨fun k h => by simp at h, .inl rfl⟩
 | a :: l => by
  obtain ⟨h1, h2⟩ := takeWhile_at f l
  cases hf : f a with
  | true =>
   rw [show (a :: l).takeWhile f = a :: l.takeWhile f by simp [List.takeWhile_cons, hf]]
   refine ⟨fun k h => ?_, by simpa using h2⟩
   cases k with
   | zero => exact ⟨rfl, hf⟩
   | succ k => simpa using h1 k (by simpa using h)
  | false =>
   rw [show (a :: l).takeWhile f = [] by simp [List.takeWhile_cons, hf]]
   exact ⟨fun k h => by simp at h, .inr ⟨a, rfl, hf⟩⟩
theorem seq_ok (t : Tr) (p : Key) (hs : Srt t.toL) (hn : t.toL.length ≤ 100000000) (hk : ∀ x ∈ t.toL, x.1.length ≤ 1000000000) (hp : p.length ≤ 1000000000) :
  SeqSound Tryz.prog 170 [.vp [ndA t] 0, .vp [T p] 0] encP (underL p t.toL) := by
 have hc : t.cn ≤ 1000000000 := by rw [Tr.cn_len]; omega
 have hu := under_run (p := p) hs
 have hrl : rankL p t.toL ≤ t.toL.length := List.length_filter_le _ _
 have hul : (underL p t.toL).length ≤ t.toL.length := List.length_filter_le _ _
 obtain ⟨h1, h2⟩ := takeWhile_at (fun q => begins p q.1) (t.toL.drop (rankL p t.toL))
 rw [← hu] at h1 h2
 have at1 : ∀ k : Nat, Tr.at_ t ((rankL p t.toL : Int) + k) = (t.toL.drop (rankL p t.toL))[k]? := fun k => by
  rw [Tr.at_toL t _ (by omega), List.getElem?_drop]
  congr 1
 have mem : ∀ (k : Nat) (x : Pr), (t.toL.drop (rankL p t.toL))[k]? = some x → x ∈ t.toL := fun k x h => List.mem_of_mem_drop (List.mem_of_getElem? h)
 refine under1_ok t p _ (rankL p t.toL : Int) (by omega) (by omega) (rank_ok t p hc _ (Tr.rank_toL hs)) (fun k hk1 => ?_) (fun k hk1 => ?_) ?_
 ·exact at_pos t _ (by omega) hc (by omega) (some _) ((at1 k).trans (h1 k hk1).1)
 ·have := prefix_ok ((underL p t.toL)[k]).1 p (by have := hk _ (mem k _ (h1 k hk1).1); omega) (by omega)
  rwa [(h1 k hk1).2] at this
 ·rcases h2 with h2 | ⟨x, h2, h3⟩
  ·exact .inl (at_pos t _ (by omega) hc (by omega) none ((at1 _).trans h2))
  ·refine .inr ⟨x, at_pos t _ (by omega) hc (by omega) (some x) ((at1 _).trans h2), ?_⟩
   have := prefix_ok x.1 p (by have := hk _ (mem _ _ h2); omega) (by omega)
   rwa [h3] at this
def outB (l : List Pr) : List ABlk := match l with
 | [] => [⟨[.ex (.slice none 0 0)], none, false, true⟩]
 | a :: r => [⟨[.sl 2 (a :: r).length], none, false, false⟩, rowP (prC (a :: r))]
def TInv (most : Int) (pre : List Pr) (vs : List AV) (bl : List ABlk) : Prop := ((pre.length : Int) ≤ most ∨ pre = []) ∧ (vs = [.ptr 0 0, .ptr 1 0] ∧ bl = ⟨[Z most], none, false, true⟩ :: outB pre)
theorem told_walk (t : Tr) (p : Key) (most : Int) (L : List Pr) (hL : L.length ≤ 1000000) (cu : SP 121 [trA t, T p] (.clo 170 [.vp [ndA t] 0, .vp [T p] 0]))
  (cq : SeqSound Tryz.prog 170 [.vp [ndA t] 0, .vp [T p] 0] encP L) (n : Nat) (cs : List AV) (hR : (L.take most.toNat).length = n ∧ prC (L.take most.toNat) = cs) :
  SP 81 [trA t, T p, Z most] (.vs n cs) := by
 have stop : ∀ {pre : List Pr} {x : Pr}, ((pre.length : Int) ≤ most ∨ pre = []) → most ≤ (pre.length : Int) → pre ++ [x] <+: L → pre.length = n ∧ prC pre = cs := by
  intro pre x h1 h2 h3
  have e : most.toNat = pre.length := by
   rcases h1 with h1 | h1
   ·omega
   ·subst h1; simp only [List.length_nil] at h2 ⊢; omega
  have h4 : L.take most.toNat = pre := by
   rw [e]
   obtain ⟨z, hz⟩ := h3
   rw [← hz]; simp
  rw [← h4]; exact hR
 have done : ((L.length : Int) ≤ most ∨ L = []) → L.length = n ∧ prC L = cs := by
  intro h1
  have h4 : L.take most.toNat = L := by
   rcases h1 with h1 | h1
   ·exact List.take_of_length_le (by omega)
   ·subst h1; simp
  rw [h4] at hR; exact hR
 clear hR
 refine S_ Tryz.func81 (by kernel_rfl) rfl (Nat.le_of_ble_eq_true rfl) ?_
 show avc Tryz.prog SP _ _ _ _ _ _
 dsimp only [avc, startS, Array.toList, Tryz.f81]
 refine Av.Wk ?_
 refine ⟨Pr, encP, L, _, _, [5, 7], [], 9, [9, 10], TInv most, rfl, cq, fun x => rfl, rfl, rfl, rfl, rfl, rfl, rfl, ?_, ?_, ?_⟩
 ·exact ⟨.inr rfl, rfl, rfl⟩
 ·intro x hx
  refine Av.Wk ?_
  rintro pre vs bs hpre hlt ⟨hm, rfl, rfl⟩
  have hp1 := stop (x := x) hm
  clear hx hpre
  cases pre with
  | nil =>
   have fin : (0 : Int) < most → TInv most ([] ++ [x]) [.ptr 0 0, .ptr 1 0] [⟨[Z most], none, false, true⟩, ⟨[.sl 2 1], none, false, false⟩, rowP [T x.1, T x.2]] := fun h => ⟨.inl (by simp only [List.nil_append, List.length_cons, List.length_nil]; omega), rfl, rfl⟩
   have hp2 : most ≤ 0 → [] ++ [x] <+: L → 0 = n ∧ [] = cs := fun h => hp1 (by simpa using h)
   clear hp1
   repeat' ((try conv => whnf) <;> first | refine Av.Va ?_ | (refine ⟨false, ?_⟩) | (refine And.intro ⟨room_p (by omega), pre2 _ _⟩ ?_) | exact True.intro | refine Av.Vb ?_ | exact ⟨rfl, rfl, rfl⟩ | exact ⟨rfl, rfl⟩ | (refine Av.Vc ?_ ?_ <;> intro hBr <;> first | (exfalso; omega) | (exfalso; contradiction) | (exfalso; exact hBr rfl) | skip) | refine Av.Vd ?_ | exact rfl)
   ·conv => whnf
    intro hpp
    obtain ⟨rfl, rfl⟩ := hp2 hBr hpp
    exact Av.W
   ·exact fin (by omega)
  | cons a r =>
   obtain ⟨m, hmd⟩ : ∃ m, m = (a :: r).length := ⟨_, rfl⟩
   obtain ⟨D, hD⟩ : ∃ D, D = prC (a :: r) := ⟨_, rfl⟩
   have hDl : D.length = m * sizeT Tryz.prog 212 := by rw [hD, prC_len, hmd, hsP]
   have e0 : outB (a :: r) = [⟨[.sl 2 m], none, false, false⟩, rowP D] := by rw [hmd, hD]; rfl
   have e1 : outB ((a :: r) ++ [x]) = [⟨[.sl 2 (m + 1)], none, false, false⟩, rowP (D ++ [T x.1, T x.2])] := by
    have h1 : prC (a :: (r ++ [x])) = D ++ [T x.1, T x.2] := by rw [hD]; exact prC_app (a :: r) [x]
    have h2 : (a :: (r ++ [x])).length = m + 1 := by rw [hmd]; simp
    show ([⟨[.sl 2 (a :: (r ++ [x])).length], none, false, false⟩, rowP (prC (a :: (r ++ [x])))] : List ABlk) = _
    rw [h1, h2]
   have fin : (m : Int) < most → TInv most ((a :: r) ++ [x]) [.ptr 0 0, .ptr 1 0] [⟨[Z most], none, false, true⟩, ⟨[.sl 2 (m + 1)], none, false, false⟩, rowP (D ++ [T x.1, T x.2])] := fun h => ⟨.inl (by rw [hmd] at h; simp only [List.length_append, List.length_cons, List.length_nil] at h ⊢; omega), rfl, by rw [e1]⟩
   rw [e0]
   rw [← hmd, ← hD] at hp1
   have hml : m < L.length := by rw [hmd]; exact hlt
   clear e0 e1 stop done hm hlt hmd hD
   repeat' ((try conv => whnf) <;> first | refine Av.Va ?_ | (refine ⟨false, ?_⟩) | (refine And.intro ⟨room_p (by omega), hDl, pre2 _ _⟩ ?_) | exact True.intro | refine Av.Vb ?_ | exact ⟨rfl, rfl, rfl⟩ | exact ⟨rfl, rfl⟩ | (refine Av.Vc ?_ ?_ <;> intro hBr <;> first | (exfalso; omega) | (exfalso; contradiction) | (exfalso; exact hBr rfl) | skip) | refine Av.Vd ?_ | exact rfl)
   ·conv => whnf
    intro hpp
    obtain ⟨rfl, rfl⟩ := hp1 hBr hpp
    exact Av.W
   ·exact fin (by omega)
 ·rintro vs bs ⟨hm, rfl, rfl⟩
  obtain ⟨rfl, rfl⟩ := done hm
  cases L with
  | nil =>
   exact Av.W
  | cons a r =>
   exact Av.W
theorem told_ok (t : Tr) (p : Key) (most : Int) (hs : Srt t.toL) (hn : t.toL.length ≤ 1000000) (hk : ∀ x ∈ t.toL, x.1.length ≤ 1000000000) (hp : p.length ≤ 1000000000) :
  SP 81 [trA t, T p, Z most] (.vs ((underL p t.toL).take most.toNat).length (prC ((underL p t.toL).take most.toNat))) :=
 told_walk t p most _ (Nat.le_trans (List.length_filter_le _ _) hn) (under_ok t p) (seq_ok t p hs (by omega) hk hp) _ _ ⟨rfl, rfl⟩
end Go.Proofs.YtbaedepmogkkeaaGreat.Av
namespace Go.Proofs.YtbaedepmogkkeaaGreat.Av
set_option maxHeartbeats 1000000
open Go Go.RowKit Tre
set_option linter.unusedVariables false
set_option linter.unusedSimpArgs false
set_option maxRecDepth 100000
theorem eqT_ (a b : Key) : ((bs a).toList == (bs b).toList) = decide (a = b) := by
 rw [bsl_, bsl_]
 by_cases h : a = b
 ·subst h; simp
 ·simp [h]
theorem mu_I {n : Nat} {i : Nat} (h : i < n) (x y : List AV) (b c : List ABlk) : muI n (Z ((i : Int) + 1) :: x) b < muI n (Z i :: y) c := by
 show n - ((i : Int) + 1).toNat < n - (i : Int).toNat; omega
theorem bytesL_step (l : List Pr) {i : Nat} (h : i < l.length) : bytesL (l.take (i + 1)) = bytesL (l.take i) + (4 + (l[i]).1.length + (l[i]).2.length) := by
 rw [List.take_add_one, List.getElem?_eq_getElem h, bytesL_app]
 rfl
theorem bytesL_take (l : List Pr) (i : Nat) : bytesL (l.take i) ≤ bytesL l := by
 have := bytesL_app (l.take i) (l.drop i)
 rw [List.take_append_drop] at this
 omega
theorem pbytes_ok (l : List Pr) (hl : l.length ≤ 1000000) (hb : bytesL l ≤ 1000000000000) (res : Nat) (hres : bytesL l = res) : SP 79 [.vs l.length (prC l)] (Z res) := by
 refine S_ Tryz.func79 (by kernel_rfl) rfl (Nat.le_of_ble_eq_true rfl) ?_
 show avc Tryz.prog SP _ _ _ _ _ _
 dsimp only [avc, startS, Array.toList, Tryz.f79]
 have hW0 : Av.Mk 17 [0,1,0,0,12,28,60,124,255,0,0,1536,3584,7680,15872,32767,65535] := ⟨⟩
 refine Av.Wk ?_
 refine ⟨[4, 3, 0], [], fun vs bl => ∃ i m : Nat, i ≤ l.length ∧ m = bytesL (l.take i) ∧ (vs = [Z i, Z m, .vs l.length (prC l)] ∧ bl = []), muI l.length, ?_, ?_⟩
 ·exact ⟨0, 0, by omega, by simp [bytesL], rfl, rfl⟩
 rintro vs bl ⟨i, m, hi, hm, rfl, rfl⟩
 by_cases hlt : i < l.length
 ·have h1 := prK hlt
  have h2 := prV hlt
  have hdec := mu_I hlt
  have hs := bytesL_step l hlt
  have ht := bytesL_take l (i + 1)
  rw [← hm] at hs
  have z1 := bs_size (l[i]).1
  have z2 := bs_size (l[i]).2
  clear hres hm
  have hW1 : Av.Mk 17 [0,1,0,0,12,28,60,124,255,0,0,1536,3584,7680,15872,32767,65535] := ⟨⟩
  refine Av.Wk ?_
  refine ⟨⟨i + 1, bytesL (l.take (i + 1)), by omega, rfl, ?_, rfl⟩, hdec _ _ _ _⟩
  rw [hs]
  congr 2
  show AV.ex (.int .i64 _) = AV.ex (.int .i64 _)
  congr 2
  rw [z1, z2]
  simp only [Int.natCast_add]
  omega
 ·obtain rfl : i = l.length := by omega
  rw [List.take_length] at hm
  have : res = m := by rw [← hres, hm]
  subst this
  clear hres hm
  have hW2 : Av.Mk 17 [0,1,0,0,12,28,60,124,255,0,0,1536,3584,7680,15872,32767,65535] := ⟨⟩
  exact Av.W
abbrev neP (a b : Pr) : Bool := !(((bs a.1).toList == (bs b.1).toList) && (((bs a.2).toList == (bs b.2).toList) && true))
theorem neP_eq (a b : Pr) : neP a b = !decide (a = b) := by
 show (!(_ && (_ && true))) = _
 rw [eqT_, eqT_, Bool.and_true]
 congr 1
 rw [← Bool.decide_and]
 apply decide_eq_decide.mpr
 constructor
 ·rintro ⟨h1, h2⟩; exact Prod.ext h1 h2
 ·rintro rfl; exact ⟨rfl, rfl⟩
theorem psame_eq (a : List Pr) (ha : a.length ≤ 1000000) : SP 80 [.vs a.length (prC a), .vs a.length (prC a)] (B true) := by
 refine S_ Tryz.func80 (by kernel_rfl) rfl (Nat.le_of_ble_eq_true rfl) ?_
 show avc Tryz.prog SP _ _ _ _ _ _
 dsimp only [avc, startS, Array.toList, Tryz.f80]
 have hW3 : Av.Mk 9 [0,0,3,7,0,0,48,112,255] := ⟨⟩
 refine Av.Wk ?_
 refine ⟨[5, 0, 1], [], fun vs bl => ∃ i : Nat, i ≤ a.length ∧ (vs = [Z i, .vs a.length (prC a), .vs a.length (prC a)] ∧ bl = []), muI a.length, ?_, ?_⟩
 ·exact ⟨0, by omega, rfl, rfl⟩
 rintro vs bl ⟨i, hi, rfl, rfl⟩
 by_cases hlt : i < a.length
 ·have h1 := prW hlt
  have hdec := mu_I hlt
  have hb := neP_eq a[i] a[i]
  rw [decide_eq_true rfl] at hb
  have hW4 : Av.Mk 9 [0,0,3,7,0,0,48,112,255] := ⟨⟩
  refine Av.Wk ?_
  exact ⟨⟨i + 1, by omega, rfl, rfl⟩, hdec _ _ _ _⟩
 ·obtain rfl : i = a.length := by omega
  have hW5 : Av.Mk 9 [0,0,3,7,0,0,48,112,255] := ⟨⟩
  exact Av.W
theorem psame_ne (a b : List Pr) (ha : a.length ≤ 1000000) (hb : b.length ≤ 1000000) (h : a ≠ b) : SP 80 [.vs a.length (prC a), .vs b.length (prC b)] (B false) := by
 by_cases hl : (a.length : Int) = b.length
 ·have hl' : a.length = b.length := by omega
  have hex : ∃ k, ∃ h1 : k < a.length, ∃ h2 : k < b.length, a[k] ≠ b[k] ∧ ∀ j (h1 : j < a.length) (h2 : j < b.length), j < k → a[j] = b[j] := by
   apply Classical.byContradiction
   intro hc
   apply h
   apply List.ext_getElem hl'
   intro i h1 h2
   induction i using Nat.strongRecOn with
   | ind i ih =>
    apply Classical.byContradiction
    intro hne
    exact hc ⟨i, h1, h2, hne, fun j g1 g2 hj => ih j hj g1 g2⟩
  obtain ⟨k, k1, k2, hk, hall⟩ := hex
  refine S_ Tryz.func80 (by kernel_rfl) rfl (Nat.le_of_ble_eq_true rfl) ?_
  show avc Tryz.prog SP _ _ _ _ _ _
  dsimp only [avc, startS, Array.toList, Tryz.f80]
  have hW6 : Av.Mk 9 [0,0,3,7,0,0,48,112,255] := ⟨⟩
  refine Av.Wk ?_
  refine ⟨[5, 0, 1], [], fun vs bl => ∃ i : Nat, i ≤ k ∧ (vs = [Z i, .vs a.length (prC a), .vs b.length (prC b)] ∧ bl = []), muI a.length, ?_, ?_⟩
  ·exact ⟨0, by omega, rfl, rfl⟩
  rintro vs bl ⟨i, hi, rfl, rfl⟩
  have hlt : i < a.length := by omega
  have hlt2 : i < b.length := by omega
  have h1 := prW hlt
  have h2 := prW hlt2
  have hdec := mu_I hlt
  have hbb := neP_eq a[i] b[i]
  by_cases hik : i < k
  ·rw [decide_eq_true (hall i hlt hlt2 hik)] at hbb
   clear hall h
   have hW7 : Av.Mk 9 [0,0,3,7,0,0,48,112,255] := ⟨⟩
   refine Av.Wk ?_
   exact ⟨⟨i + 1, by omega, rfl, rfl⟩, hdec _ _ _ _⟩
  ·obtain rfl : i = k := by omega
   rw [decide_eq_false hk] at hbb
   clear hall h
   have hW8 : Av.Mk 9 [0,0,3,7,0,0,48,112,255] := ⟨⟩
   exact Av.W
 ·refine S_ Tryz.func80 (by kernel_rfl) rfl (Nat.le_of_ble_eq_true rfl) ?_ -- G
  have hW9 : Av.Mk 9 [0,0,3,7,0,0,48,112,255] := ⟨⟩
  exact Av.W
theorem psame_ok (a b : List Pr) (ha : a.length ≤ 1000000) (hb : b.length ≤ 1000000) : SP 80 [.vs a.length (prC a), .vs b.length (prC b)] (B (decide (a = b))) := by
 by_cases h : a = b
 ·subst h; rw [decide_eq_true rfl]; exact psame_eq a ha
 ·rw [decide_eq_false h]; exact psame_ne a b ha hb h
end Go.Proofs.YtbaedepmogkkeaaGreat.Av
