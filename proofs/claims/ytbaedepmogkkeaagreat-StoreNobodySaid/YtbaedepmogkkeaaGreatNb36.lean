/- What the claim stands on, Nb36: contracts of functions and plain facts. No conditions. -/
import Derived.Test.YtbaedepmogkkeaaGreatNb35
namespace Go.Proofs.YtbaedepmogkkeaaGreat.Av
open Go Go.RowKit Tre
set_option linter.unusedVariables false
set_option linter.unusedSimpArgs false
set_option maxRecDepth 100000
abbrev rootB (l : List Pr) (g a : Nat) : Key := rootS g a (Shf.encB l).length (sumN (Shf.encB l))
theorem root_len {g a z u : Nat} : (rootS g a z u).length = 64 := sec_len _ _ (by rw [sealed9]; omega)
theorem opn_no {s : List UInt8} (h : (opn s).2.2 ≠ 0) : NoR s := by
 intro g a z u h1 h2 h3
 rw [h3, opn_root h1] at h
 exact h rfl
theorem tell_zeros : ∀ n, Quill.tell (List.replicate n 0) = 0
 | 0 => rfl
 | n + 1 => by
  rw [List.replicate_succ, Quill.tell_cons, tell_zeros n]
  simp
def Under (o : List UInt8) (g : Nat) : Prop := o = List.replicate 64 0 ∨ ∃ a z u : Nat, OkR ((g - 1 : Nat) : Int) a z ∧ u < 4294967296 ∧ o = rootS (g - 1) a z u
theorem Under.ends {o : List UInt8} {g : Nat} (ho : Under o g) : ∃ m0, o.length = 64 ∧ hdM o = m0 ∧ tlM o = m0 ∧ m0 < (g + 1) * 1048576 + 1 ∧ (o = List.replicate 64 0 ∧ m0 = 0 ∨ ∃ a' z' u' : Nat, OkR ((g - 1 : Nat) : Int) a' z' ∧ u' < 4294967296 ∧ o = rootS (g - 1) a' z' u') := by
 rcases ho with rfl | ⟨a', z', u', k1, k2, rfl⟩
 ·refine ⟨0, by simp, ?_, ?_, by omega, .inl ⟨rfl, rfl⟩⟩
  ·rw [hdM, List.take_replicate]; exact tell_zeros _
  ·rw [tlM, List.drop_replicate]; exact tell_zeros _
 ·have k3 := k1.nat
  have q2 := sealed9 a' z' u'
  exact ⟨(g - 1) * 1048576 + 1, root_len, hd_sec _ (by omega), tl_sec _ (by omega) (by omega), by omega, .inr ⟨a', z', u', k1, k2, rfl⟩⟩
theorem torn_root {g a z u k : Nat} {o : List UInt8} (h : OkR ((g + 1 : Nat) : Int) a z) (hu : u < 4294967296) (hg : 1 ≤ g) (hk : k ≤ 64) (ho : Under o g) :
  torn (rootS (g + 1) a z u) o k = rootS (g + 1) a z u ∨ torn (rootS (g + 1) a z u) o k ≠ rootS (g + 1) a z u ∧ (NoR (torn (rootS (g + 1) a z u) o k) ∨ ∃ a' z' u' : Nat, OkR ((g - 1 : Nat) : Int) a' z' ∧ u' < 4294967296 ∧ torn (rootS (g + 1) a z u) o k = rootS (g - 1) a' z' u') := by
 have hn := h.nat
 have hf := root_len (g := g + 1) (a := a) (z := z) (u := u)
 have q1 := sealed9 a z u
 have f1 : hdM (rootS (g + 1) a z u) = (g + 1) * 1048576 + 1 := hd_sec _ (by omega)
 have f2 : tlM (rootS (g + 1) a z u) = (g + 1) * 1048576 + 1 := tl_sec _ (by omega) (by omega)
 have fo := opn_root (u := u) h
 obtain ⟨m0, hol, o1, o2, hlt, ho⟩ := ho.ends
 have ht := torn_tells hf hol f1 f2 o1 o2 (by omega) (by omega) hk
 rcases ht with ⟨e1, _, e2⟩ | ⟨e1, _⟩ | ⟨e1, _, ⟨e2, e3⟩ | ⟨_, e3⟩⟩
 ·exact .inr ⟨e2, .inl (opn_no (by rw [e1]; decide))⟩
 ·refine .inr ⟨fun he => ?_, .inl (opn_no (by rw [e1]; decide))⟩
  rw [he, fo] at e1
  have e1 : (0 : Int) = 6 := e1
  exact absurd e1 (by decide)
 ·refine .inr ⟨fun he => ?_, ?_⟩
  ·rw [he, fo] at e2
   dsimp only at e2
   omega
  ·rcases ho with ⟨rfl, h0⟩ | ⟨a', z', u', k1, k2, k3⟩
   ·exfalso
    rcases hs : opn (torn (rootS (g + 1) a z u) (List.replicate 64 0) k) with ⟨m, p, e⟩
    rw [hs] at e1 e2
    have e1 : e = 0 := e1
    have e2 : m = m0 := e2
    subst e1
    have := (opn_parts hs).2.2.1
    omega
   ·exact .inr ⟨a', z', u', k1, k2, by rw [e3, k3]⟩
 ·exact .inl e3
theorem okR_of {A : Nat} {l : List Pr} (hf : FitL A l) {g a : Nat} (hg : 1 ≤ g ∧ g ≤ 1099511627776) (ha : a ≤ 1) : OkR g a (Shf.encB l).length := ⟨by omega, by omega, by omega, by omega, by have := hf.encl; omega⟩
structure Dev (A Lg : Nat) (L : List Key) (g a : Nat) (l : List Pr) : Prop where
 sh : OkSh A Lg
 len : L.length = 2 + 2 * A + Lg
 sec : Sec L
 gg : 1 ≤ g ∧ g < 1099511627776
 aa : a ≤ 1
 fit : FitL A l
 srt : Srt l
 root : L[g % 2]? = some (rootB l g a)
 area : ∀ i, i < npc (Shf.encB l) → L[areaA A a + i]? = some (Av.sec (mkG g i) (pc (Shf.encB l) i))
 low : ∀ g', g < g' → payO (logL L A Lg) g' 0 = none
def Other (L : List Key) (g a : Nat) (now : List Pr) : Prop := ∃ o k, Under o g ∧ k ≤ 64 ∧ L[(g + 1) % 2]? = some (torn (rootB now (g + 1) (1 - a)) o k) ∧ torn (rootB now (g + 1) (1 - a)) o k ≠ rootB now (g + 1) (1 - a)
theorem areaL_laid {A Lg : Nat} {L : List Key} {g a : Nat} {l : List Pr} (h : Dev A Lg L g a l) : areaL L A a = secsL g (Shf.encB l) (npc (Shf.encB l)) ++ (areaL L A a).drop (npc (Shf.encB l)) := by
 have hle := areaA_le (A := A) h.aa
 have hl := h.len
 have hf := h.fit.fit
 have hal := areaL_len (L := L) (A := A) (a := a) (by omega)
 have e : (areaL L A a).take (npc (Shf.encB l)) = secsL g (Shf.encB l) (npc (Shf.encB l)) := by
  apply List.ext_getElem?
  intro j
  by_cases hj : j < npc (Shf.encB l)
  ·rw [List.getElem?_take_of_lt hj]
   unfold areaL
   rw [List.getElem?_take_of_lt (by omega), List.getElem?_drop, h.area j hj]
   simp [secsL, hj]
  ·rw [List.getElem?_eq_none (by rw [List.length_take]; omega), List.getElem?_eq_none (by rw [secsL_len]; omega)]
 rw [← e, List.take_append_drop]
theorem Dev.rd {A Lg : Nat} {L : List Key} {g a : Nat} {l : List Pr} (h : Dev A Lg L g a l) : Av.rd (areaL L A a) g (Shf.encB l).length = (l, 0) := by
 have hf := h.fit
 have hA := hf.top
 have hn := hf.fit
 have hgg := h.gg
 rw [areaL_laid h, rd_laid _ ⟨by omega, by omega⟩ (by omega)]
 exact Shf.dec_enc l hf.short h.srt (by have := hf.len; omega)
theorem Dev.recd {A Lg : Nat} {L : List Key} {g a : Nat} {l now : List Pr} (h : Dev A Lg L g a l) (ho : Other L g a now) (hn : FitL A now) : RecS L A Lg 0 (replayL A l (textsL L A Lg g)) g a := by
 have hA := h.sh.1
 have hl := h.len
 have hN : 2 ≤ L.length := by omega
 have hgg := h.gg
 have haa := h.aa
 have hr := h.root
 have hok := okR_of h.fit (g := g) (a := a) ⟨by omega, by omega⟩ h.aa
 obtain ⟨o, k, o1, o2, o3, o4⟩ := ho
 have ht := torn_root (u := sumN (Shf.encB now)) (okR_of hn (g := g + 1) (a := 1 - a) ⟨by omega, by omega⟩ (by omega)) (sumN_lt _) (by omega) o2 o1
 have ht : NoR (torn (rootB now (g + 1) (1 - a)) o k) ∨ ∃ a' z' u' : Nat, OkR ((g - 1 : Nat) : Int) a' z' ∧ u' < 4294967296 ∧ torn (rootB now (g + 1) (1 - a)) o k = rootS (g - 1) a' z' u' := by
  rcases ht with e | ⟨_, e⟩
  ·exact absurd e o4
  ·exact e
 have hp : ∃ i : Int, PickS (L[0]'(by omega)) (L[1]'(by omega)) (some ((g, a, (Shf.encB l).length, sumN (Shf.encB l)), i)) := by
  by_cases hb : g % 2 = 0
  ·rw [hb, List.getElem?_eq_getElem (by omega)] at hr
   rw [show (g + 1) % 2 = 1 by omega, List.getElem?_eq_getElem (by omega)] at o3
   injection hr with hr
   injection o3 with o3
   refine ⟨0, .fst hok (sumN_lt _) hr ?_⟩
   rw [o3]
   rcases ht with h | ⟨a', z', u', k1, k2, k3⟩
   ·exact .inl h
   ·exact .inr ⟨g - 1, a', z', u', k1, k2, k3, by omega⟩
  ·rw [show g % 2 = 1 by omega, List.getElem?_eq_getElem (by omega)] at hr
   rw [show (g + 1) % 2 = 0 by omega, List.getElem?_eq_getElem (by omega)] at o3
   injection hr with hr
   injection o3 with o3
   refine ⟨1, .snd hok (sumN_lt _) hr ?_⟩
   rw [o3]
   rcases ht with h | ⟨a', z', u', k1, k2, k3⟩
   ·exact .inl h
   ·exact .inr ⟨g - 1, a', z', u', k1, k2, k3, by omega⟩
 obtain ⟨i, hp⟩ := hp
 have e := h.rd
 have := RecS.ok (Lg := Lg) hN hp (by omega) (by rw [e]) (by rw [e]) (by rw [e])
 rw [e] at this
 exact this
structure Out (A a : Nat) (L L' : List Key) : Prop where
 len : L'.length = L.length
 sec : Sec L'
 same : ∀ j, (∀ i, i < A → j ≠ areaA A (1 - a) + i) → L'[j]? = L[j]?
theorem area_apart {A a : Nat} (ha : a ≤ 1) : (∀ i i', i < A → i' < A → areaA A a + i ≠ areaA A (1 - a) + i') ∧ (∀ i, 2 ≤ areaA A a + i) ∧ (∀ i, i < A → areaA A a + i < areaA A 2) := by
 have h : a = 0 ∨ a = 1 := by omega
 rcases h with rfl | rfl
 ·unfold areaA; simp only [Nat.zero_mul, Nat.sub_zero, Nat.one_mul]; refine ⟨fun i i' h h' => by omega, fun i => by omega, fun i h => by omega⟩
 ·unfold areaA; simp only [Nat.one_mul, Nat.sub_self, Nat.zero_mul]; refine ⟨fun i i' h h' => by omega, fun i => by omega, fun i h => by omega⟩
theorem logL_eq {L L' : List Key} {A Lg : Nat} (h : ∀ j, areaA A 2 ≤ j → L'[j]? = L[j]?) : logL L' A Lg = logL L A Lg := by
 unfold logL
 apply List.ext_getElem?
 intro j
 by_cases hj : j < Lg
 ·rw [List.getElem?_take_of_lt hj, List.getElem?_take_of_lt hj, List.getElem?_drop, List.getElem?_drop, h _ (by omega)]
 ·rw [List.getElem?_eq_none (by rw [List.length_take]; omega), List.getElem?_eq_none (by rw [List.length_take]; omega)]
theorem Out.log {A a : Nat} {L L' : List Key} (ha : a ≤ 1) (h : Out A a L L') (Lg : Nat) : logL L' A Lg = logL L A Lg :=
 logL_eq fun j hj => h.same j fun i hi e => by have := (area_apart (A := A) (a := 1 - a) (by omega)).2.2 i hi; omega
theorem Dev.out {A Lg : Nat} {L L' : List Key} {g a : Nat} {l : List Pr} (h : Dev A Lg L g a l) (ho : Out A a L L') : Dev A Lg L' g a l := by
 have ha := h.aa
 have h1 := area_apart (A := A) ha
 have h2 := area_apart (A := A) (a := 1 - a) (by omega)
 refine ⟨h.sh, ho.len.trans h.len, ho.sec, h.gg, ha, h.fit, h.srt, ?_, fun i hi => ?_, fun g' hg => ?_⟩
 ·rw [ho.same _ fun i hi e => by have := h2.2.1 i; omega]; exact h.root
 ·rw [ho.same _ fun i' hi' e => h1.1 i i' (Nat.lt_of_lt_of_le hi h.fit.fit) hi' e]; exact h.area i hi
 ·rw [ho.log ha]; exact h.low g' hg
theorem Other.out {A : Nat} {L L' : List Key} {g a : Nat} {now : List Pr} (ha : a ≤ 1) (h : Other L g a now) (ho : Out A a L L') : Other L' g a now := by
 obtain ⟨o, k, o1, o2, o3, o4⟩ := h
 refine ⟨o, k, o1, o2, ?_, o4⟩
 rw [ho.same _ fun i hi e => by have := (area_apart (A := A) (a := 1 - a) (by omega)).2.1 i; omega]; exact o3
/-! ### the deeds that lay a map -/
theorem shD_mem {A a g : Nat} {X : List UInt8} {n : Nat} {x : Dd} (h : x ∈ shD A a g X n) : ∃ i, i < n ∧ x = ⟨false, areaA A a + i, Av.sec (mkG g i) (pc X i)⟩ := by
 unfold shD at h
 obtain ⟨i, hi, rfl⟩ := List.mem_map.1 h
 exact ⟨i, List.mem_range.1 hi, rfl⟩
theorem shD_once (A a g : Nat) (X : List UInt8) (n : Nat) : Once (shD A a g X n) := by
 unfold Once shD
 rw [List.pairwise_map]
 refine List.Pairwise.imp ?_ List.nodup_range
 intro i j hij e
 exact hij (by simpa using e)
section
variable {A Lg : Nat} {L : List Key} {g a : Nat} {l now : List Pr} (h : Dev A Lg L g a l) (ho : Other L g a now) (hn : FitL A now) (hg : g + 1 < 1099511627776)
include h hn
theorem sh_ok : ∀ x ∈ shD A (1 - a) (g + 1) (Shf.encB now) (npc (Shf.encB now)), x.sync = false ∧ x.pl < L.length ∧ x.text.length = 64 := fun x hx => by
 obtain ⟨i, hi, rfl⟩ := shD_mem hx
 have h1 := areaA_le (A := A) (a := 1 - a) (by omega)
 have h2 := hn.fit
 have h3 := h.len
 exact ⟨rfl, by simp only; omega, sec_len _ _ (pc48 _ _)⟩
theorem out_sets : Out A a L (setsL L (shD A (1 - a) (g + 1) (Shf.encB now) (npc (Shf.encB now)))) ∧ ∀ i, i < npc (Shf.encB now) → (setsL L (shD A (1 - a) (g + 1) (Shf.encB now) (npc (Shf.encB now))))[areaA A (1 - a) + i]? = some (Av.sec (mkG (g + 1) i) (pc (Shf.encB now) i)) := by
 have hk := sh_ok h hn
 obtain ⟨s1, s2⟩ := sets_at _ L (shD_once A (1 - a) (g + 1) (Shf.encB now) (npc (Shf.encB now))) (fun x hx => (hk x hx).2.1)
 refine ⟨⟨setsL_len _ _, sets_sec _ _ h.sec (fun x hx => (hk x hx).2.2), fun j hj => s2 j fun x hx e => ?_⟩, fun i hi => ?_⟩
 ·obtain ⟨i, hi, rfl⟩ := shD_mem hx
  exact hj i (Nat.lt_of_lt_of_le hi hn.fit) e.symm
 ·exact s1 ⟨false, areaA A (1 - a) + i, Av.sec (mkG (g + 1) i) (pc (Shf.encB now) i)⟩ (by unfold shD; exact List.mem_map.2 ⟨i, List.mem_range.2 hi, rfl⟩)
end
theorem root_step {A Lg : Nat} {L L' : List Key} {g a : Nat} {l now : List Pr} (h : Dev A Lg L g a l) (ho : Other L g a now) (hn : FitL A now) (hs : Srt now) (hg : g + 1 < 1099511627776)
  (ha : ∀ i, i < npc (Shf.encB now) → L[areaA A (1 - a) + i]? = some (Av.sec (mkG (g + 1) i) (pc (Shf.encB now) i)))
  (k : Nat) (hk : k ≤ 64) (hl : L'.length = L.length) (hsec : Sec L') (hm : ∀ j, j ≠ (g + 1) % 2 → L'[j]? = L[j]?) (o : Key) (ho1 : L[(g + 1) % 2]? = some o) (ho2 : L'[(g + 1) % 2]? = some (torn (rootB now (g + 1) (1 - a)) o k)) :
  (Dev A Lg L' g a l ∧ Other L' g a now ∧ logL L' A Lg = logL L A Lg ∧ torn (rootB now (g + 1) (1 - a)) o k ≠ rootB now (g + 1) (1 - a)) ∨ (Dev A Lg L' (g + 1) (1 - a) now ∧ (∃ o, Under o (g + 1) ∧ L'[(g + 1 + 1) % 2]? = some o) ∧ logL L' A Lg = logL L A Lg) := by
 have haa := h.aa
 have h1 := area_apart (A := A) haa
 have h2 := area_apart (A := A) (a := 1 - a) (by omega)
 have h2l : 2 ≤ areaA A 2 := by unfold areaA; omega
 have hlog : logL L' A Lg = logL L A Lg := logL_eq fun j hj => hm j (by omega)
 obtain ⟨o', k', u1, u2, u3, u4⟩ := ho
 rw [u3] at ho1
 injection ho1 with ho1
 subst ho1
 have hol := u1.ends
 rw [torn_torn _ _ _ _ root_len u2 hk] at ho2 ⊢
 by_cases hw : torn (rootB now (g + 1) (1 - a)) o' (max k' k) = rootB now (g + 1) (1 - a)
 ·right
  rw [hw] at ho2
  refine ⟨⟨h.sh, hl.trans h.len, hsec, ⟨by omega, hg⟩, by omega, hn, hs, ho2, fun i hi => ?_, fun g' hg' => ?_⟩, ⟨rootB l g a, .inr ⟨a, _, _, ?_, sumN_lt _, rfl⟩, ?_⟩, hlog⟩
  ·rw [hm _ (by have := h2.2.1 i; omega)]; exact ha i hi
  ·rw [hlog]; exact h.low g' (by omega)
  ·have := h.gg
   exact okR_of h.fit (g := g + 1 - 1) ⟨by omega, by omega⟩ haa
  ·rw [show (g + 1 + 1) % 2 = g % 2 by omega, hm _ (by omega)]; exact h.root
 ·left
  refine ⟨⟨h.sh, hl.trans h.len, hsec, h.gg, haa, h.fit, h.srt, ?_, fun i hi => ?_, fun g' hg' => ?_⟩, ⟨o', max k' k, u1, by omega, ho2, hw⟩, hlog, hw⟩
  ·rw [hm _ (by omega)]; exact h.root
  ·rw [hm _ (by have := h1.2.1 i; omega)]; exact h.area i hi
  ·rw [hlog]; exact h.low g' hg'
theorem Other.zero {L : List Key} {g a : Nat} {now : List Pr} {A : Nat} (hn : FitL A now) (hg : 1 ≤ g ∧ g < 1099511627776) (ha : a ≤ 1) (h : ∃ o, Under o g ∧ L[(g + 1) % 2]? = some o) : Other L g a now := by
 obtain ⟨o, h1, h2⟩ := h
 have e : torn (rootB now (g + 1) (1 - a)) o 0 = o := by unfold torn; simp
 refine ⟨o, 0, h1, by omega, by rw [e]; exact h2, ?_⟩
 rw [e]
 obtain ⟨m0, _, o1, _, o3, _⟩ := h1.ends
 intro he
 have q1 := sealed9 (1 - a) (Shf.encB now).length (sumN (Shf.encB now))
 have : hdM (rootB now (g + 1) (1 - a)) = (g + 1) * 1048576 + 1 := hd_sec _ (by omega)
 rw [he, this] at o1
 omega
structure SvI (A Lg : Nat) (L : List Key) (now : List Pr) (g a : Nat) : Prop where
 dev : ∃ l, Dev A Lg L g a l ∧ replayL A l (textsL L A Lg g) = now
 other : Other L g a now
 fit : FitL A now
 srt : Srt now
theorem textsL_eq {L L' : List Key} {A Lg : Nat} (h : logL L' A Lg = logL L A Lg) (g : Nat) : textsL L' A Lg g = textsL L A Lg g := by unfold textsL; rw [h]
theorem SvI.recd {A Lg : Nat} {L : List Key} {now : List Pr} {g a : Nat} (h : SvI A Lg L now g a) : RecS L A Lg 0 now g a := by
 obtain ⟨l, h1, h2⟩ := h.dev
 have := h1.recd h.other h.fit
 rw [h2] at this; exact this
abbrev anewD (A : Nat) (now : List Pr) (g a : Nat) : List Dd := layD A (Shf.encB now) (g + 1) (1 - a) (Shf.encB now).length (sumN (Shf.encB now))
theorem anewD_len (A : Nat) (now : List Pr) (g a : Nat) : (anewD A now g a).length = npc (Shf.encB now) + 3 := layD_len _ _ _ _ _ _
section
variable {A Lg : Nat} {L : List Key} {now : List Pr} {g a : Nat} (h : SvI A Lg L now g a) (hg : g + 1 < 1099511627776)
include h hg
theorem anew_ok : DdOk L.length (anewD A now g a) := by
 have h00 := hg
 obtain ⟨l, h1, h2⟩ := h.dev
 have hl := h1.len
 intro x hx
 rcases List.mem_append.1 hx with hx | hx
 ·obtain ⟨_, k2, k3⟩ := sh_ok h1 h.fit x hx
  exact .inr ⟨k2, k3⟩
 ·unfold endD at hx
  simp only [List.mem_cons, List.not_mem_nil, or_false] at hx
  rcases hx with rfl | rfl | rfl
  ·exact .inl rfl
  ·exact .inr ⟨by simp only; omega, root_len⟩
  ·exact .inl rfl
theorem anew_mid {w : Int} {q : Pd} {P : List Wr} : ∃ L1, Dk.run ⟨q, L, P, w⟩ (shD A (1 - a) (g + 1) (Shf.encB now) (npc (Shf.encB now)) ++ [⟨true, 0, []⟩]) = ⟨.nil, L1, [], w + npc (Shf.encB now)⟩ ∧ SvI A Lg L1 now g a ∧ L1.length = L.length ∧
  (∀ i, i < npc (Shf.encB now) → L1[areaA A (1 - a) + i]? = some (Av.sec (mkG (g + 1) i) (pc (Shf.encB now) i))) := by
 have h00 := hg
 obtain ⟨l, h1, h2⟩ := h.dev
 have hk := sh_ok h1 h.fit
 obtain ⟨s1, s2⟩ := out_sets h1 h.fit
 refine ⟨_, ?_, ⟨⟨l, h1.out s1, ?_⟩, h.other.out h1.aa s1, h.fit, h.srt⟩, setsL_len _ _, s2⟩
 ·have := run_sync (q := q) (M := L) (P := P) (w := w) (fun x hx => (hk x hx).1) (fun x hx => (hk x hx).2) h1.sec
  rw [this, shD_len]
 ·rw [textsL_eq (s1.log h1.aa Lg)]; exact h2
theorem anew_root {L' : List Key} (ha : ∀ i, i < npc (Shf.encB now) → L[areaA A (1 - a) + i]? = some (Av.sec (mkG (g + 1) i) (pc (Shf.encB now) i)))
  (k : Nat) (hk : k ≤ 64) (hl : L'.length = L.length) (hsec : Sec L') (hm : ∀ j, j ≠ (g + 1) % 2 → L'[j]? = L[j]?) (o : Key) (ho1 : L[(g + 1) % 2]? = some o) (ho2 : L'[(g + 1) % 2]? = some (torn (rootB now (g + 1) (1 - a)) o k)) :
  (SvI A Lg L' now g a ∧ torn (rootB now (g + 1) (1 - a)) o k ≠ rootB now (g + 1) (1 - a)) ∨ (Dev A Lg L' (g + 1) (1 - a) now ∧ (∃ o, Under o (g + 1) ∧ L'[(g + 1 + 1) % 2]? = some o) ∧ logL L' A Lg = logL L A Lg) := by
 obtain ⟨l, h1, h2⟩ := h.dev
 rcases root_step h1 h.other h.fit h.srt hg ha k hk hl hsec hm o ho1 ho2 with ⟨r1, r2, r3, r4⟩ | r
 ·exact .inl ⟨⟨⟨l, r1, by rw [textsL_eq r3]; exact h2⟩, r2, h.fit, h.srt⟩, r4⟩
 ·exact .inr r
theorem anew_all {w : Int} {q : Pd} {P : List Wr} : ∃ L2, Dk.run ⟨q, L, P, w⟩ (anewD A now g a) = ⟨.nil, L2, [], w + npc (Shf.encB now) + 1⟩ ∧ L2.length = L.length ∧ Dev A Lg L2 (g + 1) (1 - a) now ∧ (∃ o, Under o (g + 1) ∧ L2[(g + 1 + 1) % 2]? = some o) ∧ (∀ j, areaA A 2 ≤ j → L2[j]? = L[j]?) := by
 obtain ⟨L1, r1, r2, r3, r4⟩ := anew_mid h hg (w := w) (q := q) (P := P)
 obtain ⟨l, h1, h2⟩ := r2.dev
 obtain ⟨l0, h01, h02⟩ := h.dev
 have hl := h1.len
 have hlt : (g + 1) % 2 < L1.length := by omega
 have e : anewD A now g a = (shD A (1 - a) (g + 1) (Shf.encB now) (npc (Shf.encB now)) ++ [⟨true, 0, []⟩]) ++ ([⟨false, (g + 1) % 2, rootB now (g + 1) (1 - a)⟩] ++ [⟨true, 0, []⟩]) := by
  unfold anewD layD endD; simp
 have r5 := run_sync (ds := [⟨false, (g + 1) % 2, rootB now (g + 1) (1 - a)⟩]) (q := .nil) (M := L1) (P := []) (w := w + npc (Shf.encB now)) (fun x hx => by rw [List.mem_singleton.1 hx]) (fun x hx => by rw [List.mem_singleton.1 hx]; exact ⟨hlt, root_len⟩) h1.sec
 have e2 : setsL L1 [⟨false, (g + 1) % 2, rootB now (g + 1) (1 - a)⟩] = L1.set ((g + 1) % 2) (rootB now (g + 1) (1 - a)) := rfl
 rw [e2] at r5
 have hw : torn (rootB now (g + 1) (1 - a)) L1[(g + 1) % 2] 64 = rootB now (g + 1) (1 - a) := by
  unfold torn
  rw [List.take_of_length_le (by rw [root_len]; omega), List.drop_eq_nil_of_le (by rw [h1.sec _ (List.getElem_mem hlt)]; omega), List.append_nil]
 have := anew_root r2 hg (L' := L1.set ((g + 1) % 2) (rootB now (g + 1) (1 - a))) r4 64 (Nat.le_refl _) (List.length_set ..) (h1.sec.set root_len) (fun j hj => List.getElem?_set_ne (fun e => hj e.symm)) L1[(g + 1) % 2] (List.getElem?_eq_getElem hlt) (by rw [hw, List.getElem?_set_self hlt])
 rcases this with ⟨_, hne⟩ | ⟨d1, d2, d3⟩
 ·exact absurd hw hne
 ·refine ⟨_, ?_, by rw [List.length_set]; exact r3, d1, d2, fun j hj => ?_⟩
  ·rw [e, Dk.run_app, r1, r5]; rfl
  ·have h2l : 2 ≤ areaA A 2 := by unfold areaA; omega
   rw [List.getElem?_set_ne (by omega)]
   have ho := (out_sets h01 h.fit).1
   have hx : L1 = setsL L (shD A (1 - a) (g + 1) (Shf.encB now) (npc (Shf.encB now))) := by
    have hk := sh_ok h01 h.fit
    have := run_sync (q := q) (M := L) (P := P) (w := w) (fun x hx => (hk x hx).1) (fun x hx => (hk x hx).2) h01.sec
    rw [r1] at this
    exact congrArg Dk.L this
   rw [hx]
   exact ho.same j fun i hi e => by have := (area_apart (A := A) (a := 1 - a) (by have := h01.aa; omega)).2.2 i hi; omega
end
theorem opn_hd {s p : List UInt8} {m : Nat} (h : opn s = (m, p, 0)) : hdM s = m := by
 obtain ⟨h1, h2, h3, h4⟩ := opn_parts h
 rw [hdM, h1, List.append_assoc, List.take_left' (Quill.numB_length 8 m), tell8 h4]
def CleanS (g : Nat) (s : Key) : Prop := s.length = 64 ∧ ∃ m, hdM s = m ∧ tlM s = m ∧ (m = 0 ∨ ∃ g' j : Nat, OkM g' (j : Int) ∧ g' < g ∧ m = mkT g' (j : Int))
theorem CleanS.mono {g g' : Nat} {s : Key} (h : CleanS g s) (hg : g ≤ g') : CleanS g' s := by
 obtain ⟨h1, m, h2, h3, h4⟩ := h
 refine ⟨h1, m, h2, h3, ?_⟩
 rcases h4 with h | ⟨g1, j, k1, k2, k3⟩
 ·exact .inl h
 ·exact .inr ⟨g1, j, k1, by omega, k3⟩
theorem CleanS.ne {g g' : Nat} {s : Key} (h : CleanS g s) (hg : g ≤ g') {j : Nat} (hj : OkM g' (j : Int)) {m : Nat} (hm : hdM s = m) : m ≠ mkT g' (j : Int) := by
 obtain ⟨h1, m', h2, h3, h4⟩ := h
 rw [h2] at hm
 subst hm
 rcases h4 with rfl | ⟨g1, j1, k1, k2, rfl⟩
 ·unfold mkT; omega
 ·intro e
  have := (mkT_inj k1 hj e).1
  omega
theorem clean_pay {M : List Key} {g g' j : Nat} {s : Key} (h : CleanS g s) (hg : g ≤ g') (hj : M[j]? = some s) : payO M g' (j : Int) = none := by
 apply Classical.byContradiction
 intro hn
 obtain ⟨p, hp⟩ := Option.ne_none_iff_exists'.1 hn
 obtain ⟨s', q1, q2, q3, q4, q5⟩ := payO_some hp
 rw [Int.toNat_natCast, hj] at q1
 injection q1 with q1
 subst q1
 exact h.ne hg q4 (opn_hd q5) rfl
theorem secT_clean {t : Key} {g a i : Nat} (h : OkM g ((a + i : Nat) : Int)) {g' : Nat} (hg : g < g') : CleanS g' (secT t g (a : Int) i) := by
 obtain ⟨h1, h2, h3, _⟩ := secT_ends (t := t) h
 exact ⟨h1, _, h2, h3, .inr ⟨g, a + i, h, hg, rfl⟩⟩
theorem torn_pay {M : List Key} {f o : Key} {g i c : Nat} (hc : c ≤ 64) (hi : M[i]? = some (torn f o c)) (hf : f.length = 64) (f1 : hdM f = mkT g (i : Int)) (f2 : tlM f = mkT g (i : Int)) (hk : OkM g (i : Int)) (ho : CleanS g o) (ht : torn f o c ≠ f) : payO M g (i : Int) = none := by
 have hne := ho.ne (Nat.le_refl g) hk rfl
 obtain ⟨ol, m0, o1, o2, _⟩ := ho
 rw [o1] at hne
 have := torn_tells hf ol f1 f2 o1 o2 (by unfold mkT; omega) hne hc
 unfold payO
 rw [show ((i : Int)).toNat = i from rfl, hi]
 simp only
 rw [if_neg]
 rintro ⟨_, _, h1, h2⟩
 rcases this with ⟨e, _⟩ | ⟨e, _⟩ | ⟨_, _, ⟨e, _⟩ | ⟨_, e⟩⟩
 ·rw [e] at h1; exact absurd h1 (by decide)
 ·rw [e] at h1; exact absurd h1 (by decide)
 ·exact hne (e.symm.trans h2)
 ·exact ht e
theorem torn_low {M : List Key} {f o : Key} {g g' i c : Nat} (hc : c ≤ 64) (hi : M[i]? = some (torn f o c)) (hf : f.length = 64) (f1 : hdM f = mkT g (i : Int)) (f2 : tlM f = mkT g (i : Int)) (hk : OkM g (i : Int)) (ho : CleanS g o) (hg : g < g') : payO M g' (i : Int) = none := by
 have hne := ho.ne (Nat.le_refl g) hk rfl
 have hne' : OkM g' (i : Int) → hdM o ≠ mkT g' (i : Int) := fun h => ho.ne (by omega) h rfl
 obtain ⟨ol, m0, o1, o2, _⟩ := ho
 rw [o1] at hne hne'
 have := torn_tells hf ol f1 f2 o1 o2 (by unfold mkT; omega) hne hc
 apply Classical.byContradiction
 intro hn
 obtain ⟨p, hp⟩ := Option.ne_none_iff_exists'.1 hn
 obtain ⟨s', q1, q2, q3, q4, q5⟩ := payO_some hp
 rw [Int.toNat_natCast, hi] at q1
 injection q1 with q1
 rw [← q1] at q5
 rcases this with ⟨e, _⟩ | ⟨e, _⟩ | ⟨_, _, ⟨e, _⟩ | ⟨e, _⟩⟩
 ·rw [q5] at e; exact absurd (show (0 : Int) = 4 from e) (by decide)
 ·rw [q5] at e; exact absurd (show (0 : Int) = 6 from e) (by decide)
 ·rw [q5] at e; exact hne' q4 e.symm
 ·rw [q5] at e
  have := (mkT_inj q4 hk e).1
  omega
inductive AllIn (A : Nat) (l0 : List Pr) : List Key → List Pr → Prop
 | nil : AllIn A l0 [] l0
 | snoc {xs : List Key} {m : List Pr} {x : Key} : AllIn A l0 xs m → (decOps x).2 = 0 → npc (Shf.encB (applyL (decOps x).1 m)) ≤ A → AllIn A l0 (xs ++ [x]) (applyL (decOps x).1 m)
theorem AllIn.replay {A : Nat} {l0 : List Pr} {xs : List Key} {m : List Pr} (h : AllIn A l0 xs m) : ∀ ys, replayL A l0 (xs ++ ys) = replayL A m ys := by
 induction h with
 | nil => intro ys; rfl
 | @snoc xs m x h1 h2 h3 ih =>
  intro ys
  rw [List.append_assoc, List.singleton_append, ih]
  show (if (decOps x).2 ≠ 0 then m else if npc (Shf.encB (applyL (decOps x).1 m)) ≤ A then replayL A (applyL (decOps x).1 m) ys else m) = _
  rw [if_neg (by rw [h2]; simp), if_pos h3]
structure RunI (A Lg : Nat) (L : List Key) (g a : Nat) (l0 now : List Pr) (xs : List Key) (pl : Nat) : Prop where
 dev : Dev A Lg L g a l0
 under : ∃ o, Under o g ∧ L[(g + 1) % 2]? = some o
 good : GoodL xs
 pl_ : pl = lenL xs
 in_ : pl ≤ Lg
 laid : ∀ i, i < lenL xs → (logL L A Lg)[i]? = (laidL g 0 xs)[i]?
 clean : ∀ j s, pl ≤ j → (logL L A Lg)[j]? = some s → CleanS g s
 all : AllIn A l0 xs now
 fit : FitL A now
 srt : Srt now
theorem Dev.logl {A Lg : Nat} {L : List Key} {g a : Nat} {l : List Pr} (h : Dev A Lg L g a l) : (logL L A Lg).length = Lg := by
 have := h.len
 unfold logL areaA
 rw [List.length_take, List.length_drop]; omega
theorem logL_get {L : List Key} {A Lg j : Nat} (hj : j < Lg) : (logL L A Lg)[j]? = L[areaA A 2 + j]? := by
 unfold logL
 rw [List.getElem?_take_of_lt hj, List.getElem?_drop]
theorem OkSh.lg {A Lg : Nat} (h : OkSh A Lg) : 1 ≤ A ∧ A ≤ 512 ∧ 32 ≤ Lg ∧ Lg ≤ 256 := by
 obtain ⟨h1, h2, h3, h4⟩ := h
 omega
theorem texts_laid {A Lg : Nat} {L : List Key} {g : Nat} {xs : List Key} (hL : Lg ≤ 256) (hg : 1 ≤ g ∧ g ≤ 1099511627776) (hl : (logL L A Lg).length = Lg) (hgd : GoodL xs) (hin : lenL xs ≤ Lg) (h : ∀ i, i < lenL xs → (logL L A Lg)[i]? = (laidL g 0 xs)[i]?) (hn : textO (logL L A Lg) g ((lenL xs : Nat) : Int) = none) : textsL L A Lg g = xs := by
 unfold textsL
 have hle := (lenL_le hgd).1
 have := scanO_laid (M := logL L A Lg) hg xs 0 ((logL L A Lg).length + 1) hgd (by omega) (fun i hi => by rw [Nat.zero_add]; exact h i hi) (by rw [Nat.zero_add]; exact hn) (by omega)
 have e : scanO (logL L A Lg) g ((logL L A Lg).length + 1) ((0 : Nat) : Int) = scanO (logL L A Lg) g ((logL L A Lg).length + 1) 0 := rfl
 rw [← e, this]
theorem pay_text {M : List Key} {g : Nat} {a : Int} (h : payO M g a = none) : textO M g a = none := by unfold textO; rw [h]
theorem RunI.end_ {A Lg : Nat} {L : List Key} {g a : Nat} {l0 now : List Pr} {xs : List Key} {pl : Nat} (h : RunI A Lg L g a l0 now xs pl) : textO (logL L A Lg) g ((pl : Nat) : Int) = none := by
 apply pay_text
 rcases hs : (logL L A Lg)[pl]? with _ | s
 ·unfold payO
  rw [Int.toNat_natCast, hs]
 ·exact clean_pay (h.clean pl s (Nat.le_refl _) hs) (Nat.le_refl _) hs
theorem RunI.texts {A Lg : Nat} {L : List Key} {g a : Nat} {l0 now : List Pr} {xs : List Key} {pl : Nat} (h : RunI A Lg L g a l0 now xs pl) : textsL L A Lg g = xs := by
 have hs := h.dev.sh.lg
 have hg := h.dev.gg
 have hp := h.pl_
 have hi := h.in_
 exact texts_laid (by omega) ⟨by omega, by omega⟩ h.dev.logl h.good (by omega) h.laid (by rw [← hp]; exact h.end_)
theorem RunI.sv {A Lg : Nat} {L : List Key} {g a : Nat} {l0 now : List Pr} {xs : List Key} {pl : Nat} (h : RunI A Lg L g a l0 now xs pl) : SvI A Lg L now g a := by
 refine ⟨⟨l0, h.dev, ?_⟩, Other.zero h.fit h.dev.gg h.dev.aa h.under, h.fit, h.srt⟩
 rw [h.texts]
 have := h.all.replay []
 rw [List.append_nil] at this
 rw [this]; rfl
theorem run_fresh {A Lg : Nat} {L L2 : List Key} {g a : Nat} {l0 now : List Pr} {xs : List Key} {pl : Nat} (h : RunI A Lg L g a l0 now xs pl) (d : Dev A Lg L2 (g + 1) (1 - a) now) (o : ∃ o, Under o (g + 1) ∧ L2[(g + 1 + 1) % 2]? = some o) (hlog : logL L2 A Lg = logL L A Lg) : RunI A Lg L2 (g + 1) (1 - a) now now [] 0 := by
 have hs := h.dev.sh.lg
 have hg := h.dev.gg
 refine ⟨d, o, fun t ht => (by cases ht), rfl, by omega, fun i hi => (by simp [lenL] at hi), fun j s _ hj => ?_, .nil, h.fit, h.srt⟩
 rw [hlog] at hj
 by_cases hjp : pl ≤ j
 ·exact (h.clean j s hjp hj).mono (by omega)
 ·have hj' : j < lenL xs := by have := h.pl_; omega
  have hin := h.in_
  have hp := h.pl_
  rw [h.laid j hj'] at hj
  have key : ∀ (xs : List Key) (b : Nat), GoodL xs → b + lenL xs ≤ Lg → ∀ j s, j < lenL xs → (laidL g b xs)[j]? = some s → CleanS (g + 1) s := by
   intro xs
   induction xs with
   | nil => intro b _ _ j s hj; simp [lenL] at hj
   | cons t xs ih =>
    intro b hgd hb j s hj hjs
    have ht := hgd t (by simp)
    have hlt := layT_len (g := g) (a := (b : Int)) ht
    simp only [lenL] at hj hb
    simp only [laidL] at hjs
    by_cases h1 : j < szT t.length
    ·rw [List.getElem?_append_left (by omega), layT_at ht h1] at hjs
     injection hjs with hjs
     rw [← hjs]
     exact secT_clean (okM_of ⟨by omega, by omega⟩ (by omega)) (by omega)
    ·rw [List.getElem?_append_right (by omega), hlt] at hjs
     exact ih (b + szT t.length) hgd.tail (by omega) _ s (by omega) hjs
  exact key xs 0 h.good (by omega) j s hj' hj
theorem lgD_mem {A g pl : Nat} {X : Key} {n : Nat} {x : Dd} (h : x ∈ lgD A g pl X n) : ∃ i, i < n ∧ x = ⟨false, areaA A 2 + pl + i, secT X g (pl : Int) i⟩ := by
 unfold lgD at h
 obtain ⟨i, hi, rfl⟩ := List.mem_map.1 h
 exact ⟨i, List.mem_range.1 hi, rfl⟩
theorem lgD_at {A g pl : Nat} {X : Key} {n i : Nat} (h : i < n) : (⟨false, areaA A 2 + pl + i, secT X g (pl : Int) i⟩ : Dd) ∈ lgD A g pl X n := by
 unfold lgD; exact List.mem_map.2 ⟨i, List.mem_range.2 h, rfl⟩
theorem lgD_once (A g pl : Nat) (X : Key) (n : Nat) : Once (lgD A g pl X n) := by
 unfold Once lgD
 rw [List.pairwise_map]
 refine List.Pairwise.imp ?_ List.nodup_range
 intro i j hij e
 exact hij (by simpa using e)
theorem lgD_take (A g pl : Nat) (X : Key) {n m : Nat} (h : m ≤ n) : (lgD A g pl X n).take m = lgD A g pl X m := by
 unfold lgD
 rw [← List.map_take, List.take_range, Nat.min_eq_left h]
section
variable {A Lg : Nat} {L : List Key} {g a : Nat} {l0 now : List Pr} {xs : List Key} {pl : Nat} (h : RunI A Lg L g a l0 now xs pl) {os : List OpP} (he : fitsE A now os = 0) (hk : szT (encOps os).1.length ≤ Lg - pl)
include h he hk
theorem lg_ok : ∀ x ∈ lgD A g pl (encOps os).1 (szT (encOps os).1.length), x.sync = false ∧ x.pl < L.length ∧ x.text.length = 64 := fun x hx => by
 have _h0 := he
 obtain ⟨i, hi, rfl⟩ := lgD_mem hx
 have h1 := h.dev.len
 have h2 := h.in_
 have hF : areaA A 2 = 2 + 2 * A := rfl
 have hs := h.dev.sh.lg
 have hg := h.dev.gg
 exact ⟨rfl, by simp only; omega, (secT_ends (okM_of (a := pl + i) ⟨by omega, by omega⟩ (by omega))).1⟩
theorem lg_fit : FitL A (applyL os now) ∧ Srt (applyL os now) := by
 have h0 := hk
 obtain ⟨_, e2⟩ := fits_enc he
 refine ⟨⟨e2, h.fit.top⟩, ?_⟩
 have hs := h.srt
 have h1 := (apply_good os (ofL now) (ofL_good now).1)
 rw [ofL_toL hs] at h1
 rw [← h1.2]; exact h1.1.srt
theorem lg_dec : (decOps (encOps os).1) = (os, 0) := by
 have h0 := hk
 have h1 := h.in_
 exact (dec_enc (fits_enc he).1).1
theorem lg_all : AllIn A l0 (xs ++ [(encOps os).1]) (applyL os now) := by
 have hd := lg_dec h he hk
 have := AllIn.snoc h.all (x := (encOps os).1) (by rw [hd]) (by rw [hd]; exact (fits_enc he).2)
 rw [hd] at this; exact this
theorem lg_good : GoodL (xs ++ [(encOps os).1]) := fun t ht => by
 have h0 := hk
 rcases List.mem_append.1 ht with ht | ht
 ·exact h.good t ht
 ·rw [List.mem_singleton.1 ht]; exact enc_len (fits_enc he).1
theorem lg_len : lenL (xs ++ [(encOps os).1]) = pl + szT (encOps os).1.length := by
 have _h0 := hk
 have h0 := he
 rw [lenL_app, h.pl_]; rfl
theorem lg_crash {L' : List Key} {n : Nat} (hn : n ≤ szT (encOps os).1.length) (hc : CrashOf L (lgD A g pl (encOps os).1 n) L') :
  (SvI A Lg L' now g a ∧ (n = szT (encOps os).1.length → True)) ∨ (n = szT (encOps os).1.length ∧ SvI A Lg L' (applyL os now) g a) := by
 have hs := h.dev.sh.lg
 have hg := h.dev.gg
 have haa := h.dev.aa
 have hin := h.in_
 have hF : areaA A 2 = 2 + 2 * A := rfl
 have hlen := h.dev.len
 obtain ⟨x0, x1⟩ := enc_len (fits_enc he).1
 have hsz := szT_good ⟨x0, x1⟩
 obtain ⟨f1, f2⟩ := lg_fit h he hk
 -- what did not turn
 have hmiss : ∀ j, (∀ i, i < n → j ≠ areaA A 2 + pl + i) → L'[j]? = L[j]? := fun j hj => hc.miss j fun x hx e => by
  obtain ⟨i, hi, rfl⟩ := lgD_mem hx
  exact hj i hi e.symm
 have hlow : ∀ j, j < areaA A 2 + pl → L'[j]? = L[j]? := fun j hj => hmiss j fun i _ e => by omega
 have hlogl : (logL L' A Lg).length = Lg := by
  have := hc.len
  unfold logL; rw [List.length_take, List.length_drop]; omega
 have hlg : ∀ j, j < Lg → (∀ i, i < n → j ≠ pl + i) → (logL L' A Lg)[j]? = (logL L A Lg)[j]? := fun j hj hne => by
  rw [logL_get hj, logL_get hj]; exact hmiss _ fun i hi e => hne i hi (by omega)
 -- what turned
 have hhit : ∀ i, i < n → ∃ o k, k ≤ 64 ∧ CleanS g o ∧ (logL L' A Lg)[pl + i]? = some (torn (secT (encOps os).1 g (pl : Int) i) o k) := fun i hi => by
  obtain ⟨o, k, k1, k2, k3, k4⟩ := hc.hit _ (lgD_at (A := A) (g := g) (pl := pl) (X := (encOps os).1) hi)
  have hj : pl + i < Lg := by omega
  refine ⟨o, k, k1, h.clean (pl + i) o (by omega) ?_, ?_⟩
  ·rw [logL_get hj, ← Nat.add_assoc]; exact k2
  ·rw [logL_get hj, ← Nat.add_assoc]; exact k4
 have hsec : ∀ i, i < szT (encOps os).1.length → OkM g ((pl + i : Nat) : Int) ∧ (secT (encOps os).1 g (pl : Int) i).length = 64 ∧ hdM (secT (encOps os).1 g (pl : Int) i) = mkT g ((pl + i : Nat) : Int) ∧ tlM (secT (encOps os).1 g (pl : Int) i) = mkT g ((pl + i : Nat) : Int) := fun i hi => by
  have ok := okM_of (g := g) (a := pl + i) ⟨by omega, by omega⟩ (by omega)
  obtain ⟨q1, q2, q3, _⟩ := secT_ends (t := (encOps os).1) ok
  exact ⟨ok, q1, q2, q3⟩
 -- the device
 have hdev : Dev A Lg L' g a l0 := by
  have h1 := area_apart (A := A) haa
  refine ⟨h.dev.sh, hc.len.trans hlen, hc.sec, h.dev.gg, haa, h.dev.fit, h.dev.srt, ?_, fun i hi => ?_, fun g' hg' => ?_⟩
  ·rw [hlow _ (by omega)]; exact h.dev.root
  ·have hi' : i < A := Nat.lt_of_lt_of_le hi h.dev.fit.fit
   rw [hlow _ (by have := h1.2.2 i hi'; omega)]; exact h.dev.area i hi
  ·by_cases h0 : n ≠ 0 ∧ pl = 0
   ·obtain ⟨o, k, k1, k2, k3⟩ := hhit 0 (by omega)
    obtain ⟨ok, q1, q2, q3⟩ := hsec 0 (by omega)
    have e : (((pl + 0 : Nat) : Int)) = 0 := by omega
    have := torn_low (M := logL L' A Lg) k1 k3 q1 q2 q3 ok k2 hg'
    rw [e] at this; exact this
   ·have e0 : (logL L' A Lg)[0]? = (logL L A Lg)[0]? := hlg 0 (by omega) fun i hi e => by omega
    have := h.dev.low g' hg'
    unfold payO at this ⊢
    rw [show ((0 : Int)).toNat = 0 from rfl] at this ⊢
    rw [e0]; exact this
 have hund : ∃ o, Under o g ∧ L'[(g + 1) % 2]? = some o := by
  obtain ⟨o, o1, o2⟩ := h.under
  exact ⟨o, o1, by rw [hlow _ (by omega)]; exact o2⟩
 have hpre : ∀ i, i < lenL xs → (logL L' A Lg)[i]? = (laidL g 0 xs)[i]? := fun i hi => by
  have := h.pl_
  rw [hlg i (by omega) fun i' hi' e => by omega]; exact h.laid i hi
 by_cases hw : ∀ i, i < szT (encOps os).1.length → (logL L' A Lg)[pl + i]? = some (secT (encOps os).1 g (pl : Int) i)
 · -- it stands whole
  have hnk : n = szT (encOps os).1.length := by
   apply Classical.byContradiction
   intro hne
   have hi : n < szT (encOps os).1.length := by omega
   have e := hw n hi
   rw [hlg (pl + n) (by omega) fun i hi e => by omega] at e
   have hcl := h.clean (pl + n) _ (by omega) e
   obtain ⟨ok, _, q2, _⟩ := hsec n hi
   exact hcl.ne (Nat.le_refl g) ok q2 rfl
  refine .inr ⟨hnk, ⟨⟨l0, hdev, ?_⟩, Other.zero f1 h.dev.gg haa hund, f1, f2⟩⟩
  have hll := lg_len h he hk
  have hgd := lg_good h he hk
  have ht : textsL L' A Lg g = xs ++ [(encOps os).1] := by
   refine texts_laid (by omega) ⟨by omega, by omega⟩ hlogl hgd (by omega) (fun i hi => ?_) ?_
   ·rw [laidL_app, Nat.zero_add]
    have hxl := laidL_len g h.good 0
    by_cases h1 : i < lenL xs
    ·rw [List.getElem?_append_left (by omega)]; exact hpre i h1
    ·rw [List.getElem?_append_right (by omega), hxl]
     have hp := h.pl_
     have hlay : laidL g (lenL xs) [(encOps os).1] = layT (encOps os).1 g ((lenL xs : Nat) : Int) := by simp [laidL]
     rw [hlay, layT_at ⟨x0, x1⟩ (by omega)]
     have := hw (i - lenL xs) (by omega)
     rw [show pl + (i - lenL xs) = i by omega, hp] at this; exact this
   ·apply pay_text
    rw [hll]
    rcases hs2 : (logL L' A Lg)[pl + szT (encOps os).1.length]? with _ | s
    ·unfold payO; rw [Int.toNat_natCast, hs2]
    ·have hj : pl + szT (encOps os).1.length < Lg := by
      apply Classical.byContradiction
      intro hge
      rw [List.getElem?_eq_none (by omega)] at hs2; cases hs2
     have e := hlg _ hj fun i hi e => by omega
     rw [hs2] at e
     exact clean_pay (h.clean _ s (by omega) e.symm) (Nat.le_refl _) hs2
  rw [ht]
  have := (lg_all h he hk).replay []
  rw [List.append_nil] at this
  rw [this]; rfl
 · -- it is broken
  refine .inl ⟨⟨⟨l0, hdev, ?_⟩, Other.zero h.fit h.dev.gg haa hund, h.fit, h.srt⟩, fun _ => trivial⟩
  have hex : ∃ i0, i0 < szT (encOps os).1.length ∧ (logL L' A Lg)[pl + i0]? ≠ some (secT (encOps os).1 g (pl : Int) i0) ∧ ∀ i, i < i0 → (logL L' A Lg)[pl + i]? = some (secT (encOps os).1 g (pl : Int) i) := by
   have key : ∀ m, m ≤ szT (encOps os).1.length → (∀ i, i < m → (logL L' A Lg)[pl + i]? = some (secT (encOps os).1 g (pl : Int) i)) ∨ ∃ i0, i0 < szT (encOps os).1.length ∧ (logL L' A Lg)[pl + i0]? ≠ some (secT (encOps os).1 g (pl : Int) i0) ∧ ∀ i, i < i0 → (logL L' A Lg)[pl + i]? = some (secT (encOps os).1 g (pl : Int) i) := by
    intro m
    induction m with
    | zero => intro _; exact .inl fun i hi => by omega
    | succ m ih =>
     intro hm
     rcases ih (by omega) with ih | ih
     ·by_cases e : (logL L' A Lg)[pl + m]? = some (secT (encOps os).1 g (pl : Int) m)
      ·refine .inl fun i hi => ?_
       by_cases hi' : i = m
       ·rw [hi']; exact e
       ·exact ih i (by omega)
      ·exact .inr ⟨m, by omega, e, ih⟩
     ·exact .inr ih
   rcases key _ (Nat.le_refl _) with k | k
   ·exact absurd k hw
   ·exact k
  obtain ⟨i0, i1, i2, i3⟩ := hex
  obtain ⟨ok, q1, q2, q3⟩ := hsec i0 i1
  have hnone : payO (logL L' A Lg) g (((pl : Nat) : Int) + (i0 : Int)) = none := by
   rw [show ((pl : Nat) : Int) + (i0 : Int) = ((pl + i0 : Nat) : Int) by omega]
   by_cases hi : i0 < n
   ·obtain ⟨o, k, k1, k2, k3⟩ := hhit i0 hi
    rw [k3] at i2
    exact torn_pay k1 k3 q1 q2 q3 ok k2 fun e => i2 (by rw [e])
   ·have e := hlg (pl + i0) (by omega) fun i hi' e => by omega
    rcases hs2 : (logL L A Lg)[pl + i0]? with _ | s
    ·unfold payO; rw [Int.toNat_natCast, e, hs2]
    ·exact clean_pay (h.clean _ s (by omega) hs2) (Nat.le_refl _) (e.trans hs2)
  have hbr : textO (logL L' A Lg) g ((pl : Nat) : Int) = none := textO_broken (t := (encOps os).1) ⟨x0, x1⟩ (fun i hi => by have := (hsec i hi).1; rwa [Int.natCast_add] at this) i1 i3 hnone
  have ht : textsL L' A Lg g = xs := texts_laid (by omega) ⟨by omega, by omega⟩ hlogl h.good (by have := h.pl_; omega) hpre (by rw [← h.pl_]; exact hbr)
  rw [ht]
  have := h.all.replay []
  rw [List.append_nil] at this
  rw [this]; rfl
theorem lg_run {w : Int} {q : Pd} {P : List Wr} : ∃ L2, Dk.run ⟨q, L, P, w⟩ (lgD A g pl (encOps os).1 (szT (encOps os).1.length) ++ syD) = ⟨.nil, L2, [], w + szT (encOps os).1.length⟩ ∧ L2.length = L.length ∧ RunI A Lg L2 g a l0 (applyL os now) (xs ++ [(encOps os).1]) (pl + szT (encOps os).1.length) := by
 have hs := h.dev.sh.lg
 have hg := h.dev.gg
 have haa := h.dev.aa
 have hin := h.in_
 have hF : areaA A 2 = 2 + 2 * A := rfl
 have hlen := h.dev.len
 have hkk := lg_ok h he hk
 obtain ⟨f1, f2⟩ := lg_fit h he hk
 obtain ⟨x0, x1⟩ := enc_len (fits_enc he).1
 have hsz := szT_good ⟨x0, x1⟩
 have hr := run_sync (q := q) (M := L) (P := P) (w := w) (fun x hx => (hkk x hx).1) (fun x hx => (hkk x hx).2) h.dev.sec
 rw [lgD_len] at hr
 refine ⟨_, hr, setsL_len _ _, ?_⟩
 obtain ⟨s1, s2⟩ := sets_at _ L (lgD_once A g pl (encOps os).1 (szT (encOps os).1.length)) (fun x hx => (hkk x hx).2.1)
 generalize hL' : setsL L (lgD A g pl (encOps os).1 (szT (encOps os).1.length)) = L' at *
 have hl' : L'.length = L.length := by rw [← hL']; exact setsL_len _ _
 have hsec' : Sec L' := by rw [← hL']; exact sets_sec _ _ h.dev.sec (fun x hx => (hkk x hx).2.2)
 have hmiss : ∀ j, (∀ i, i < szT (encOps os).1.length → j ≠ areaA A 2 + pl + i) → L'[j]? = L[j]? := fun j hj => s2 j fun x hx e => by
  obtain ⟨i, hi, rfl⟩ := lgD_mem hx
  exact hj i hi e.symm
 have hlow : ∀ j, j < areaA A 2 + pl → L'[j]? = L[j]? := fun j hj => hmiss j fun i _ e => by omega
 have hhit : ∀ i, i < szT (encOps os).1.length → (logL L' A Lg)[pl + i]? = some (secT (encOps os).1 g (pl : Int) i) := fun i hi => by
  rw [logL_get (by omega), ← Nat.add_assoc]
  exact s1 _ (lgD_at hi)
 have hlg : ∀ j, j < Lg → (∀ i, i < szT (encOps os).1.length → j ≠ pl + i) → (logL L' A Lg)[j]? = (logL L A Lg)[j]? := fun j hj hne => by
  rw [logL_get hj, logL_get hj]; exact hmiss _ fun i hi e => hne i hi (by omega)
 have hlogl : (logL L' A Lg).length = Lg := by unfold logL; rw [List.length_take, List.length_drop]; omega
 have hll := lg_len h he hk
 have hgd := lg_good h he hk
 have h1 := area_apart (A := A) haa
 refine ⟨⟨h.dev.sh, hl'.trans hlen, hsec', h.dev.gg, haa, h.dev.fit, h.dev.srt, ?_, fun i hi => ?_, fun g' hg' => ?_⟩, ?_, hgd, hll.symm, by omega, fun i hi => ?_, fun j s hj hjs => ?_, lg_all h he hk, f1, f2⟩
 ·rw [hlow _ (by omega)]; exact h.dev.root
 ·have hi' : i < A := Nat.lt_of_lt_of_le hi h.dev.fit.fit
  rw [hlow _ (by have := h1.2.2 i hi'; omega)]; exact h.dev.area i hi
 ·by_cases h0 : pl = 0
  ·have e := hhit 0 (by omega)
   have ok := okM_of (g := g) (a := pl + 0) ⟨by omega, by omega⟩ (by omega)
   have := clean_pay (secT_clean (t := (encOps os).1) ok hg') (Nat.le_refl g') e
   rw [show (((pl + 0 : Nat) : Int)) = 0 by omega] at this; exact this
  ·have e0 : (logL L' A Lg)[0]? = (logL L A Lg)[0]? := hlg 0 (by omega) fun i hi e => by omega
   have := h.dev.low g' hg'
   unfold payO at this ⊢
   rw [show ((0 : Int)).toNat = 0 from rfl] at this ⊢
   rw [e0]; exact this
 ·obtain ⟨o, o1, o2⟩ := h.under
  exact ⟨o, o1, by rw [hlow _ (by omega)]; exact o2⟩
 ·rw [laidL_app, Nat.zero_add]
  have hxl := laidL_len g h.good 0
  have hp := h.pl_
  by_cases h2 : i < lenL xs
  ·rw [List.getElem?_append_left (by omega), hlg i (by omega) fun i' hi' e => by omega]
   exact h.laid i h2
  ·rw [List.getElem?_append_right (by omega), hxl]
   have hlay : laidL g (lenL xs) [(encOps os).1] = layT (encOps os).1 g ((lenL xs : Nat) : Int) := by simp [laidL]
   rw [hlay, layT_at ⟨x0, x1⟩ (by omega)]
   have := hhit (i - lenL xs) (by omega)
   rw [show pl + (i - lenL xs) = i by omega, hp] at this; exact this
 ·have hjl : j < Lg := by
   apply Classical.byContradiction
   intro hge
   rw [List.getElem?_eq_none (by omega)] at hjs; cases hjs
  rw [hlg j hjl fun i hi e => by omega] at hjs
  exact h.clean j s (by omega) hjs
end
end Go.Proofs.YtbaedepmogkkeaaGreat.Av
