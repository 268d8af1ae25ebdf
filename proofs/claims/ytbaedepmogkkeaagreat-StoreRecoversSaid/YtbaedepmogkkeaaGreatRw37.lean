/- What the claim stands on, Rw37: contracts of functions and plain facts. No conditions. -/
import Derived.Test.YtbaedepmogkkeaaGreatRw36
import Derived.Test.YtbaedepmogkkeaaGreatRw35
import Derived.Test.YtbaedepmogkkeaaGreatRw20
namespace Go.Proofs.YtbaedepmogkkeaaGreat.Av
open Go Go.RowKit Tre
set_option linter.unusedVariables false
set_option linter.unusedSimpArgs false
set_option maxRecDepth 100000
theorem lgD_mem {A g pl : Nat} {X : Key} {n : Nat} {x : Dd} (h : x ∈ lgD A g pl X n) : ∃ i, i < n ∧ x = ⟨false, areaA A 2 + pl + i, secT X g (pl : Int) i⟩ := by
 unfold lgD at h
 obtain ⟨i, hi, rfl⟩ := List.mem_map.1 h
 exact ⟨i, List.mem_range.1 hi, rfl⟩
theorem lgD_at {A g pl : Nat} {X : Key} {n i : Nat} (h : i < n) : (⟨false, areaA A 2 + pl + i, secT X g (pl : Int) i⟩ : Dd) ∈ lgD A g pl X n := by
 unfold lgD; exact List.mem_map.2 ⟨i, List.mem_range.2 h, rfl⟩
theorem lgD_once (A g pl : Nat) (X : Key) (n : Nat) : Once (lgD A g pl X n) := by
 unfold Once lgD
 rw [List.pairwise_map]
 refine List.Pairwise.imp ?_ List.nodup_range
 intro i j hij e
 exact hij (by simpa using e)
theorem lgD_take (A g pl : Nat) (X : Key) {n m : Nat} (h : m ≤ n) : (lgD A g pl X n).take m = lgD A g pl X m := by
 unfold lgD
 rw [← List.map_take, List.take_range, Nat.min_eq_left h]
section
variable {A Lg : Nat} {L : List Key} {g a : Nat} {l0 now : List Pr} {xs : List Key} {pl : Nat} (h : RunI A Lg L g a l0 now xs pl) {os : List OpP} (he : fitsE A now os = 0) (hk : szT (encOps os).1.length ≤ Lg - pl)
include h he hk
theorem lg_ok : ∀ x ∈ lgD A g pl (encOps os).1 (szT (encOps os).1.length), x.sync = false ∧ x.pl < L.length ∧ x.text.length = 64 := fun x hx => by
 have _h0 := he
 obtain ⟨i, hi, rfl⟩ := lgD_mem hx
 have h1 := h.dev.len
 have h2 := h.in_
 have hF : areaA A 2 = 2 + 2 * A := rfl
 have hs := h.dev.sh.lg
 have hg := h.dev.gg
 exact ⟨rfl, by simp only; omega, (secT_ends (okM_of (a := pl + i) ⟨by omega, by omega⟩ (by omega))).1⟩
theorem lg_fit : FitL A (applyL os now) ∧ Srt (applyL os now) := by
 have h0 := hk
 obtain ⟨_, e2⟩ := fits_enc he
 refine ⟨⟨e2, h.fit.top⟩, ?_⟩
 have hs := h.srt
 have h1 := (apply_good os (ofL now) (ofL_good now).1)
 rw [ofL_toL hs] at h1
 rw [← h1.2]; exact h1.1.srt
theorem lg_dec : (decOps (encOps os).1) = (os, 0) := by
 have h0 := hk
 have h1 := h.in_
 exact (dec_enc (fits_enc he).1).1
theorem lg_all : AllIn A l0 (xs ++ [(encOps os).1]) (applyL os now) := by
 have hd := lg_dec h he hk
 have := AllIn.snoc h.all (x := (encOps os).1) (by rw [hd]) (by rw [hd]; exact (fits_enc he).2)
 rw [hd] at this; exact this
theorem lg_good : GoodL (xs ++ [(encOps os).1]) := fun t ht => by
 have h0 := hk
 rcases List.mem_append.1 ht with ht | ht
 ·exact h.good t ht
 ·rw [List.mem_singleton.1 ht]; exact enc_len (fits_enc he).1
theorem lg_len : lenL (xs ++ [(encOps os).1]) = pl + szT (encOps os).1.length := by
 have _h0 := hk
 have h0 := he
 rw [lenL_app, h.pl_]; rfl
theorem lg_crash {L' : List Key} {n : Nat} (hn : n ≤ szT (encOps os).1.length) (hc : CrashOf L (lgD A g pl (encOps os).1 n) L') :
  (SvI A Lg L' now g a ∧ (n = szT (encOps os).1.length → True)) ∨ (n = szT (encOps os).1.length ∧ SvI A Lg L' (applyL os now) g a) := by
 have hs := h.dev.sh.lg
 have hg := h.dev.gg
 have haa := h.dev.aa
 have hin := h.in_
 have hF : areaA A 2 = 2 + 2 * A := rfl
 have hlen := h.dev.len
 obtain ⟨x0, x1⟩ := enc_len (fits_enc he).1
 have hsz := szT_good ⟨x0, x1⟩
 obtain ⟨f1, f2⟩ := lg_fit h he hk
 -- what did not turn
 have hmiss : ∀ j, (∀ i, i < n → j ≠ areaA A 2 + pl + i) → L'[j]? = L[j]? := fun j hj => hc.miss j fun x hx e => by
  obtain ⟨i, hi, rfl⟩ := lgD_mem hx
  exact hj i hi e.symm
 have hlow : ∀ j, j < areaA A 2 + pl → L'[j]? = L[j]? := fun j hj => hmiss j fun i _ e => by omega
 have hlogl : (logL L' A Lg).length = Lg := by
  have := hc.len
  unfold logL; rw [List.length_take, List.length_drop]; omega
 have hlg : ∀ j, j < Lg → (∀ i, i < n → j ≠ pl + i) → (logL L' A Lg)[j]? = (logL L A Lg)[j]? := fun j hj hne => by
  rw [logL_get hj, logL_get hj]; exact hmiss _ fun i hi e => hne i hi (by omega)
 -- what turned
 have hhit : ∀ i, i < n → ∃ o k, k ≤ 64 ∧ CleanS g o ∧ (logL L' A Lg)[pl + i]? = some (torn (secT (encOps os).1 g (pl : Int) i) o k) := fun i hi => by
  obtain ⟨o, k, k1, k2, k3, k4⟩ := hc.hit _ (lgD_at (A := A) (g := g) (pl := pl) (X := (encOps os).1) hi)
  have hj : pl + i < Lg := by omega
  refine ⟨o, k, k1, h.clean (pl + i) o (by omega) ?_, ?_⟩
  ·rw [logL_get hj, ← Nat.add_assoc]; exact k2
  ·rw [logL_get hj, ← Nat.add_assoc]; exact k4
 have hsec : ∀ i, i < szT (encOps os).1.length → OkM g ((pl + i : Nat) : Int) ∧ (secT (encOps os).1 g (pl : Int) i).length = 64 ∧ hdM (secT (encOps os).1 g (pl : Int) i) = mkT g ((pl + i : Nat) : Int) ∧ tlM (secT (encOps os).1 g (pl : Int) i) = mkT g ((pl + i : Nat) : Int) := fun i hi => by
  have ok := okM_of (g := g) (a := pl + i) ⟨by omega, by omega⟩ (by omega)
  obtain ⟨q1, q2, q3, _⟩ := secT_ends (t := (encOps os).1) ok
  exact ⟨ok, q1, q2, q3⟩
 -- the device
 have hdev : Dev A Lg L' g a l0 := by
  have h1 := area_apart (A := A) haa
  refine ⟨h.dev.sh, hc.len.trans hlen, hc.sec, h.dev.gg, haa, h.dev.fit, h.dev.srt, ?_, fun i hi => ?_, fun g' hg' => ?_⟩
  ·rw [hlow _ (by omega)]; exact h.dev.root
  ·have hi' : i < A := Nat.lt_of_lt_of_le hi h.dev.fit.fit
   rw [hlow _ (by have := h1.2.2 i hi'; omega)]; exact h.dev.area i hi
  ·by_cases h0 : n ≠ 0 ∧ pl = 0
   ·obtain ⟨o, k, k1, k2, k3⟩ := hhit 0 (by omega)
    obtain ⟨ok, q1, q2, q3⟩ := hsec 0 (by omega)
    have e : (((pl + 0 : Nat) : Int)) = 0 := by omega
    have := torn_low (M := logL L' A Lg) k1 k3 q1 q2 q3 ok k2 hg'
    rw [e] at this; exact this
   ·have e0 : (logL L' A Lg)[0]? = (logL L A Lg)[0]? := hlg 0 (by omega) fun i hi e => by omega
    have := h.dev.low g' hg'
    unfold payO at this ⊢
    rw [show ((0 : Int)).toNat = 0 from rfl] at this ⊢
    rw [e0]; exact this
 have hund : ∃ o, Under o g ∧ L'[(g + 1) % 2]? = some o := by
  obtain ⟨o, o1, o2⟩ := h.under
  exact ⟨o, o1, by rw [hlow _ (by omega)]; exact o2⟩
 have hpre : ∀ i, i < lenL xs → (logL L' A Lg)[i]? = (laidL g 0 xs)[i]? := fun i hi => by
  have := h.pl_
  rw [hlg i (by omega) fun i' hi' e => by omega]; exact h.laid i hi
 by_cases hw : ∀ i, i < szT (encOps os).1.length → (logL L' A Lg)[pl + i]? = some (secT (encOps os).1 g (pl : Int) i)
 · -- it stands whole
  have hnk : n = szT (encOps os).1.length := by
   apply Classical.byContradiction
   intro hne
   have hi : n < szT (encOps os).1.length := by omega
   have e := hw n hi
   rw [hlg (pl + n) (by omega) fun i hi e => by omega] at e
   have hcl := h.clean (pl + n) _ (by omega) e
   obtain ⟨ok, _, q2, _⟩ := hsec n hi
   exact hcl.ne (Nat.le_refl g) ok q2 rfl
  refine .inr ⟨hnk, ⟨⟨l0, hdev, ?_⟩, Other.zero f1 h.dev.gg haa hund, f1, f2⟩⟩
  have hll := lg_len h he hk
  have hgd := lg_good h he hk
  have ht : textsL L' A Lg g = xs ++ [(encOps os).1] := by
   refine texts_laid (by omega) ⟨by omega, by omega⟩ hlogl hgd (by omega) (fun i hi => ?_) ?_
   ·rw [laidL_app, Nat.zero_add]
    have hxl := laidL_len g h.good 0
    by_cases h1 : i < lenL xs
    ·rw [List.getElem?_append_left (by omega)]; exact hpre i h1
    ·rw [List.getElem?_append_right (by omega), hxl]
     have hp := h.pl_
     have hlay : laidL g (lenL xs) [(encOps os).1] = layT (encOps os).1 g ((lenL xs : Nat) : Int) := by simp [laidL]
     rw [hlay, layT_at ⟨x0, x1⟩ (by omega)]
     have := hw (i - lenL xs) (by omega)
     rw [show pl + (i - lenL xs) = i by omega, hp] at this; exact this
   ·apply pay_text
    rw [hll]
    rcases hs2 : (logL L' A Lg)[pl + szT (encOps os).1.length]? with _ | s
    ·unfold payO; rw [Int.toNat_natCast, hs2]
    ·have hj : pl + szT (encOps os).1.length < Lg := by
      apply Classical.byContradiction
      intro hge
      rw [List.getElem?_eq_none (by omega)] at hs2; cases hs2
     have e := hlg _ hj fun i hi e => by omega
     rw [hs2] at e
     exact clean_pay (h.clean _ s (by omega) e.symm) (Nat.le_refl _) hs2
  rw [ht]
  have := (lg_all h he hk).replay []
  rw [List.append_nil] at this
  rw [this]; rfl
 · -- it is broken
  refine .inl ⟨⟨⟨l0, hdev, ?_⟩, Other.zero h.fit h.dev.gg haa hund, h.fit, h.srt⟩, fun _ => trivial⟩
  have hex : ∃ i0, i0 < szT (encOps os).1.length ∧ (logL L' A Lg)[pl + i0]? ≠ some (secT (encOps os).1 g (pl : Int) i0) ∧ ∀ i, i < i0 → (logL L' A Lg)[pl + i]? = some (secT (encOps os).1 g (pl : Int) i) := by
   have key : ∀ m, m ≤ szT (encOps os).1.length → (∀ i, i < m → (logL L' A Lg)[pl + i]? = some (secT (encOps os).1 g (pl : Int) i)) ∨ ∃ i0, i0 < szT (encOps os).1.length ∧ (logL L' A Lg)[pl + i0]? ≠ some (secT (encOps os).1 g (pl : Int) i0) ∧ ∀ i, i < i0 → (logL L' A Lg)[pl + i]? = some (secT (encOps os).1 g (pl : Int) i) := by
    intro m
    induction m with
    | zero => intro _; exact .inl fun i hi => by omega
    | succ m ih =>
     intro hm
     rcases ih (by omega) with ih | ih
     ·by_cases e : (logL L' A Lg)[pl + m]? = some (secT (encOps os).1 g (pl : Int) m)
      ·refine .inl fun i hi => ?_
       by_cases hi' : i = m
       ·rw [hi']; exact e
       ·exact ih i (by omega)
      ·exact .inr ⟨m, by omega, e, ih⟩
     ·exact .inr ih
   rcases key _ (Nat.le_refl _) with k | k
   ·exact absurd k hw
   ·exact k
  obtain ⟨i0, i1, i2, i3⟩ := hex
  obtain ⟨ok, q1, q2, q3⟩ := hsec i0 i1
  have hnone : payO (logL L' A Lg) g (((pl : Nat) : Int) + (i0 : Int)) = none := by
   rw [show ((pl : Nat) : Int) + (i0 : Int) = ((pl + i0 : Nat) : Int) by omega]
   by_cases hi : i0 < n
   ·obtain ⟨o, k, k1, k2, k3⟩ := hhit i0 hi
    rw [k3] at i2
    exact torn_pay k1 k3 q1 q2 q3 ok k2 fun e => i2 (by rw [e])
   ·have e := hlg (pl + i0) (by omega) fun i hi' e => by omega
    rcases hs2 : (logL L A Lg)[pl + i0]? with _ | s
    ·unfold payO; rw [Int.toNat_natCast, e, hs2]
    ·exact clean_pay (h.clean _ s (by omega) hs2) (Nat.le_refl _) (e.trans hs2)
  have hbr : textO (logL L' A Lg) g ((pl : Nat) : Int) = none := textO_broken (t := (encOps os).1) ⟨x0, x1⟩ (fun i hi => by have := (hsec i hi).1; rwa [Int.natCast_add] at this) i1 i3 hnone
  have ht : textsL L' A Lg g = xs := texts_laid (by omega) ⟨by omega, by omega⟩ hlogl h.good (by have := h.pl_; omega) hpre (by rw [← h.pl_]; exact hbr)
  rw [ht]
  have := h.all.replay []
  rw [List.append_nil] at this
  rw [this]; rfl
theorem lg_run {w : Int} {q : Pd} {P : List Wr} : ∃ L2, Dk.run ⟨q, L, P, w⟩ (lgD A g pl (encOps os).1 (szT (encOps os).1.length) ++ syD) = ⟨.nil, L2, [], w + szT (encOps os).1.length⟩ ∧ L2.length = L.length ∧ RunI A Lg L2 g a l0 (applyL os now) (xs ++ [(encOps os).1]) (pl + szT (encOps os).1.length) := by
 have hs := h.dev.sh.lg
 have hg := h.dev.gg
 have haa := h.dev.aa
 have hin := h.in_
 have hF : areaA A 2 = 2 + 2 * A := rfl
 have hlen := h.dev.len
 have hkk := lg_ok h he hk
 obtain ⟨f1, f2⟩ := lg_fit h he hk
 obtain ⟨x0, x1⟩ := enc_len (fits_enc he).1
 have hsz := szT_good ⟨x0, x1⟩
 have hr := run_sync (q := q) (M := L) (P := P) (w := w) (fun x hx => (hkk x hx).1) (fun x hx => (hkk x hx).2) h.dev.sec
 rw [lgD_len] at hr
 refine ⟨_, hr, setsL_len _ _, ?_⟩
 obtain ⟨s1, s2⟩ := sets_at _ L (lgD_once A g pl (encOps os).1 (szT (encOps os).1.length)) (fun x hx => (hkk x hx).2.1)
 generalize hL' : setsL L (lgD A g pl (encOps os).1 (szT (encOps os).1.length)) = L' at *
 have hl' : L'.length = L.length := by rw [← hL']; exact setsL_len _ _
 have hsec' : Sec L' := by rw [← hL']; exact sets_sec _ _ h.dev.sec (fun x hx => (hkk x hx).2.2)
 have hmiss : ∀ j, (∀ i, i < szT (encOps os).1.length → j ≠ areaA A 2 + pl + i) → L'[j]? = L[j]? := fun j hj => s2 j fun x hx e => by
  obtain ⟨i, hi, rfl⟩ := lgD_mem hx
  exact hj i hi e.symm
 have hlow : ∀ j, j < areaA A 2 + pl → L'[j]? = L[j]? := fun j hj => hmiss j fun i _ e => by omega
 have hhit : ∀ i, i < szT (encOps os).1.length → (logL L' A Lg)[pl + i]? = some (secT (encOps os).1 g (pl : Int) i) := fun i hi => by
  rw [logL_get (by omega), ← Nat.add_assoc]
  exact s1 _ (lgD_at hi)
 have hlg : ∀ j, j < Lg → (∀ i, i < szT (encOps os).1.length → j ≠ pl + i) → (logL L' A Lg)[j]? = (logL L A Lg)[j]? := fun j hj hne => by
  rw [logL_get hj, logL_get hj]; exact hmiss _ fun i hi e => hne i hi (by omega)
 have hlogl : (logL L' A Lg).length = Lg := by unfold logL; rw [List.length_take, List.length_drop]; omega
 have hll := lg_len h he hk
 have hgd := lg_good h he hk
 have h1 := area_apart (A := A) haa
 refine ⟨⟨h.dev.sh, hl'.trans hlen, hsec', h.dev.gg, haa, h.dev.fit, h.dev.srt, ?_, fun i hi => ?_, fun g' hg' => ?_⟩, ?_, hgd, hll.symm, by omega, fun i hi => ?_, fun j s hj hjs => ?_, lg_all h he hk, f1, f2⟩
 ·rw [hlow _ (by omega)]; exact h.dev.root
 ·have hi' : i < A := Nat.lt_of_lt_of_le hi h.dev.fit.fit
  rw [hlow _ (by have := h1.2.2 i hi'; omega)]; exact h.dev.area i hi
 ·by_cases h0 : pl = 0
  ·have e := hhit 0 (by omega)
   have ok := okM_of (g := g) (a := pl + 0) ⟨by omega, by omega⟩ (by omega)
   have := clean_pay (secT_clean (t := (encOps os).1) ok hg') (Nat.le_refl g') e
   rw [show (((pl + 0 : Nat) : Int)) = 0 by omega] at this; exact this
  ·have e0 : (logL L' A Lg)[0]? = (logL L A Lg)[0]? := hlg 0 (by omega) fun i hi e => by omega
   have := h.dev.low g' hg'
   unfold payO at this ⊢
   rw [show ((0 : Int)).toNat = 0 from rfl] at this ⊢
   rw [e0]; exact this
 ·obtain ⟨o, o1, o2⟩ := h.under
  exact ⟨o, o1, by rw [hlow _ (by omega)]; exact o2⟩
 ·rw [laidL_app, Nat.zero_add]
  have hxl := laidL_len g h.good 0
  have hp := h.pl_
  by_cases h2 : i < lenL xs
  ·rw [List.getElem?_append_left (by omega), hlg i (by omega) fun i' hi' e => by omega]
   exact h.laid i h2
  ·rw [List.getElem?_append_right (by omega), hxl]
   have hlay : laidL g (lenL xs) [(encOps os).1] = layT (encOps os).1 g ((lenL xs : Nat) : Int) := by simp [laidL]
   rw [hlay, layT_at ⟨x0, x1⟩ (by omega)]
   have := hhit (i - lenL xs) (by omega)
   rw [show pl + (i - lenL xs) = i by omega, hp] at this; exact this
 ·have hjl : j < Lg := by
   apply Classical.byContradiction
   intro hge
   rw [List.getElem?_eq_none (by omega)] at hjs; cases hjs
  rw [hlg j hjl fun i hi e => by omega] at hjs
  exact h.clean j s (by omega) hjs
end
end Go.Proofs.YtbaedepmogkkeaaGreat.Av
namespace Go.Proofs.YtbaedepmogkkeaaGreat.Av
open Go Go.RowKit Tre
set_option linter.unusedVariables false
set_option linter.unusedSimpArgs false
set_option maxRecDepth 100000
set_option maxHeartbeats 1000000
theorem zK_clean (g : Nat) : CleanS g zK := by
 refine ⟨zK_len, 0, ?_, ?_, .inl rfl⟩
 ·show Quill.tell ((List.replicate 64 (0 : UInt8)).take 8) = 0
  rw [List.take_replicate]; exact tell_zeros _
 ·show Quill.tell ((List.replicate 64 (0 : UInt8)).drop 56) = 0
  rw [List.drop_replicate]; exact tell_zeros _
theorem fitL0 {A : Nat} (h1 : 1 ≤ A) (h2 : A ≤ 512) : FitL A [] := (fit0 h1 h2).list
theorem npc0 : npc enc0 = 1 := by
 have hb : enc0.length = 4 := by rw [Shf.encB_len]; rfl
 unfold npc; rw [hb]
theorem newL_get {n j : Nat} (h : j < n) : (newL n)[j]? = some zK := by unfold newL; simp [h]
def fmtL (A Lg : Nat) : List Key := ((newL (2 + 2 * A + Lg)).set 2 (Av.sec (mkG 1 0) (pc enc0 0))).set 1 (rootB [] 1 0)
theorem fmt_run {A Lg : Nat} (h : OkSh A Lg) : Dk.run ⟨.nil, newL (2 + 2 * A + Lg), [], 0⟩ (fmtD A) = ⟨.nil, fmtL A Lg, [], 2⟩ ∧ DdOk (2 + 2 * A + Lg) (fmtD A) ∧ RunI A Lg (fmtL A Lg) 1 0 [] [] [] 0 := by
 have hs := h.lg
 have hN : (newL (2 + 2 * A + Lg)).length = 2 + 2 * A + Lg := newL_len _
 have hF0 : areaA A 0 = 2 := by unfold areaA; omega
 have hF2 : areaA A 2 = 2 + 2 * A := rfl
 have hsl : (Av.sec (mkG 1 0) (pc enc0 0)).length = 64 := sec_len _ _ (pc48 _ _)
 have e : fmtD A = ([⟨false, 2, Av.sec (mkG 1 0) (pc enc0 0)⟩] ++ [⟨true, 0, []⟩]) ++ ([⟨false, 1, rootB [] 1 0⟩] ++ [⟨true, 0, []⟩]) := by
  show shD A 0 1 enc0 (npc enc0) ++ endD 1 0 enc0.length (sumN enc0) = _
  rw [npc0]
  unfold shD endD
  simp only [List.range_one, List.map_cons, List.map_nil, hF0, Nat.add_zero]
  rfl
 have r1 := run_sync (ds := [⟨false, 2, Av.sec (mkG 1 0) (pc enc0 0)⟩]) (q := .nil) (M := newL (2 + 2 * A + Lg)) (P := []) (w := 0) (fun x hx => by rw [List.mem_singleton.1 hx]) (fun x hx => by rw [List.mem_singleton.1 hx, hN]; exact ⟨by simp only; omega, hsl⟩) (newL_sec _)
 have r2 := run_sync (ds := [⟨false, 1, rootB [] 1 0⟩]) (q := .nil) (M := (newL (2 + 2 * A + Lg)).set 2 (Av.sec (mkG 1 0) (pc enc0 0))) (P := []) (w := 1) (fun x hx => by rw [List.mem_singleton.1 hx]) (fun x hx => by rw [List.mem_singleton.1 hx, List.length_set, hN]; exact ⟨by simp only; omega, root_len⟩) ((newL_sec _).set hsl)
 have hget : ∀ j, j ≠ 1 → j ≠ 2 → j < 2 + 2 * A + Lg → (fmtL A Lg)[j]? = some zK := fun j h1 h2 hj => by
  unfold fmtL
  rw [List.getElem?_set_ne (by omega), List.getElem?_set_ne (by omega), newL_get hj]
 have hlen : (fmtL A Lg).length = 2 + 2 * A + Lg := by unfold fmtL; rw [List.length_set, List.length_set, hN]
 have hlog : ∀ j s, (logL (fmtL A Lg) A Lg)[j]? = some s → s = zK := fun j s hj => by
  have hjl : j < Lg := by
   apply Classical.byContradiction
   intro hge
   rw [List.getElem?_eq_none (by unfold logL; rw [List.length_take]; omega)] at hj; cases hj
  rw [logL_get hjl, hget _ (by omega) (by omega) (by omega)] at hj
  injection hj with hj; exact hj.symm
 refine ⟨?_, ?_, ⟨⟨h, hlen, ?_, ⟨by omega, by omega⟩, by omega, fitL0 (by omega) (by omega), List.Pairwise.nil, ?_, fun i hi => ?_, fun g' hg' => ?_⟩, ⟨zK, .inl rfl, hget 0 (by omega) (by omega) (by omega)⟩, fun t ht => (by cases ht), rfl, by omega, fun i hi => (by simp [lenL] at hi), fun j s _ hj => ?_, .nil, fitL0 (by omega) (by omega), List.Pairwise.nil⟩⟩
 ·rw [e, Dk.run_app]
  have r1 : Dk.run ⟨.nil, newL (2 + 2 * A + Lg), [], 0⟩ ([⟨false, 2, Av.sec (mkG 1 0) (pc enc0 0)⟩] ++ [⟨true, 0, []⟩]) = ⟨.nil, (newL (2 + 2 * A + Lg)).set 2 (Av.sec (mkG 1 0) (pc enc0 0)), [], 1⟩ := r1
  rw [r1, r2]; rfl
 ·intro x hx
  rw [e] at hx
  simp only [List.cons_append, List.nil_append, List.mem_cons, List.not_mem_nil, or_false] at hx
  rcases hx with rfl | rfl | rfl | rfl
  ·exact .inr ⟨by simp only; omega, hsl⟩
  ·exact .inl rfl
  ·exact .inr ⟨by simp only; omega, root_len⟩
  ·exact .inl rfl
 ·unfold fmtL; exact ((newL_sec _).set hsl).set root_len
 ·unfold fmtL
  rw [show 1 % 2 = 1 from rfl, List.getElem?_set_self (by rw [List.length_set, hN]; omega)]
 ·have hi0 : i = 0 := by have := npc0; have hi : i < npc enc0 := hi; omega
  subst hi0
  rw [hF0]
  unfold fmtL
  rw [List.getElem?_set_ne (by omega), List.getElem?_set_self (by rw [hN]; omega)]; rfl
 ·rcases hs2 : (logL (fmtL A Lg) A Lg)[0]? with _ | s
  ·unfold payO; rw [show ((0 : Int)).toNat = 0 from rfl, hs2]
  ·rw [hlog 0 s hs2] at hs2
   exact clean_pay (zK_clean g') (Nat.le_refl _) hs2
 ·rw [hlog j s hj]; exact zK_clean 1
structure Planned (A Lg : Nat) (L : List Key) (g : Nat) (now : List Pr) (os : List OpP) (D : List Dd) (g2 a2 : Nat) (pl2 : Nat) : Prop where
 gen : g ≤ g2 ∧ g2 ≤ g + 1 ∧ g2 < 1099511627776
 len : 2 ≤ D.length ∧ D.length ≤ 900
 ok : DdOk L.length D
 run : ∀ w : Int, ∃ L2 l2 xs2 w2, Dk.run ⟨.nil, L, [], w⟩ D = ⟨.nil, L2, [], w2⟩ ∧ L2.length = L.length ∧ RunI A Lg L2 g2 a2 l2 (applyL os now) xs2 pl2
 part : ∀ (w : Int) (p : Plan) (m : Nat), WrOk (Dk.run ⟨.nil, L, [], w⟩ (D.take m)).P L.length ∧ Sec (Dk.run ⟨.nil, L, [], w⟩ (D.take m)).L ∧
  ∃ g' a' now', g' ≤ g2 ∧ SvI A Lg (keepL p 0 (Dk.run ⟨.nil, L, [], w⟩ (D.take m)).P (undoL (Dk.run ⟨.nil, L, [], w⟩ (D.take m)).P (Dk.run ⟨.nil, L, [], w⟩ (D.take m)).L)) now' g' a' ∧ (now' = now ∨ now' = applyL os now) ∧ (m < D.length - 1 → now' = now) ∧ (D.length ≤ m → now' = applyL os now)
theorem planned_room {A Lg : Nat} {L : List Key} {g a : Nat} {l0 now : List Pr} {xs : List Key} {pl : Nat} (h : RunI A Lg L g a l0 now xs pl) {os : List OpP} (he : fitsE A now os = 0) (hk : szT (encOps os).1.length ≤ Lg - pl) :
  Planned A Lg L g now os (lgD A g pl (encOps os).1 (szT (encOps os).1.length) ++ syD) g a (pl + szT (encOps os).1.length) := by
 have hs := h.dev.sh.lg
 have hg := h.dev.gg
 have hkk := lg_ok h he hk
 obtain ⟨x0, x1⟩ := enc_len (fits_enc he).1
 have hsz := szT_good ⟨x0, x1⟩
 have hin := h.in_
 have hll : (lgD A g pl (encOps os).1 (szT (encOps os).1.length) ++ syD).length = szT (encOps os).1.length + 1 := by rw [List.length_append, lgD_len]; rfl
 refine ⟨⟨Nat.le_refl _, by omega, hg.2⟩, by rw [hll]; omega, fun x hx => ?_, fun w => ?_, fun w p m => ?_⟩
 ·rcases List.mem_append.1 hx with hx | hx
  ·exact .inr (hkk x hx).2
  ·rw [List.mem_singleton.1 hx]; exact .inl rfl
 ·obtain ⟨L2, r1, r2, r3⟩ := lg_run h he hk (w := w) (q := .nil) (P := [])
  exact ⟨L2, l0, _, _, r1, r2, r3⟩
 ·by_cases hm : m ≤ szT (encOps os).1.length
  ·have e : (lgD A g pl (encOps os).1 (szT (encOps os).1.length) ++ syD).take m = lgD A g pl (encOps os).1 m := by
    rw [List.take_append_of_le_length (by rw [lgD_len]; exact hm), lgD_take A g pl _ hm]
   rw [e]
   have hmem : ∀ x ∈ lgD A g pl (encOps os).1 m, x ∈ lgD A g pl (encOps os).1 (szT (encOps os).1.length) := fun x hx => by
    obtain ⟨i, hi, rfl⟩ := lgD_mem hx
    exact lgD_at (by omega)
   obtain ⟨c1, c2, c3⟩ := crash_run (q := .nil) (w := w) (fun x hx => (hkk x (hmem x hx)).1) (lgD_once A g pl (encOps os).1 m) (fun x hx => (hkk x (hmem x hx)).2) h.dev.sec p
   refine ⟨c1, c2, ?_⟩
   rcases lg_crash h he hk hm c3 with ⟨s, _⟩ | ⟨hme, s⟩
   ·exact ⟨g, a, now, by omega, s, .inl rfl, fun _ => rfl, fun hd => by rw [hll] at hd; omega⟩
   ·exact ⟨g, a, _, by omega, s, .inr rfl, fun hd => by rw [hll] at hd; omega, fun _ => rfl⟩
  ·have e : (lgD A g pl (encOps os).1 (szT (encOps os).1.length) ++ syD).take m = lgD A g pl (encOps os).1 (szT (encOps os).1.length) ++ syD := List.take_of_length_le (by rw [hll]; omega)
   obtain ⟨L2, r1, r2, r3⟩ := lg_run h he hk (w := w) (q := .nil) (P := [])
   rw [e, r1]
   exact ⟨fun x hx => (by cases hx), r3.dev.sec, g, a, _, by omega, r3.sv, .inr rfl, fun hd => by rw [hll] at hd; omega, fun _ => rfl⟩
end Go.Proofs.YtbaedepmogkkeaaGreat.Av
namespace Go.Proofs.YtbaedepmogkkeaaGreat.Av
open Go Go.RowKit Tre
set_option linter.unusedVariables false
set_option linter.unusedSimpArgs false
set_option maxRecDepth 100000
set_option maxHeartbeats 4000000
theorem back18_ok (D : List Dd) (hn : D.length ≤ 100000) : SP 27 [.vs D.length (ddC D)] (.own 173 D.length (ddC D)) := by
 have hst : ∀ i (h : i < D.length), ddC (D.take i) ++ [B D[i].sync, Z D[i].pl, T D[i].text] = ddC (D.take (i + 1)) := fun i h => by
  rw [List.take_add_one, List.getElem?_eq_getElem h, ddC_app]; rfl
 have hfin : ddC (D.take D.length) = ddC D := by rw [List.take_length]
 refine S_ Tryz.func27 (by kernel_rfl) rfl (Nat.le_of_ble_eq_true rfl) ?_
 show avc Tryz.prog SP _ _ _ _ _ _
 dsimp only [avc, startS, Array.toList, Tryz.f27]
 repeat' ((try conv => whnf) <;> first | refine Av.Va ?_ | exact True.intro | refine Av.Vb ?_ | exact ⟨rfl, rfl, rfl⟩ | exact ⟨rfl, rfl⟩ | (refine Av.Vc ?_ ?_ <;> intro hBr <;> first | (exfalso; omega) | (exfalso; contradiction) | (exfalso; exact hBr rfl) | skip) | refine Av.Vd ?_ | exact rfl)
 refine ⟨[4, 3, 0], [(3, some 173)], fun vs bl => ∃ (i : Nat) (K : List AV), i ≤ D.length ∧ K = ddC (D.take i) ∧ (vs = [Z i, .sl 0 i, .vs D.length (ddC D)] ∧ bl = [⟨K, some 173, false, true⟩]), muI D.length, ?_, ?_⟩
 ·exact ⟨0, [], by omega, rfl, rfl, rfl⟩
 rintro vs bl ⟨i, K, hi, hK, rfl, rfl⟩
 have hKl : K.length = i * sizeT Tryz.prog 173 := by rw [hK, ddC_len, hsRD, List.length_take]; omega
 by_cases hlt : i < D.length
 ·have hat := ddW hlt
  have hst := hst i hlt
  rw [← hK] at hst
  have ho := one_rd D[i].sync D[i].pl D[i].text
  have hdec : muI D.length [Z ((i : Int) + 1)] [] < muI D.length [Z i] [] := by show D.length - ((i : Int) + 1).toNat < D.length - (i : Int).toNat; omega
  generalize D[i] = d at *
  clear hfin hK
  repeat' ((try conv => whnf) <;> first | refine Av.Va ?_ | (refine ⟨_, hat, ?_⟩) | (refine ⟨true, ?_⟩) | (refine And.intro ⟨room_rd (by omega), hKl, ho⟩ ?_) | exact True.intro | refine Av.Vb ?_ | exact ⟨rfl, rfl, rfl⟩ | exact ⟨rfl, rfl⟩ | (refine Av.Vc ?_ ?_ <;> intro hBr <;> first | (exfalso; omega) | (exfalso; contradiction) | (exfalso; exact hBr rfl) | skip) | refine Av.Vd ?_ | exact rfl)
  exact ⟨⟨i + 1, _, by omega, hst, rfl, rfl⟩, hdec⟩
 ·obtain rfl : i = D.length := by omega
  rw [hfin] at hK
  rw [← hK]
  clear hst hfin hK
  repeat' ((try conv => whnf) <;> first | refine Av.Va ?_ | exact True.intro | refine Av.Vb ?_ | exact ⟨rfl, rfl, rfl⟩ | exact ⟨rfl, rfl⟩ | (refine Av.Vc ?_ ?_ <;> intro hBr <;> first | (exfalso; omega) | (exfalso; contradiction) | (exfalso; exact hBr rfl) | skip) | refine Av.Vd ?_ | exact rfl)
theorem back18_nil : SP 27 [nilA] (.own 173 0 []) := by
 refine S_ Tryz.func27 (by kernel_rfl) rfl (Nat.le_of_ble_eq_true rfl) ?_
 show avc Tryz.prog SP _ _ _ _ _ _
 dsimp only [avc, startS, Array.toList, Tryz.f27]
 repeat' ((try conv => whnf) <;> first | refine Av.Va ?_ | exact True.intro | refine Av.Vb ?_ | exact ⟨rfl, rfl, rfl⟩ | exact ⟨rfl, rfl⟩ | (refine Av.Vc ?_ ?_ <;> intro hBr <;> first | (exfalso; omega) | (exfalso; contradiction) | (exfalso; exact hBr rfl) | skip) | refine Av.Vd ?_ | exact rfl)
 refine ⟨[4, 3, 0], [(3, some 173)], fun vs bl => (vs = [Z 0, .sl 0 0, nilA] ∧ bl = [⟨[], some 173, false, true⟩]), muI 0, ⟨rfl, rfl⟩, ?_⟩
 rintro vs bl ⟨rfl, rfl⟩
 repeat' ((try conv => whnf) <;> first | refine Av.Va ?_ | exact True.intro | refine Av.Vb ?_ | exact ⟨rfl, rfl, rfl⟩ | exact ⟨rfl, rfl⟩ | (refine Av.Vc ?_ ?_ <;> intro hBr <;> first | (exfalso; omega) | (exfalso; contradiction) | (exfalso; exact hBr rfl) | skip) | refine Av.Vd ?_ | exact rfl)
theorem ddWr {l : List Dd} {i : Nat} (h : i < l.length) : ([B l[i].sync, Z l[i].pl, T l[i].text] : List AV).length = sizeT Tryz.prog 173 ∧ ∀ j v, ([B l[i].sync, Z l[i].pl, T l[i].text] : List AV)[j]? = some v → (ddC l)[mulS (i : Int).toNat (sizeT Tryz.prog 173) + j]? = some v := by
 rw [hsRD, mulS_eq, Int.toNat_natCast]; exact ⟨rfl, ddAt h⟩
theorem samed_ok (D : List Dd) (hn : D.length ≤ 100000) : SP 26 [.vs D.length (ddC D), .vs D.length (ddC D)] (B true) := by
 refine S_ Tryz.func26 (by kernel_rfl) rfl (Nat.le_of_ble_eq_true rfl) ?_
 show avc Tryz.prog SP _ _ _ _ _ _
 dsimp only [avc, startS, Array.toList, Tryz.f26]
 repeat' ((try conv => whnf) <;> first | refine Av.Va ?_ | refine ⟨[], [0,0,3,7,0,0,48,112,255], Av.len_ok rfl (by kernel_rfl), ?_⟩ | exact True.intro | refine Av.Vb ?_ | exact ⟨rfl, rfl, rfl⟩ | exact ⟨rfl, rfl⟩ | (refine Av.Vc ?_ ?_ <;> intro hBr <;> first | (exfalso; omega) | (exfalso; contradiction) | (exfalso; exact hBr rfl) | skip) | refine Av.Vd ?_ | exact rfl)
 refine ⟨[5, 0, 1], [], fun vs bl => ∃ i : Nat, i ≤ D.length ∧ (vs = [Z i, .vs D.length (ddC D), .vs D.length (ddC D)] ∧ bl = []), muI D.length, ?_, ?_⟩
 ·exact ⟨0, by omega, rfl, rfl⟩
 rintro vs bl ⟨i, hi, rfl, rfl⟩
 by_cases hlt : i < D.length
 ·have hat := ddWr hlt
  have hdec : muI D.length [Z ((i : Int) + 1)] [] < muI D.length [Z i] [] := by show D.length - ((i : Int) + 1).toNat < D.length - (i : Int).toNat; omega
  have hb : (!((D[i].sync == D[i].sync) && (((D[i].pl : Int) == (D[i].pl : Int)) && (((bs D[i].text).toList == (bs D[i].text).toList) && true)))) = false := by simp
  generalize D[i] = d at *
  repeat' ((try conv => whnf) <;> first | refine Av.Va ?_ | (refine ⟨_, hat, ?_⟩) | (refine br_f hb ?_) | refine ⟨[], [0,0,3,7,0,0,48,112,255], Av.len_ok rfl (by kernel_rfl), ?_⟩ | exact True.intro | refine Av.Vb ?_ | exact ⟨rfl, rfl, rfl⟩ | exact ⟨rfl, rfl⟩ | (refine Av.Vc ?_ ?_ <;> intro hBr <;> first | (exfalso; omega) | (exfalso; contradiction) | (exfalso; exact hBr rfl) | skip) | refine Av.Vd ?_ | exact rfl)
  exact ⟨⟨i + 1, by omega, rfl, rfl⟩, hdec⟩
 ·obtain rfl : i = D.length := by omega
  repeat' ((try conv => whnf) <;> first | refine Av.Va ?_ | refine ⟨[], [0,0,3,7,0,0,48,112,255], Av.len_ok rfl (by kernel_rfl), ?_⟩ | exact True.intro | refine Av.Vb ?_ | exact ⟨rfl, rfl, rfl⟩ | exact ⟨rfl, rfl⟩ | (refine Av.Vc ?_ ?_ <;> intro hBr <;> first | (exfalso; omega) | (exfalso; contradiction) | (exfalso; exact hBr rfl) | skip) | refine Av.Vd ?_ | exact rfl)
theorem same18_ok (L : List Key) (hn : L.length ≤ 100000) : SP 28 [lsA L, lsA L] (B true) := by
 refine S_ Tryz.func28 (by kernel_rfl) rfl (Nat.le_of_ble_eq_true rfl) ?_
 show avc Tryz.prog SP _ _ _ _ _ _
 dsimp only [avc, startS, Array.toList, Tryz.f28]
 repeat' ((try conv => whnf) <;> first | refine Av.Va ?_ | refine ⟨[], [0,0,3,7,0,0,48,112,255], Av.len_ok rfl (by kernel_rfl), ?_⟩ | exact True.intro | refine Av.Vb ?_ | exact ⟨rfl, rfl, rfl⟩ | exact ⟨rfl, rfl⟩ | (refine Av.Vc ?_ ?_ <;> intro hBr <;> first | (exfalso; omega) | (exfalso; contradiction) | (exfalso; exact hBr rfl) | skip) | refine Av.Vd ?_ | exact rfl)
 refine ⟨[5, 0, 1], [], fun vs bl => ∃ i : Nat, i ≤ L.length ∧ (vs = [Z i, .vs L.length (L.map T), .vs L.length (L.map T)] ∧ bl = []), muI L.length, ?_, ?_⟩
 ·exact ⟨0, by omega, rfl, rfl⟩
 rintro vs bl ⟨i, hi, rfl, rfl⟩
 by_cases hlt : i < L.length
 ·have hat := secAt hlt
  have hdec : muI L.length [Z ((i : Int) + 1)] [] < muI L.length [Z i] [] := by show L.length - ((i : Int) + 1).toNat < L.length - (i : Int).toNat; omega
  have hb : (!((bs L[i]).toList == (bs L[i]).toList)) = false := by simp
  generalize L[i] = d at *
  repeat' ((try conv => whnf) <;> first | refine Av.Va ?_ | (refine ⟨_, hat, ?_⟩) | (refine br_f hb ?_) | refine ⟨[], [0,0,3,7,0,0,48,112,255], Av.len_ok rfl (by kernel_rfl), ?_⟩ | exact True.intro | refine Av.Vb ?_ | exact ⟨rfl, rfl, rfl⟩ | exact ⟨rfl, rfl⟩ | (refine Av.Vc ?_ ?_ <;> intro hBr <;> first | (exfalso; omega) | (exfalso; contradiction) | (exfalso; exact hBr rfl) | skip) | refine Av.Vd ?_ | exact rfl)
  exact ⟨⟨i + 1, by omega, rfl, rfl⟩, hdec⟩
 ·obtain rfl : i = L.length := by omega
  repeat' ((try conv => whnf) <;> first | refine Av.Va ?_ | refine ⟨[], [0,0,3,7,0,0,48,112,255], Av.len_ok rfl (by kernel_rfl), ?_⟩ | exact True.intro | refine Av.Vb ?_ | exact ⟨rfl, rfl, rfl⟩ | exact ⟨rfl, rfl⟩ | (refine Av.Vc ?_ ?_ <;> intro hBr <;> first | (exfalso; omega) | (exfalso; contradiction) | (exfalso; exact hBr rfl) | skip) | refine Av.Vd ?_ | exact rfl)
theorem sectors18_ok (q : Pd) (hq : q.isSh = false) (L : List Key) (P : List Wr) (w : Int) (hL : L.length ≤ 2000) : SM 24 [.ptr 0 0] (dsk q L P w) [.ptr 0 0] (.sl 1 L.length) (dskR q L P w ⟨L.map T, some 9, false, true⟩) := by
 have c := dsize_ok q L P w
 have hr := fun i (h : i < L.length) => dread_yes q L P w (i := i) h
 have hst : ∀ i (h : i < L.length), (L.take i).map T ++ [T L[i]] = (L.take (i + 1)).map T := fun i h => by
  rw [List.take_add_one, List.getElem?_eq_getElem h, List.map_append]; rfl
 have hfin : (L.take L.length).map T = L.map T := by rw [List.take_length]
 obtain ⟨SB, hSB⟩ : ∃ SB : List AV → List ABlk, SB = fun C => dskS q L P w ⟨C, some 9, false, true⟩ := ⟨_, rfl⟩
 cases q with
 | sh => exact absurd (show Pd.isSh .sh = false from hq) (by decide)
 | _ =>
  refine SM_ Tryz.func24 (by kernel_rfl) rfl (Nat.le_of_ble_eq_true rfl) (Nat.le_refl 1) ?_
  show avc Tryz.prog SP _ _ _ _ _ _
  dsimp only [avc, startS, Array.toList, Tryz.f24]
  repeat' ((try conv => whnf) <;> first | refine Av.Va ?_ | exact True.intro | refine Av.Vb ?_ | exact ⟨rfl, rfl, rfl⟩ | exact ⟨rfl, rfl⟩ | (refine Av.Vc ?_ ?_ <;> intro hBr <;> first | (exfalso; omega) | (exfalso; contradiction) | (exfalso; exact hBr rfl) | skip) | refine Av.Vd ?_ | exact rfl)
  refine ⟨[4, 3, 0], [(3, some 9)], fun vs bl => ∃ (i : Nat) (K : List AV), i ≤ L.length ∧ K = (L.take i).map T ∧ (vs = [Z i, .sl 0 i, .ptr 1 0] ∧ bl = SB K), muI L.length, ?_, ?_⟩
  ·exact ⟨0, [], by omega, rfl, rfl, by rw [hSB]; rfl⟩
  rintro vs bl ⟨i, K, hi, hK, rfl, rfl⟩
  subst hSB
  have hKl : K.length = i * sizeT Tryz.prog 9 := by rw [hK, hsS, List.length_map, List.length_take]; omega
  by_cases hlt : i < L.length
  ·have hr := hr i hlt
   have hst := hst i hlt
   rw [← hK] at hst
   have hdec : muI L.length [Z ((i : Int) + 1)] [] < muI L.length [Z i] [] := by show L.length - ((i : Int) + 1).toNat < L.length - (i : Int).toNat; omega
   generalize L[i] = s at *
   have ap : room (i + 1) (bytesT Tryz.prog 9) ∧ K.length = i * sizeT Tryz.prog 9 ∧ ([T s] : List AV).length = 1 * sizeT Tryz.prog 9 ∧ ∀ u ∈ ([T s] : List AV), one1 u = true := ⟨room_s (by omega), hKl, by rw [hsS]; rfl, one_S _⟩
   clear hfin hK
   repeat' ((try conv => whnf) <;> first | refine Av.Va ?_ | refine ⟨_, _, _, c, ?_⟩ | refine ⟨_, _, _, hr, ?_⟩ | (refine ⟨true, ?_⟩) | (refine And.intro ap ?_) | exact True.intro | refine Av.Vb ?_ | exact ⟨rfl, rfl, rfl⟩ | exact ⟨rfl, rfl⟩ | (refine Av.Vc ?_ ?_ <;> intro hBr <;> first | (exfalso; omega) | (exfalso; contradiction) | (exfalso; exact hBr rfl) | skip) | refine Av.Vd ?_ | exact rfl)
   exact ⟨⟨i + 1, _, by omega, hst, rfl, rfl⟩, hdec⟩
  ·obtain rfl : i = L.length := by omega
   rw [hfin] at hK
   rw [← hK]
   clear hst hfin hK hr
   repeat' ((try conv => whnf) <;> first | refine Av.Va ?_ | refine ⟨_, _, _, c, ?_⟩ | exact True.intro | refine Av.Vb ?_ | exact ⟨rfl, rfl, rfl⟩ | exact ⟨rfl, rfl⟩ | (refine Av.Vc ?_ ?_ <;> intro hBr <;> first | (exfalso; omega) | (exfalso; contradiction) | (exfalso; exact hBr rfl) | skip) | refine Av.Vd ?_ | exact rfl)
theorem like18_ok {A L : Nat} {t : Tr} (hf : Fit A t) (hA : A ≤ 83) (hL : L ≤ 1000) (g a z u pl : Nat) (hg : 1 ≤ g) (hpl : pl ≤ 1000) (nx : Option Tr) (a' : Int) (l : List Pr) (hl : t.toL = l) :
  SM 33 [.ptr 0 0, stA A L l g a' pl, .vs l.length (prC l)] [stB A L t g a z u pl nx] [.ptr 0 0] (B true) [stB A L t g a z u pl nx] := by
 subst hl
 have c1 := stree_ok A L t g a z u pl nx hg
 have c2 := sgen_ok A L t g a z u pl nx hg
 have c3 := sleft_ok A L t g a z u pl nx hg hL hpl
 have hb := hf.fit
 unfold npc at hb
 rw [Shf.encB_len] at hb
 have hlen := bytesL_ge t.toL
 have c4 := like_ok t.toL hf.good (by omega) (fun x hx => by have := key_le hx; omega) (by omega) (by omega)
 rw [decide_eq_true rfl] at c4
 clear hf hb hlen
 have e : (((L : Int) - (pl : Int)) == ((L : Int) - (pl : Int))) = true := beq_self_eq_true _
 cases nx
 all_goals
  refine SM_ Tryz.func33 (by kernel_rfl) rfl (Nat.le_of_ble_eq_true rfl) (show 1 ≤ 3 by omega) ?_
  show avc Tryz.prog SP _ _ _ _ _ _
  dsimp only [avc, startS, Array.toList, Tryz.f33]
  repeat' ((try conv => whnf) <;> first | refine Av.Va ?_ | refine ⟨_, _, _, c1, ?_⟩ | refine ⟨_, c4, ?_⟩ | refine ⟨_, _, _, c2, ?_⟩ | refine ⟨_, _, _, c3, ?_⟩ | (exact And.intro rfl (And.intro (congrArg (fun b => AV.ex (Value.bool b)) e) rfl)) | refine ⟨[], [0,1,0,7,15,31,63,31,159,511,1023,2047,4095,8191,4095,20479,53247,4095,135167,511999,1048575,2097151,4194303], Av.len_ok rfl (by kernel_rfl), ?_⟩ | exact True.intro | refine Av.Vb ?_ | exact ⟨rfl, rfl, rfl⟩ | exact ⟨rfl, rfl⟩ | (refine Av.Vc ?_ ?_ <;> intro hBr <;> first | (exfalso; omega) | (exfalso; contradiction) | (exfalso; exact hBr rfl) | skip) | refine Av.Vd ?_ | exact rfl)
theorem sfits_nil (A L : Nat) (t : Tr) (g a z u pl : Nat) (nx : Option Tr) (hg : 1 ≤ g) :
  SM 45 [.ptr 0 0, nilA] [stB A L t g a z u pl nx] [.ptr 0 0] (Z 2) [stB A L t g a z u pl nx] := by
 have c := sok_ok A L t g a z u pl nx hg
 cases nx
 all_goals
  refine SM_ Tryz.func45 (by kernel_rfl) rfl (Nat.le_of_ble_eq_true rfl) (Nat.le_succ 1) ?_
  show avc Tryz.prog SP _ _ _ _ _ _
  dsimp only [avc, startS, Array.toList, Tryz.f45]
  repeat' ((try conv => whnf) <;> first | refine Av.Va ?_ | refine ⟨_, _, _, c, ?_⟩ | refine ⟨[], [0,1,3,7,0,16,48,112,0,496,1023,2047], Av.len_ok rfl (by kernel_rfl), ?_⟩ | exact True.intro | refine Av.Vb ?_ | exact ⟨rfl, rfl, rfl⟩ | exact ⟨rfl, rfl⟩ | (refine Av.Vc ?_ ?_ <;> intro hBr <;> first | (exfalso; omega) | (exfalso; contradiction) | (exfalso; exact hBr rfl) | skip) | refine Av.Vd ?_ | exact rfl)
def sg3 : Nat → Nat
 | 0 => 0
 | 1 => 1
 | _ => 3
theorem do_sl {L : List Key} {w : Int} {b : ABlk} (hpu : b.pu = true) {n : Nat} {cs : List AV} (el : TypeId) (fz : Bool) {rargs : List AV} {r : AV} {bs' : List ABlk}
  (h : SM 35 [.ptr 0 0, .ptr 1 0, .vs n cs] (dskS .nil L [] w b) rargs r bs') :
  SM 35 [.ptr 0 0, .ptr 1 0, .sl 2 n] [b, headN 3 L.length nilA w, ⟨cs, some el, fz, true⟩, secB L] rargs r bs' := by
 refine smSl (pre := [.ptr 0 0, .ptr 1 0]) (pre2 := [.ptr 0 0, .ptr 1 0]) (k := 2) sg3 rfl (fun i hi => ?_) (fun i j hi hj => ?_) (fun i hi => ?_) rfl (fun j hj _ => ?_) h
 ·match i, hi with
  | 0, _ => exact ⟨show (0 : Nat) < 4 by decide, by decide⟩
  | 1, _ => exact ⟨show (1 : Nat) < 4 by decide, by decide⟩
  | 2, _ => exact ⟨show (3 : Nat) < 4 by decide, by decide⟩
 ·match i, j, hi, hj with
  | 0, 0, _, _ => exact fun _ => rfl
  | 0, 1, _, _ => exact fun h => absurd h (by decide)
  | 0, 2, _, _ => exact fun h => absurd h (by decide)
  | 1, 0, _, _ => exact fun h => absurd h (by decide)
  | 1, 1, _, _ => exact fun _ => rfl
  | 1, 2, _, _ => exact fun h => absurd h (by decide)
  | 2, 0, _, _ => exact fun h => absurd h (by decide)
  | 2, 1, _, _ => exact fun h => absurd h (by decide)
  | 2, 2, _, _ => exact fun _ => rfl
 ·match i, hi with
  | 0, _ => exact ⟨_, rfl, RenB.same hpu⟩
  | 1, _ =>
   refine ⟨_, rfl, rfl, rfl, rfl, rfl, rfl, .inr ⟨rfl, fun j hj h2 => ?_⟩⟩
   match j, hj with
   | 0, _ => exact Ren.ex _ _ _ _
   | 1, _ => exact Ren.sl (σ := sg3) (r := 2) (show 2 < 3 by decide)
   | 2, _ => exact Ren.ex _ _ _ _
   | 3, _ => exact Ren.ex _ _ _ _
  | 2, _ => exact ⟨_, rfl, RenB.same rfl⟩
 ·match j, hj with
  | 0, _ => exact Ren.ptr (σ := sg3) (r := 0) (show 0 < 3 by decide)
  | 1, _ => exact Ren.ptr (σ := sg3) (r := 1) (show 1 < 3 by decide)
abbrev os1 : List OpP := [(1, [97], [98])]
theorem begin_ok {A Lg : Nat} (h : OkSh A Lg) : ∃ L1 L2 C R z u, RunI A Lg L2 2 1 [] [] [] 0 ∧ Fit A R ∧ R.toL = [] ∧
  SM 41 [shA A Lg] [] [] (.tup [.ptr 0 0, Z 0]) (dsk .nil L1 [] 2) ∧
  SM 20 [.ptr 0 0, shA A Lg] (dsk .nil L1 [] 2) [.ptr 0 0] (.tup [.ptr 1 0, .sl 2 4, Z 0]) (dskX .nil L1 [] 2 (stB A Lg R 2 1 z u 0 none) ⟨C, some 174, false, true⟩) ∧
  SM 58 [.ptr 0 0, .sl 1 4] (dskR .nil L1 [] 2 ⟨C, some 174, false, true⟩) [.ptr 0 0] (Z 0) (dsk .nil L2 [] 4) := by
 have hs := h.lg
 obtain ⟨f1, f2, f3⟩ := fmt_run h
 have c1 := format_ok h _ _ f1 f2
 have hl := f3.dev.len
 obtain ⟨_, _, hfl, R, hR, hRl, c2, _⟩ := recS_ok (q := .nil) (P := []) (w := 2) h hl rfl f3.sv.recd
 obtain ⟨L2, q1, q2, q3, q4, q5⟩ := anew_all f3.sv (by omega) (w := 2) (q := .nil) (P := [])
 have hrun := run_fresh f3 q3 q4 (logL_eq q5)
 have hD := anew_ok f3.sv (by omega)
 have hDl := anewD_len A [] 1 0
 have hn0 : npc (Shf.encB []) = 1 := npc0
 have c3 := perform_ok ⟨.nil, fmtL A Lg, [], 2⟩ (anewD A [] 1 0) false 0 ⟨rfl, rfl, Nat.le_refl _, (by show (0 : Int) ≤ 2; omega)⟩ hD (by rw [hDl, hn0]; omega) (by rw [hDl, hn0]; show (2 : Int) + _ ≤ _; omega)
 rw [q1] at c3
 rw [hn0] at c3 c2
 rw [hDl, hn0] at c3
 have hw : (2 : Int) + ((1 : Nat) : Int) + 1 = 4 := rfl
 rw [hw] at c3
 exact ⟨_, L2, _, R, (Shf.encB []).length, sumN (Shf.encB []), hrun, hR, hRl, c1, c2, c3⟩
theorem awake18_walk (L1 L2 L3 : List Key) (C C3 : List AV) (R R2 R3 : Tr) (z u z3 u3 : Nat) (w3 : Int) (n3 : Nat)
  (c1 : SM 41 [shA 4 32] [] [] (.tup [.ptr 0 0, Z 0]) (dsk .nil L1 [] 2))
  (c2 : SM 20 [.ptr 0 0, shA 4 32] (dsk .nil L1 [] 2) [.ptr 0 0] (.tup [.ptr 1 0, .sl 2 4, Z 0]) (dskX .nil L1 [] 2 (stB 4 32 R 2 1 z u 0 none) ⟨C, some 174, false, true⟩))
  (c3 : SM 58 [.ptr 0 0, .sl 1 4] (dskR .nil L1 [] 2 ⟨C, some 174, false, true⟩) [.ptr 0 0] (Z 0) (dsk .nil L2 [] 4))
  (c4 : SM 35 [.ptr 0 0, .ptr 1 0, .vs 1 (opC os1)] (dskS .nil L2 [] 4 (stB 4 32 R 2 1 z u 0 none)) [.ptr 0 0, .ptr 1 0] (Z 0) (dskS .nil L3 [] w3 (stB 4 32 R2 2 1 z u 1 none)))
  (c5 : SM 20 [.ptr 0 0, shA 4 32] (dsk .nil L3 [] w3) [.ptr 0 0] (.tup [.ptr 1 0, .sl 2 n3, Z 0]) (dskX .nil L3 [] w3 (stB 4 32 R3 3 0 z3 u3 0 none) ⟨C3, some 174, false, true⟩))
  (g1 : SP 89 [trA R2, T [97]] (.tup [T [98], B true])) (g2 : SP 89 [trA R3, T [97]] (.tup [T [98], B true]))
  (s1 : SP 31 [shI 4 32] (Z 42)) (r1 : SP 29 [shI 4 31] (B false)) : SP 21 [] (B true) := by
 have c4 := do_sl rfl 82 true c4
 have t1 := stree_ok 4 32 R2 2 1 z u 1 none (by omega)
 have t2 := stree_ok 4 32 R3 3 0 z3 u3 0 none (by omega)
 have f1 := sfits_nil 4 32 R2 2 1 z u 1 none (by omega)
 have a1 := sapply_no 4 32 R2 2 1 z u 1 (by omega)
 have e1 := sgen_ok 4 32 R2 2 1 z u 1 none (by omega)
 have e2 := sgen_ok 4 32 R3 3 0 z3 u3 0 none (by omega)
 have l1 : SM 52 [.ptr 0 0] [stB 4 32 R2 2 1 z u 1 none] [.ptr 0 0] (Z 31) [stB 4 32 R2 2 1 z u 1 none] := sleft_ok 4 32 R2 2 1 z u 1 none (by omega) (by omega) (by omega)
 refine S_ Tryz.func21 (by kernel_rfl) rfl (Nat.le_of_ble_eq_true rfl) ?_
 show avc Tryz.prog SP _ _ _ _ _ _
 dsimp only [avc, startS, Array.toList, Tryz.f21]
 repeat' ((try conv => whnf) <;> first | refine Av.Va ?_ | refine ⟨_, _, _, c1, ?_⟩ | refine ⟨_, _, _, c2, ?_⟩ | refine ⟨_, _, _, c3, ?_⟩ | refine ⟨_, _, _, c4, ?_⟩ | refine ⟨_, _, _, c5, ?_⟩ | refine ⟨_, _, _, t1, ?_⟩ | refine ⟨_, _, _, t2, ?_⟩ | refine ⟨_, _, _, f1, ?_⟩ | refine ⟨_, _, _, a1, ?_⟩ | refine ⟨_, _, _, e1, ?_⟩ | refine ⟨_, _, _, e2, ?_⟩ | refine ⟨_, _, _, l1, ?_⟩ | refine ⟨_, g1, ?_⟩ | refine ⟨_, g2, ?_⟩ | refine ⟨_, s1, ?_⟩ | refine ⟨_, r1, ?_⟩ | (refine ⟨true, ?_⟩) | exact True.intro | refine Av.Vb ?_ | exact ⟨rfl, rfl, rfl⟩ | exact ⟨rfl, rfl⟩ | (refine Av.Vc ?_ ?_ <;> intro hBr <;> first | (exfalso; omega) | (exfalso; contradiction) | (exfalso; exact hBr rfl) | skip) | refine Av.Vd ?_ | exact rfl)
theorem os1_fit : fitsE 4 [] os1 = 0 ∧ szT (encOps os1).1.length = 1 := by
 have h2 : encOps os1 = (Crc.sealed (bodyB os1), 0) := by
  unfold encOps
  rw [show checkL os1 = 0 from rfl, if_neg (by decide), if_neg (by decide)]
 have hl : (encOps os1).1.length = 12 := by
  obtain ⟨d1, d2, d3, _⟩ := dec_enc (l := os1) (by rw [h2])
  rw [d2]; rfl
 constructor
 ·unfold fitsE
  rw [if_neg (by decide), if_neg (by rw [h2]; decide), if_pos]
  unfold npc
  rw [Shf.encB_len]
  decide +kernel
 ·rw [hl]; rfl
theorem awake18_ok : SP 21 [] (B true) := by
 have h : OkSh ((4 : Nat) : Int) ((32 : Nat) : Int) := by unfold OkSh; omega
 obtain ⟨L1, L2, C, R, z, u, hrun, hR, hRl, c1, c2, c3⟩ := begin_ok h
 obtain ⟨he, hk⟩ := os1_fit
 have ho : FewO os1 := ⟨by decide, by decide⟩
 have p := planned_room hrun he (by rw [hk]; decide)
 have he' : fitsE 4 R.toL os1 = 0 := by rw [hRl]; exact he
 have cp := splan_room hR 2 1 z u 0 (L := 32) ⟨by omega, by omega⟩ os1 ho he' (by omega) (by omega) (by rw [hk]; decide)
 obtain ⟨L3, l3, xs3, w3, q1, q2, q3⟩ := p.run 4
 have hta := (hR.apply os1).2
 have hga := (hR.apply os1).1
 rw [hRl] at hta
 have hp3 : applyL os1 [] = [([97], [98])] := rfl
 have hww := Dk.run_w (lgD 4 2 0 (encOps os1).1 (szT (encOps os1).1.length) ++ syD) ⟨.nil, L2, [], 4⟩
 have hlen : (lgD 4 2 0 (encOps os1).1 (szT (encOps os1).1.length) ++ syD).length = 2 := by rw [List.length_append, lgD_len, hk]; rfl
 have c4 := do_yes 4 32 R 2 1 z u 0 L2 4 os1 2 1 z u _ _ _ _ (by rw [List.length_append, lgD_len]; rfl) (by omega) cp L3 w3 q1 p.ok (by omega) (by omega) (by omega)
 have hsv := q3.sv
 have hl3 := q3.dev.len
 obtain ⟨_, _, hfl, R3, hR3, hRl3, c5, _⟩ := recS_ok (q := .nil) (P := []) (w := w3) h hl3 rfl hsv.recd
 rw [hk] at c4
 have g1 := get_ok (Tr.apply os1 R) [97] (some [98]) (by rw [Tr.get_toL hga.srt, hta]; rfl)
 have g2 := get_ok R3 [97] (some [98]) (by rw [Tr.get_toL hR3.good.srt, hRl3]; rfl)
 exact awake18_walk L1 L2 L3 C _ R _ R3 z u _ _ w3 _ c1 c2 c3 c4 c5 g1 g2 (by have := ssectors_ok 4 32; rwa [show sectN 4 32 = 42 by decide] at this) (by have := right_ok 4 31; rwa [show decide (OkSh 4 31) = false by decide] at this)
end Go.Proofs.YtbaedepmogkkeaaGreat.Av
