/- cache: the law CacheTrue, walked. No conditions but those on lengths. -/
import Derived.Test.YtdicpbecdhaphaaCTrueP
import Derived.Test.YtdicpbecdhaphaaCach3
import Derived.Test.YtdicpbecdhaphaaTree7
namespace Go.Proofs.Ytdicpbecdhaphaa.Av.LruK
open Go Go.RowKit Pre
set_option linter.unusedVariables false
set_option linter.unusedSimpArgs false
set_option maxRecDepth 100000
set_option maxHeartbeats 8000000
open Tre (Tr)
abbrev zT2 : AV := .ex (.agg #[.pointer none])
theorem zrep2 {w : World} {F : Nat → Nat → Prop} {D : Nat → Prop} {x : Value} (h : Rep w p0 c0 F D zT2 x) : Rep w p0 c0 F D (trA .nil) x := by
  have := h.ex_inv
  subst this
  refine .agg _ _ _ rfl fun j hj => ?_
  match j, hj with
  | 0, _ => exact .pt0 _ _
theorem zw2 {f : FuncId} {l : List AV} {r : AV} (h : SP f (trA .nil :: l) r) : SP f (zT2 :: l) r := by
  refine Sound.weak h (by simp) fun w F j h1 h2 x hx => ?_
  cases j with
  | zero => exact zrep2 hx
  | succ j => exact hx
/-- how a tree lies in its variable, and as a value: made, or the zero tree -/
inductive TA : Tr → AV → AV → Prop where
  | row (t : Tr) : TA t (ndA t) (trA t)
  | zero : TA .nil (.ex (.pointer none)) zT2
theorem TA.c {t : Tr} {N A : AV} (hA : TA t N A) {f : FuncId} {l : List AV} {r : AV} (h : SP f (trA t :: l) r) : SP f (A :: l) r := by
  cases hA with
  | row => exact h
  | zero => exact zw2 h
abbrev chB2 (h ms : Int) : ABlk := ⟨[Z h, Z ms, .ptr 2 0], none, false, false⟩
/-- the tree after some ops stays small -/
structure TOk (i : Nat) (t : Tr) : Prop where
  good : Tr.Good t
  cn : t.cn ≤ i
  wt : t.wt ≤ 124 * i
theorem TOk.step {i : Nat} {t : Tr} (h : TOk i t) (k v : List UInt8) (hk : k.length ≤ 60) (hv : v.length ≤ 60) : TOk (i + 1) (Tr.put k v t) ∧ TOk (i + 1) (Tr.del k t) ∧ TOk (i + 1) (Tr.drop k t) ∧ TOk (i + 1) t := by
  have hc := h.cn
  have hw := h.wt
  have s1 := step_sizes h.good (1, k, v)
  have s2 := step_sizes h.good (2, k, v)
  have s3 := step_sizes h.good (3, k, v)
  have e1 : t.step (1, k, v) = Tr.put k v t := rfl
  have e2 : t.step (2, k, v) = Tr.del k t := rfl
  have e3 : t.step (3, k, v) = Tr.drop k t := rfl
  rw [e1] at s1
  rw [e2] at s2
  rw [e3] at s3
  simp only at s1 s2 s3
  exact ⟨⟨(h.good.put k v).1, by omega, by omega⟩, ⟨(h.good.del k).1, by omega, by omega⟩, ⟨(h.good.drop k).1, by omega, by omega⟩, ⟨h.good, by omega, by omega⟩⟩
abbrev gT (t : Tr) : List UInt8 → Option (List UInt8) := fun k => Tr.get k t
def TInv (m : Nat) (l : List OpK) (vs : List AV) (bl : List ABlk) : Prop :=
  ∃ (i : Nat) (xs : Xs) (t : Tr) (N A : AV) (h ms : Int), TA t N A ∧ i ≤ l.length ∧ NdX xs ∧ KB xs ∧ xs.length ≤ m ∧ (0 ≤ h ∧ h ≤ 2 * i) ∧ (0 ≤ ms ∧ ms ≤ 2 * i) ∧ TOk i t ∧ Coh (gT t) xs ∧ (vs = [Z i, .ptr 0 0, .ptr 1 0, Z m, opA l] ∧ bl = [chB2 h ms, ⟨[N], none, false, true⟩, Lr m xs])
theorem true_ok (a : Nat) (ha : a < 256) (l : List OpK) (hl : l.length ≤ 9223372036854775807) : SP 10 [.ex (.int .u8 a), opA l] (B true) := by
  have aw := awake_ok
  by_cases hO : OkL l
  · have co := over_ok l false ⟨fun _ => hO, fun _ => rfl⟩ hl
    obtain ⟨m, hm⟩ : ∃ m : Nat, (a : Int) % 21 = (m : Int) := ⟨a % 21, by omega⟩
    have hm2 : m ≤ 20 := by omega
    have cn := cnew_yes m (by omega)
    refine S_ Try.func10 (by kernel_rfl) rfl (Nat.le_of_ble_eq_true rfl) ?_
    show avc Try.prog SP _ _ _ _ _ _
    dsimp only [avc, startS, Array.toList, Try.f10]
    refine Av.Wk ?_
    rw [hm]
    refine Av.Wk ?_
    refine ⟨[9, 6, 8, 5, 1], [], TInv m l, muI l.length, ?_, ?_⟩
    · exact ⟨0, [], .nil, _, _, 0, 0, .zero, Nat.zero_le _, by simp [NdX], fun _ h => by (cases h), Nat.zero_le _, ⟨by omega, by omega⟩, ⟨by omega, by omega⟩, ⟨Tr.good_nil, by decide, by decide⟩, coh_nil _, rfl, rfl⟩
    rintro vs bl ⟨i, xs, t, N, A, h, ms, hA, hi, hd, hk, hlen, hh0, hm0, hT, hC, rfl, rfl⟩
    by_cases hlt : i < l.length
    · have h0 := opW hlt
      have hkey := hO.2 _ (List.getElem_mem hlt)
      have hl60 := hO.1
      have hdec : muI l.length [Z ((i : Int) + 1)] [] < muI l.length [Z i] [] := by show l.length - ((i : Int) + 1).toNat < l.length - (i : Int).toNat; omega
      have fin : ∀ (ys : Xs) (s : Tr) (N A : AV) (h ms : Int), TA s N A → NdX ys → KB ys → ys.length ≤ m → (0 ≤ h ∧ h ≤ 2 * i + 2) → (0 ≤ ms ∧ ms ≤ 2 * i + 2) → TOk (i + 1) s → Coh (gT s) ys → TInv m l [Z ((i : Int) + 1), .ptr 0 0, .ptr 1 0, Z m, opA l] [chB2 h ms, ⟨[N], none, false, true⟩, Lr m ys] := fun ys s N A h ms q0 q1 q2 q3 q4 q5 q6 q7 => ⟨i + 1, ys, s, N, A, h, ms, q0, by omega, q1, q2, q3, by omega, by omega, q6, q7, rfl, rfl⟩
      clear hO co cn
      generalize l[i] = o at h0 hkey
      obtain ⟨kd, k, v⟩ := o
      have hkey : k.length ≤ 60 ∧ v.length ≤ 60 := hkey
      replace h0 : ([.ex (.int .u8 (kd : Int)), T k, T v] : List AV).length = sizeT Try.prog 85 ∧ ∀ j w, ([.ex (.int .u8 (kd : Int)), T k, T v] : List AV)[j]? = some w → (opL l)[mulS (i : Int).toNat (sizeT Try.prog 85) + j]? = some w := h0
      obtain ⟨t1, t2, t3, t4⟩ := hT.step k v hkey.1 hkey.2
      have hwl := len_wo xs k
      have hdl := len_drop xs k
      have hTc := hT.cn
      have hTw := hT.wt
      by_cases r34 : (kd : Int).tmod 10 = 3 ∨ (kd : Int).tmod 10 = 4
      · have c1 := hA.c (tput_ok (t := t) (k := k) (v := v) ⟨by omega, by omega⟩)
        have c2 := cforget_c m xs h ms k
        have c3 := clen_c m (wo xs k) h ms
        have f1 := fin (wo xs k) _ _ _ h ms (.row _) (nd_wo hd) (kb_wo hk) (by omega) (by omega) (by omega) t1 (coh_wo hC fun k' h' => tget_put hT.good k v k' h')
        clear fin hd hk hC hT t1 t2 t3 t4
        generalize Tr.put k v t = t' at *
        generalize wo xs k = Y at *
        cases hA
        all_goals
          exact Av.W
      by_cases r6 : (kd : Int).tmod 10 = 6
      · have c1 := hA.c (tdel_ok (t := t) (k := k) ⟨by omega, by omega⟩ hT.good.srt)
        have c2 := cforget_c m xs h ms k
        have c3 := clen_c m (wo xs k) h ms
        have f1 := fin (wo xs k) _ _ _ h ms (.row _) (nd_wo hd) (kb_wo hk) (by omega) (by omega) (by omega) t2 (coh_wo hC fun k' h' => tget_del hT.good k k' h')
        clear fin hd hk hC hT t1 t2 t3 t4
        generalize Tr.del k t = t' at *
        generalize wo xs k = Y at *
        cases hA
        all_goals
          exact Av.W
      by_cases r7 : (kd : Int).tmod 10 = 7
      · have c1 := hA.c (tapply_ok (t := t) (os := [(3, k, [])]) hT.good ⟨by show t.cn + 1 ≤ _; omega, fun o ho => by rw [List.mem_singleton] at ho; subst ho; exact ⟨by show k.length ≤ _; omega, Nat.zero_le _⟩, by show t.wt + 1 * 2000004 ≤ _; omega⟩ (Tr.drop k t) rfl)
        have c2 := cunder_c m xs h ms k (by omega) hd hk (by omega)
        have c3 := clen_c m (dropX xs k) h ms
        have f1 := fin (dropX xs k) _ _ _ h ms (.row _) (nd_drop hd) (kb_drop hk) (by omega) (by omega) (by omega) t3 (coh_drop hC fun k' h' => tget_drop hT.good k k' h')
        clear fin hd hk hC hT t1 t2 t3 t4
        generalize Tr.drop k t = t' at *
        generalize dropX xs k = Y at *
        cases hA
        all_goals
          exact Av.W
      by_cases r8 : (kd : Int).tmod 10 = 8
      · have c2 := cpurge_c m xs h ms
        have c3 := clen_c m [] h ms
        have f1 := fin [] t N A h ms hA (by simp [NdX]) (fun _ h => by (cases h)) (Nat.zero_le _) (by omega) (by omega) t4 (coh_nil _)
        clear fin hd hk hC hT t1 t2 t3 t4
        cases hA
        all_goals
          exact Av.W
      by_cases r9 : (kd : Int).tmod 10 = 9
      · have c2 := cfork_c m xs h ms hlen
        have c3 := clen_c m xs h ms
        have f1 := fin xs t N A h ms hA hd hk hlen (by omega) (by omega) t4 hC
        clear fin hd hk hC hT t1 t2 t3 t4
        cases hA
        all_goals
          exact Av.W
      -- read through the cache
      obtain ⟨g, hg⟩ : ∃ g, Tr.get k t = g := ⟨_, rfl⟩
      have cg := hA.c (get_ok t k g hg)
      have hs0 : (!((bs []).toList == (bs []).toList)) = false := by simp
      -- the first look
      obtain ⟨ys, h', ms', b, cl, hyd, hyk, hyl, hyC, hh', hm'⟩ : ∃ (ys : Xs) (h' ms' : Int) (b : Bool), SM 51 [.ptr 0 0, T k] (Ch m xs h ms) [.ptr 0 0] (.tup [T (if b then (encG g).1 else []), B (if b then (encG g).2 else false), B b]) (Ch m ys h' ms') ∧ NdX ys ∧ KB ys ∧ ys.length ≤ m ∧ Coh (gT t) ys ∧ (0 ≤ h' ∧ h' ≤ 2 * i + 1) ∧ (0 ≤ ms' ∧ ms' ≤ 2 * i + 1) := by
        cases hb : has xs k with
        | true =>
          refine ⟨getX xs k, h + 1, ms, true, ?_, nd_get hd, kb_get (by omega) hk, by rw [len_get hd]; exact hlen, coh_get hd hC, by omega, by omega⟩
          have := clook_yes m xs h ms k hb (by omega) (by omega)
          rw [coh_val hd hC hb, show gT t k = g from hg] at this
          exact this
        | false => exact ⟨xs, h, ms + 1, false, clook_no m xs h ms k hb (by omega) (by omega), hd, hk, hlen, hC, by omega, by omega⟩
      -- what is noted, and the second look
      have hph := put_has (k := k) (v := encG g) hyd hyl
      have hpl := len_put (k := k) (v := encG g) hyl
      have hpd := nd_put (most := m) (k := k) (v := encG g) hyd
      have hpk := kb_put (most := m) (v := encG g) (show k.length ≤ 1000 by omega) hyk
      have hpC : Coh (gT t) (putX m ys k (encG g)) := by
        have := coh_put (m := m) (k := k) hyC
        rw [show gT t k = g from hg] at this
        exact this
      obtain ⟨zs, h2, ms2, cl2, hzd, hzk, hzl, hzC, hh2, hm2'⟩ : ∃ (zs : Xs) (h2 ms2 : Int), SM 51 [.ptr 0 0, T k] (Ch m (putX m ys k (encG g)) h' ms') [.ptr 0 0] (.tup [T (if decide (0 < m) = true then (encG g).1 else []), B (if decide (0 < m) = true then (encG g).2 else false), B (decide (0 < m))]) (Ch m zs h2 ms2) ∧ NdX zs ∧ KB zs ∧ zs.length ≤ m ∧ Coh (gT t) zs ∧ (0 ≤ h2 ∧ h2 ≤ 2 * i + 2) ∧ (0 ≤ ms2 ∧ ms2 ≤ 2 * i + 2) := by
        by_cases h0m : 0 < m
        · refine ⟨getX (putX m ys k (encG g)) k, h' + 1, ms', ?_, nd_get hpd, kb_get (by omega) hpk, by rw [len_get hpd]; exact hpl, coh_get hpd hpC, by omega, by omega⟩
          rw [decide_eq_true h0m] at hph ⊢
          have := clook_yes m (putX m ys k (encG g)) h' ms' k hph.1 (by omega) (by omega)
          rw [hph.2 h0m] at this
          exact this
        · refine ⟨putX m ys k (encG g), h', ms' + 1, ?_, hpd, hpk, hpl, hpC, by omega, by omega⟩
          rw [decide_eq_false h0m] at hph ⊢
          exact clook_no m _ h' ms' k hph.1 (by omega) (by omega)
      have cln := clen_c m zs h2 ms2
      have f1 := fin zs t N A h2 ms2 hA hzd hzk hzl (by omega) (by omega) t4 hzC
      have hmi : (0 < m) ↔ (0 : Int) < (m : Int) := by omega
      cases g with
      | some w =>
        have cnn := cnote_c m ys h' ms' k w hyl
        rw [show ((w, true) : VT) = encG (some w) from rfl] at cnn
        have hsw : (!((bs w).toList == (bs w).toList)) = false := by simp
        clear fin hd hk hC hT t1 t2 t3 t4 hph hpl hpd hpk hpC hzd hzk hzC hyd hyk hyC hg
        generalize putX m ys k (encG (some w)) = Y at *
        by_cases h0m : 0 < m
        · rw [decide_eq_true h0m] at cl2
          have ht : (true != decide ((m : Int) > 0)) = false := by rw [decide_eq_true (by omega)]; rfl
          cases b
          all_goals
            cases hA
            all_goals
              exact Av.W
        · rw [decide_eq_false h0m] at cl2
          have ht : (false != decide ((m : Int) > 0)) = false := by rw [decide_eq_false (by omega)]; rfl
          cases b
          all_goals
            cases hA
            all_goals
              exact Av.W
      | none =>
        have cnn := cmiss_c m ys h' ms' k hyl
        rw [show (([], false) : VT) = encG none from rfl] at cnn
        clear fin hd hk hC hT t1 t2 t3 t4 hph hpl hpd hpk hpC hzd hzk hzC hyd hyk hyC hg
        generalize putX m ys k (encG none) = Y at *
        by_cases h0m : 0 < m
        · rw [decide_eq_true h0m] at cl2
          have ht : (true != decide ((m : Int) > 0)) = false := by rw [decide_eq_true (by omega)]; rfl
          cases b
          all_goals
            cases hA
            all_goals
              exact Av.W
        · rw [decide_eq_false h0m] at cl2
          have ht : (false != decide ((m : Int) > 0)) = false := by rw [decide_eq_false (by omega)]; rfl
          cases b
          all_goals
            cases hA
            all_goals
              exact Av.W
    · obtain rfl : i = l.length := by omega
      exact Av.W
  · have co := over_ok l true ⟨fun h => Bool.noConfusion h, fun h => absurd h hO⟩ hl
    refine S_ Try.func10 (by kernel_rfl) rfl (Nat.le_of_ble_eq_true rfl) ?_
    show avc Try.prog SP _ _ _ _ _ _
    dsimp only [avc, startS, Array.toList, Try.f10]
    exact Av.W
end Go.Proofs.Ytdicpbecdhaphaa.Av.LruK
