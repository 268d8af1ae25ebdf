/- tree: the methods that read, walked. No conditions but that sizes stay far below what memory holds. -/
import Derived.Test.YtbaedepmogkkeaaGreatTree5
namespace Go.Proofs.YtbaedepmogkkeaaGreat.Av
set_option maxHeartbeats 1000000
open Go Go.RowKit Tre
set_option linter.unusedVariables false
set_option linter.unusedSimpArgs false
set_option maxRecDepth 100000

def muN : AV → Nat
  | .pt true (_ :: _ :: _ :: _ :: _ :: .ex (.int _ c) :: _) => c.toNat
  | _ => 0
theorem muN_nd (s : Tr) : muN (ndA s) = s.cn.toNat := by cases s <;> rfl
def muV : List AV → List ABlk → Nat
  | a :: _, _ => muN a
  | [], _ => 0
theorem mu_left {l r : Tr} {k v : Key} (x : List AV) (y : List AV) (b c : List ABlk) : muV (ndA l :: x) b < muV (ndA (.node l k v r) :: y) c := by
  show muN (ndA l) < muN (ndA (.node l k v r))
  have h1 := Tr.cn_pos l
  have h2 := Tr.cn_pos r
  rw [muN_nd, muN_nd]; simp only [Tr.cn]; omega
theorem mu_right {l r : Tr} {k v : Key} (x : List AV) (y : List AV) (b c : List ABlk) : muV (ndA r :: x) b < muV (ndA (.node l k v r) :: y) c := by
  show muN (ndA r) < muN (ndA (.node l k v r))
  have h1 := Tr.cn_pos l
  have h2 := Tr.cn_pos r
  rw [muN_nd, muN_nd]; simp only [Tr.cn]; omega
theorem len_ok_ (t : Tr) : SP 38 [trA t] (Z t.cn) := by
  have c := count_nd t
  refine S_ Tryz.func38 (by kernel_rfl) rfl (Nat.le_of_ble_eq_true rfl) ?_
  show avc Tryz.prog SP _ _ _ _ _ _
  dsimp only [avc, startS, Array.toList, Tryz.f38]
  exact Av.W
theorem bytes_ok (t : Tr) : SP 78 [trA t] (Z t.wt) := by
  have c := weight_nd t
  refine S_ Tryz.func78 (by kernel_rfl) rfl (Nat.le_of_ble_eq_true rfl) ?_
  show avc Tryz.prog SP _ _ _ _ _ _
  dsimp only [avc, startS, Array.toList, Tryz.f78]
  exact Av.W
/-- a text that is there, or not -/
def optR : Option Key → AV
  | some v => .tup [T v, B true]
  | none => .tup [T [], B false]
theorem get_ok (t : Tr) (key : Key) (res : Option Key) (hres : Tr.get key t = res) : SP 89 [trA t, T key] (optR res) := by
  refine S_ Tryz.func89 (by kernel_rfl) rfl (Nat.le_of_ble_eq_true rfl) ?_
  show avc Tryz.prog SP _ _ _ _ _ _
  dsimp only [avc, startS, Array.toList, Tryz.f89]
  refine Av.Wk ?_
  refine ⟨[6, 1], [], fun vs bl => ∃ s : Tr, Tr.get key s = res ∧ (vs = [ndA s, T key] ∧ bl = []), muV, ?_, ?_⟩
  · exact ⟨t, hres, rfl, rfl⟩
  rintro vs bl ⟨s, hs, rfl, rfl⟩
  cases s with
  | nil =>
    have : res = none := hs.symm
    subst this
    clear hres hs
    exact Av.W
  | node l k v r =>
    by_cases h1 : lt key k = true
    · have e : Tr.get key (.node l k v r) = Tr.get key l := if_pos h1
      rw [e] at hs
      have cm := cmp_lt h1
      clear hres
      refine Av.Wk ?_
      exact ⟨⟨l, hs, rfl, rfl⟩, mu_left _ _ _ _⟩
    · by_cases h2 : lt k key = true
      · have e : Tr.get key (.node l k v r) = Tr.get key r := (if_neg h1).trans (if_pos h2)
        rw [e] at hs
        have cm := cmp_gt h2
        clear hres
        refine Av.Wk ?_
        exact ⟨⟨r, hs, rfl, rfl⟩, mu_right _ _ _ _⟩
      · have ek : key = k := lt_tri (by simpa using h1) (by simpa using h2)
        subst ek
        have e : Tr.get key (.node l key v r) = some v := (if_neg h1).trans (if_neg h2)
        have : res = some v := hs.symm.trans e
        subst this
        have cm := cmp_eq key
        clear hres hs e
        exact Av.W
theorem rank_ok (t : Tr) (key : Key) (ht : t.cn ≤ 1000000000) (res : Int) (hres : Tr.rank key t = res) : SP 171 [trA t, T key] (Z res) := by
  have c0 := Tr.cn_pos t
  refine S_ Tryz.func171 (by kernel_rfl) rfl (Nat.le_of_ble_eq_true rfl) ?_
  show avc Tryz.prog SP _ _ _ _ _ _
  dsimp only [avc, startS, Array.toList, Tryz.f171]
  refine Av.Wk ?_
  refine ⟨[6, 5, 1], [], fun vs bl => ∃ (s : Tr) (a : Int), a + Tr.rank key s = res ∧ 0 ≤ a ∧ a + s.cn ≤ 1000000000 ∧ (vs = [ndA s, Z a, T key] ∧ bl = []), muV, ?_, ?_⟩
  · exact ⟨t, 0, by omega, by omega, by omega, rfl, rfl⟩
  rintro vs bl ⟨s, a, hs, ha, hb, rfl, rfl⟩
  cases s with
  | nil =>
    have : res = a := by rw [← hs]; show a + 0 = a; omega
    subst this
    clear hres hs
    exact Av.W
  | node l k v r =>
    have c1 := Tr.cn_pos l
    have c2 := Tr.cn_pos r
    have cl := count_nd l
    have hb2 : a + (1 + l.cn + r.cn) ≤ 1000000000 := hb
    by_cases h1 : lt k key = true
    · have e : Tr.rank key (.node l k v r) = 1 + l.cn + Tr.rank key r := if_pos h1
      rw [e] at hs
      have b1 : ltB k key = true := by rw [ltB_eq]; exact h1
      clear hres
      refine Av.Wk ?_
      exact ⟨⟨r, a + (1 + l.cn), by omega, by omega, by omega, rfl, rfl⟩, mu_right _ _ _ _⟩
    · have e : Tr.rank key (.node l k v r) = Tr.rank key l := if_neg h1
      rw [e] at hs
      have b1 : ltB k key = false := by rw [ltB_eq]; simpa using h1
      clear hres
      refine Av.Wk ?_
      exact ⟨⟨l, a, by omega, by omega, by omega, rfl, rfl⟩, mu_left _ _ _ _⟩
/-- a pair that is there, or not -/
def pairR : Option Pr → AV
  | some p => .tup [T p.1, T p.2, B true]
  | none => .tup [T [], T [], B false]
theorem at_neg (t : Tr) (i : Int) (h : i < 0) : SP 172 [trA t, Z i] (pairR none) := by
  refine S_ Tryz.func172 (by kernel_rfl) rfl (Nat.le_of_ble_eq_true rfl) ?_
  show avc Tryz.prog SP _ _ _ _ _ _
  dsimp only [avc, startS, Array.toList, Tryz.f172]
  have hW0 : Av.Mk 11 [0,1,3,7,0,16,48,112,15,511,1023] := ⟨⟩
  exact Av.W
theorem at_pos (t : Tr) (i : Int) (h : 0 ≤ i) (ht : t.cn ≤ 1000000000) (hi : i ≤ 9223372036854775807) (res : Option Pr) (hres : Tr.at_ t i = res) : SP 172 [trA t, Z i] (pairR res) := by
  refine S_ Tryz.func172 (by kernel_rfl) rfl (Nat.le_of_ble_eq_true rfl) ?_
  show avc Tryz.prog SP _ _ _ _ _ _
  dsimp only [avc, startS, Array.toList, Tryz.f172]
  have hW1 : Av.Mk 11 [0,1,3,7,0,16,48,112,15,511,1023] := ⟨⟩
  refine Av.Wk ?_
  refine ⟨[7, 1], [], fun vs bl => ∃ (s : Tr) (a : Int), Tr.at_ s a = res ∧ 0 ≤ a ∧ a ≤ 9223372036854775807 ∧ s.cn ≤ 1000000000 ∧ (vs = [ndA s, Z a] ∧ bl = []), muV, ?_, ?_⟩
  · exact ⟨t, i, hres, h, hi, ht, rfl, rfl⟩
  rintro vs bl ⟨s, a, hs, ha, hb, hc, rfl, rfl⟩
  cases s with
  | nil =>
    have : res = none := hs.symm
    subst this
    clear hres hs
    have hW2 : Av.Mk 11 [0,1,3,7,0,16,48,112,15,511,1023] := ⟨⟩
    exact Av.W
  | node l k v r =>
    have c1 := Tr.cn_pos l
    have c2 := Tr.cn_pos r
    have cl := count_nd l
    have hc2 : 1 + l.cn + r.cn ≤ 1000000000 := hc
    by_cases h1 : a < l.cn
    · have e : Tr.at_ (.node l k v r) a = Tr.at_ l a := if_pos h1
      rw [e] at hs
      clear hres
      have hW3 : Av.Mk 11 [0,1,3,7,0,16,48,112,15,511,1023] := ⟨⟩
      refine Av.Wk ?_
      exact ⟨⟨l, a, hs, by omega, by omega, by omega, rfl, rfl⟩, mu_left _ _ _ _⟩
    · by_cases h2 : a > l.cn
      · have e : Tr.at_ (.node l k v r) a = Tr.at_ r (a - (l.cn + 1)) := (if_neg h1).trans (if_pos h2)
        rw [e] at hs
        clear hres
        have hW4 : Av.Mk 11 [0,1,3,7,0,16,48,112,15,511,1023] := ⟨⟩
        refine Av.Wk ?_
        exact ⟨⟨r, a - (l.cn + 1), hs, by omega, by omega, by omega, rfl, rfl⟩, mu_right _ _ _ _⟩
      · have e : Tr.at_ (.node l k v r) a = some (k, v) := (if_neg h1).trans (if_neg h2)
        have : res = some (k, v) := hs.symm.trans e
        subst this
        clear hres hs e
        have hW5 : Av.Mk 11 [0,1,3,7,0,16,48,112,15,511,1023] := ⟨⟩
        exact Av.W
/-! ### texts -/
theorem begins_take {p x : Key} (h : p.length ≤ x.length) : (x.take p.length == p) = begins p x := by
  unfold begins
  rw [Bool.eq_iff_iff, List.isPrefixOf_iff_prefix, List.prefix_iff_eq_take, beq_iff_eq]
  exact eq_comm
theorem prefix1_ok (x p : Key) (hx : x.length ≤ 9223372036854775807) (hp : p.length ≤ 9223372036854775807) : SP 205 [T x, T p] (B (begins p x)) := by
  have s1 := bs_size x
  have s2 := bs_size p
  by_cases h : p.length ≤ x.length
  · have e : (((bs x).extract (0 : Int).toNat ((bs p).size : Int).toNat).toList == (bs p).toList) = begins p x := by
      rw [bs_cut, bsl_, bsl_, ← begins_take h, bs_size]
      simp
    rw [← e]
    refine S_ Tryz.func205 (by kernel_rfl) rfl (Nat.le_of_ble_eq_true rfl) ?_
    show avc Tryz.prog SP _ _ _ _ _ _
    dsimp only [avc, startS, Array.toList, Tryz.f205]
    exact Av.W
  · have e : begins p x = false := by
      unfold begins
      rw [Bool.eq_false_iff]
      intro hb
      have := (List.isPrefixOf_iff_prefix.1 hb).length_le
      omega
    rw [e]
    refine S_ Tryz.func205 (by kernel_rfl) rfl (Nat.le_of_ble_eq_true rfl) ?_
    show avc Tryz.prog SP _ _ _ _ _ _
    dsimp only [avc, startS, Array.toList, Tryz.f205]
    exact Av.W
theorem prefix_ok (x p : Key) (hx : x.length ≤ 9223372036854775807) (hp : p.length ≤ 9223372036854775807) : SP 173 [T x, T p] (B (begins p x)) := by
  have h := prefix1_ok x p hx hp
  refine S_ Tryz.func173 (by kernel_rfl) rfl (Nat.le_of_ble_eq_true rfl) ?_
  show avc Tryz.prog SP _ _ _ _ _ _
  dsimp only [avc, startS, Array.toList, Tryz.f173]
  exact Av.W
theorem beyond_ok (p : Key) (hp : p.length ≤ 1000000000) (res : Option Key) (hres : beyond p = res) : SP 167 [T p] (optR res) := by
  have s1 := bs_size p
  refine S_ Tryz.func167 (by kernel_rfl) rfl (Nat.le_of_ble_eq_true rfl) ?_
  show avc Tryz.prog SP _ _ _ _ _ _
  dsimp only [avc, startS, Array.toList, Tryz.f167]
  have hW6 : Av.Mk 12 [0,0,3,0,0,24,56,120,248,511,1023,2047] := ⟨⟩
  refine Av.Wk ?_
  refine ⟨[4, 0], [], fun vs bl => ∃ (a : Int), -1 ≤ a ∧ a < (p.length : Int) ∧ (∀ j (h : j < p.length), a < (j : Int) → ¬ (p[j]).toNat < 255) ∧ (vs = [Z a, T p] ∧ bl = []), fun vs bl => match vs with | .ex (.int _ a) :: _ => (a + 1).toNat | _ => 0, ?_, ?_⟩
  · exact ⟨((bs p).size : Int) - 1, by omega, by omega, fun j h hj => by omega, rfl, rfl⟩
  rintro vs bl ⟨a, h1, h2, h3, rfl, rfl⟩
  by_cases h0 : 0 ≤ a
  · obtain ⟨i, rfl⟩ : ∃ i : Nat, a = i := ⟨a.toNat, by omega⟩
    have hi : i < p.length := by omega
    have hb : (bs p)[((i : Int)).toNat]? = some p[i] := by
      rw [Int.toNat_natCast, getElem?_pos (bs p) i (by rw [bs_size]; exact hi)]; rfl
    by_cases h4 : (p[i]).toNat < 255
    · have e := beyond_some hi h4 (fun j hj hij => h3 j hj (by omega))
      rw [hres] at e
      subst e
      clear hres h3
      have h4i : ((p[i]).toNat : Int) < 255 := by omega
      have hz : IntKind.u8.wrap (((p[i]).toNat : Int) + 1) = (((p[i] + 1).toNat : Nat) : Int) := by
        rw [wrap_u8 (by omega) (by omega), UInt8.toNat_add]
        simp; omega
      have hadd : (bs p).extract (0 : Int).toNat ((i : Int)).toNat ++ (ByteArray.mk [p[i] + 1].toArray) = bs (p.take i ++ [p[i] + 1]) := by
        rw [show ByteArray.mk [p[i] + 1].toArray = bs [p[i] + 1] from rfl, bs_cut, bs_add]
        simp
      have hsz : ((bs p).extract (0 : Int).toNat ((i : Int)).toNat).size + (ByteArray.mk [p[i] + 1].toArray).size ≤ 9223372036854775807 := by
        rw [show ByteArray.mk [p[i] + 1].toArray = bs [p[i] + 1] from rfl, bs_cut, bs_size, bs_size, List.length_take]
        simp; omega
      repeat' ((try conv => whnf) <;> first | refine Av.hm_ ?_ | refine Av.w1 ?_ | refine Av.w2 ?_ | refine Av.w3 ?_ | refine Av.w4 ?_ | refine Av.nle rfl ?_ | refine Av.q1 ?_ | refine Av.q2 ?_ | refine Av.q3 ?_ | refine Av.q4 ?_ | refine Av.inr_ (by omega) (by omega) ?_ | (refine ⟨p[i], ⟨by omega, hb⟩, ?_⟩) | (refine ⟨_, hz, ?_⟩) | (refine ⟨false, ?_⟩) | (refine ⟨[p[i] + 1], ⟨rfl, rfl⟩, ?_⟩) | (refine And.intro hsz ?_) | refine ⟨[], [0,0,3,0,0,24,56,120,248,511,1023,2047], Av.len_ok rfl (by kernel_rfl), ?_⟩ | exact True.intro | refine Av.eqt_ (by kernel_rfl) ?_ | refine ⟨rfl, ?_⟩ | refine ⟨⟨Nat.le_of_ble_eq_true rfl, rfl⟩, ?_⟩ | refine ⟨⟨rfl, rfl⟩, ?_⟩ | refine ⟨⟨rfl, rfl, rfl⟩, ?_⟩ | exact ⟨rfl, rfl, rfl⟩ | exact ⟨rfl, rfl⟩ | ((first | refine br_lt ?_ ?_ | refine br_lt_ ?_ ?_ | refine br_le ?_ ?_ | refine br_le_ ?_ ?_ | refine br_eq ?_ ?_ | refine br_eq_ ?_ ?_ | refine br_seq ?_ ?_ | refine br_seq_ ?_ ?_) <;> intro hBr <;> first | (exfalso; omega) | (exfalso; contradiction) | (exfalso; exact hBr rfl) | skip) | refine br_not ?_ | refine br_not_ ?_ | refine br_and ?_ | refine br_and_ ?_ | refine Av.asm_ (by omega) ?_ | refine ⟨_, wrap_i64 (by omega), ?_⟩ | refine ⟨_, wrap_u64 (by omega) (by omega), ?_⟩ | refine ⟨_, wrap_u8 (by omega) (by omega), ?_⟩ | refine ⟨_, wrap_u32 (by omega) (by omega), ?_⟩ | refine ⟨_, wrap_u16 (by omega) (by omega), ?_⟩ | refine ⟨_, rfl, ?_⟩ | exact rfl)
      exact ⟨congrArg (fun s => AV.ex (.string s)) hadd, rfl, trivial⟩
    · clear hres
      repeat' ((try conv => whnf) <;> first | refine Av.hm_ ?_ | refine Av.w1 ?_ | refine Av.w2 ?_ | refine Av.w3 ?_ | refine Av.w4 ?_ | refine Av.nle rfl ?_ | refine Av.q1 ?_ | refine Av.q2 ?_ | refine Av.q3 ?_ | refine Av.q4 ?_ | refine Av.inr_ (by omega) (by omega) ?_ | (refine ⟨_, ⟨by omega, hb⟩, ?_⟩) | refine ⟨[], [0,0,3,0,0,24,56,120,248,511,1023,2047], Av.len_ok rfl (by kernel_rfl), ?_⟩ | exact True.intro | refine Av.eqt_ (by kernel_rfl) ?_ | refine ⟨rfl, ?_⟩ | refine ⟨⟨Nat.le_of_ble_eq_true rfl, rfl⟩, ?_⟩ | refine ⟨⟨rfl, rfl⟩, ?_⟩ | refine ⟨⟨rfl, rfl, rfl⟩, ?_⟩ | exact ⟨rfl, rfl, rfl⟩ | exact ⟨rfl, rfl⟩ | ((first | refine br_lt ?_ ?_ | refine br_lt_ ?_ ?_ | refine br_le ?_ ?_ | refine br_le_ ?_ ?_ | refine br_eq ?_ ?_ | refine br_eq_ ?_ ?_ | refine br_seq ?_ ?_ | refine br_seq_ ?_ ?_) <;> intro hBr <;> first | (exfalso; omega) | (exfalso; contradiction) | (exfalso; exact hBr rfl) | skip) | refine br_not ?_ | refine br_not_ ?_ | refine br_and ?_ | refine br_and_ ?_ | refine Av.asm_ (by omega) ?_ | refine ⟨_, wrap_i64 (by omega), ?_⟩ | refine ⟨_, wrap_u64 (by omega) (by omega), ?_⟩ | refine ⟨_, wrap_u8 (by omega) (by omega), ?_⟩ | refine ⟨_, wrap_u32 (by omega) (by omega), ?_⟩ | refine ⟨_, wrap_u16 (by omega) (by omega), ?_⟩ | refine ⟨_, rfl, ?_⟩ | exact rfl)
      exact ⟨⟨(i : Int) - 1, by omega, by omega, fun j hj hij => by
        by_cases e : j = i
        · subst e; exact h4
        · exact h3 j hj (by omega), rfl, rfl⟩, (by show ((i : Int) - 1 + 1).toNat < ((i : Int) + 1).toNat; omega)⟩
  · have e := beyond_none (p := p) (fun j hj => h3 j hj (by omega))
    rw [hres] at e
    subst e
    clear hres
    have hW7 : Av.Mk 12 [0,0,3,0,0,24,56,120,248,511,1023,2047] := ⟨⟩
    exact Av.W
end Go.Proofs.YtbaedepmogkkeaaGreat.Av
