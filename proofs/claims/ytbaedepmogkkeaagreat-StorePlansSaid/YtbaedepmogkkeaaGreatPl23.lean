/- What the claim stands on, Pl23: contracts of functions and plain facts. No conditions. -/
import Derived.Test.YtbaedepmogkkeaaGreatPl17
import Derived.Test.YtbaedepmogkkeaaGreatPl13
import Derived.Test.YtbaedepmogkkeaaGreatPl11
import Derived.Test.YtbaedepmogkkeaaGreatPl5
import Derived.Test.YtbaedepmogkkeaaGreatPl15
import Derived.Test.YtbaedepmogkkeaaGreatPl19
import Derived.Test.YtbaedepmogkkeaaGreatPl12
import Derived.Test.YtbaedepmogkkeaaGreatPl22
namespace Go.Proofs.YtbaedepmogkkeaaGreat.Av
open Go Go.RowKit
set_option linter.unusedVariables false
set_option maxRecDepth 100000
set_option linter.unusedSimpArgs false
theorem bytesA_length (l : List UInt8) : (bytesA l).length = l.length := by simp [bytesA]
theorem bytesA_at {l : List UInt8} {j : Nat} (h : j < (bytesA l).length) : (bytesA l)[j] = .ex (byteV (byteAt l j)) := by
 have h' : j < l.length := by rw [← bytesA_length]; exact h
 rw [byteAt_lt h']; simp [bytesA, byteA, byteV]
theorem rdB_of {w : World} {p : Nat → Option Nat} {c : Nat → Nat} {F : Nat → Nat → Prop} {D : Nat → Prop} {l : List UInt8} {x : Value} (h : Rep w p c F D (.vs l.length (bytesA l)) x) : ∃ A k, x = .slice A l.length k ∧ RdB w A l.length l := by
 rcases h.vs_inv with ⟨h1, h2, a0, rfl⟩ | ⟨g, o, k, u, h1, rfl, h2⟩
 ·have : l = [] := List.eq_nil_of_length_eq_zero h1
  subst this
  exact ⟨a0, 0, rfl, RdB.nil_ _ _⟩
 ·refine ⟨_, k, rfl, rfl, fun _ => ⟨_, rfl, fun j hj => ?_⟩⟩
  have hj' : j < (bytesA l).length := by rw [bytesA_length]; exact hj
  rw [addr_add, (h2.1 j hj').2]
  have := h2.2 j hj'
  rw [bytesA_at hj'] at this
  rw [this.ex_inv]
theorem size_u8 : sizeT Tryz.prog 5 = 1 := by kernel_rfl
theorem own_of {w w' : World} {F : Nat → Nat → Prop} {A : Option Addr} {n k : Nat} {l : List UInt8} (h : OwnB w' w.heap.size A n k l) (hF : ∀ g j, F g j → g < w.heap.size) :
  OwnOk Tryz.prog w.heap.size w' p0 c0 F 5 l.length (bytesA l) (.slice A n k) := by
 cases A with
 | none =>
  have h1 := h.1
  rcases h.2.2 with ⟨hv, hn⟩ | ⟨g, cap, cur, hv, _⟩
  ·injection hv with _ hv1 hv2
   subst hv1 hv2
   have : l = [] := List.eq_nil_of_length_eq_zero h1
   subst this
   exact .inl ⟨rfl, rfl, rfl⟩
  ·injection hv with h0; cases h0
 | some a =>
  obtain ⟨g, cur, hA, hb, hg, hnc, hcm, hcs, htk⟩ := h.row (by simp)
  injection hA with hA
  subst hA
  have hn := h.1
  refine .inr ⟨g, k, cur, (0, 0), by rw [hn], hb, by omega, by unfold maxLen at hcm; omega, hg, by simp, by rw [size_u8, hcs, Nat.mul_one], by rw [bytesA_length]; omega, fun j hj => ?_, fun j hj => by have := hF g j hj; omega⟩
  rw [bytesA_at hj]
  have hj' : j < l.length := by rw [← bytesA_length]; exact hj
  have e : cur.getD j undef = byteV (byteAt l j) := by
   have h1 : (cur.toList.take n)[j]? = (bytesV l)[j]? := by rw [htk]
   rw [List.getElem?_take_of_lt (by omega), bytesV_at hj'] at h1
   have hj2 : j < cur.size := by omega
   simp [hj2] at h1 ⊢
   exact h1
  rw [e]; exact .ex _ _
theorem sound_bytes {f : FuncId} {fn : Func} {l r : List UInt8} {vs : List Value} (hf : Tryz.prog.funcs[f]? = some fn) (hn : (fn.name == "runtime.NumGoroutine") = false) (hb : fn.body.isNone = false)
  (h : ∀ w A n k, RdB w A n l → Calls Tryz.prog f (.slice A n k :: vs).toArray w (RetB w.heap.size w r)) (a : AV) (ha : a = .vs l.length (bytesA l) ∨ (a = nilA ∧ l = [])) : SP f (a :: vs.map .ex) (.own 5 r.length (bytesA r)) := by
 refine ⟨enters hf hn hb, fun w F xs hs hr hF => ?_⟩
 have h0 : ∃ A k, xs.getD 0 undef = .slice A l.length k ∧ RdB w A l.length l := by
  have := hr 0 (by simp)
  simp only [List.getElem_cons_zero] at this
  rcases ha with rfl | ⟨rfl, rfl⟩
  ·exact rdB_of this
  ·exact ⟨none, 0, this.ex_inv, RdB.nil_ _ _⟩
 obtain ⟨A, k, e0, hrd⟩ := h0
 have : xs = (.slice A l.length k :: vs).toArray := by
  apply Array.ext'
  apply List.ext_getElem?
  intro j
  cases j with
  | zero =>
   have hj2 : 0 < xs.size := by rw [hs]; simp
   simp [hj2] at e0
   simp [hj2, e0]
  | succ j =>
   by_cases hj : j < vs.length
   ·have h1 := hr (j + 1) (by simpa using hj)
    simp only [List.getElem_cons_succ, List.getElem_map] at h1
    have h2 := h1.ex_inv
    have hj2 : j + 1 < xs.size := by rw [hs]; simpa using hj
    simp [hj2] at h2
    simp [hj2, hj, h2]
   ·rw [List.getElem?_eq_none (by simp [hs]; omega), List.getElem?_eq_none (by simp; omega)]
 rw [this]
 refine (h w A l.length k hrd).mono ?_
 rintro e w' ⟨A', n', k', rfl, ho, hbl⟩
 exact ⟨_, F, rfl, hbl, fun _ _ h => h, fun _ _ h => .inl h, own_of ho hF⟩
theorem sound_bytesE {f : FuncId} {fn : Func} {l r : List UInt8} {vs : List Value} {er : Int} (hf : Tryz.prog.funcs[f]? = some fn) (hn : (fn.name == "runtime.NumGoroutine") = false) (hb : fn.body.isNone = false)
  (h : ∀ w A n k, RdB w A n l → Calls Tryz.prog f (.slice A n k :: vs).toArray w (RetBE w.heap.size w r er)) (a : AV) (ha : a = .vs l.length (bytesA l) ∨ (a = nilA ∧ l = [])) : SP f (a :: vs.map .ex) (.tup [.own 5 r.length (bytesA r), Z er]) := by
 refine ⟨enters hf hn hb, fun w F xs hs hr hF => ?_⟩
 have h0 : ∃ A k, xs.getD 0 undef = .slice A l.length k ∧ RdB w A l.length l := by
  have := hr 0 (by simp)
  simp only [List.getElem_cons_zero] at this
  rcases ha with rfl | ⟨rfl, rfl⟩
  ·exact rdB_of this
  ·exact ⟨none, 0, this.ex_inv, RdB.nil_ _ _⟩
 obtain ⟨A, k, e0, hrd⟩ := h0
 have : xs = (.slice A l.length k :: vs).toArray := by
  apply Array.ext'
  apply List.ext_getElem?
  intro j
  cases j with
  | zero =>
   have hj2 : 0 < xs.size := by rw [hs]; simp
   simp [hj2] at e0
   simp [hj2, e0]
  | succ j =>
   by_cases hj : j < vs.length
   ·have h1 := hr (j + 1) (by simpa using hj)
    simp only [List.getElem_cons_succ, List.getElem_map] at h1
    have h2 := h1.ex_inv
    have hj2 : j + 1 < xs.size := by rw [hs]; simpa using hj
    simp [hj2] at h2
    simp [hj2, hj, h2]
   ·rw [List.getElem?_eq_none (by simp [hs]; omega), List.getElem?_eq_none (by simp; omega)]
 rw [this]
 refine (h w A l.length k hrd).mono ?_
 rintro e w' ⟨A', n', k', rfl, ho, hbl⟩
 refine ⟨_, F, rfl, hbl, fun _ _ h => h, fun _ _ h => .inl h, [.slice A' n' k', .int .i64 er], rfl, own_of ho hF, rfl, fun j hj => ?_⟩
 have : j = 0 := by simpa using hj
 subst this
 exact .ex _ _
end Go.Proofs.YtbaedepmogkkeaaGreat.Av
namespace Go.Proofs.YtbaedepmogkkeaaGreat.Av
open Go Go.RowKit
set_option linter.unusedVariables false
set_option linter.unusedSimpArgs false
theorem crcseal_ok (l : List UInt8) (hs : l.length ≤ 1048576) : SP 157 [T l] (T (Crc.sealed l)) :=
 sound_ex (vs := [.string (bs l)]) Tryz.func157 (by kernel_rfl) rfl (fun w => seal_any l w hs)
theorem rcrcseal_ok (l : List UInt8) (hs : l.length ≤ 1048576) : SP 152 [T l] (T (Crc.sealed l)) :=
 sound_ex (vs := [.string (bs l)]) Tryz.func152 (by kernel_rfl) rfl (fun w => refseal_any l w hs)
abbrev TE (l : List UInt8) (e : Int) : AV := .ex (.tuple #[.string (bs l), .int .i64 e])
theorem crcopen_ok (l : List UInt8) (hs : l.length ≤ 1048576) : SP 191 [T l] (TE (Crc.opened l).1 (Crc.opened l).2) :=
 sound_ex (vs := [.string (bs l)]) Tryz.func191 (by kernel_rfl) rfl (fun w => open_any l w hs)
end Go.Proofs.YtbaedepmogkkeaaGreat.Av
namespace Go.Proofs.YtbaedepmogkkeaaGreat.Shf
open Go Tre Quill
set_option linter.unusedVariables false
set_option linter.unusedSimpArgs false
def encP (p : Pr) : List UInt8 := rowB p.1 ++ rowB p.2
def encR : List Pr → List UInt8
 | [] => []
 | p :: l => encP p ++ encR l
def encB (L : List Pr) : List UInt8 := numB 4 L.length ++ encR L
theorem encR_app (a b : List Pr) : encR (a ++ b) = encR a ++ encR b := by
 induction a with
 | nil => rfl
 | cons p a ih => simp only [List.cons_append, encR, ih, List.append_assoc]
theorem encP_len (p : Pr) : (encP p).length = 4 + p.1.length + p.2.length := by
 unfold encP
 rw [List.length_append, rowB_length, rowB_length]; omega
theorem encR_len (L : List Pr) : (encR L).length = bytesL L := by
 induction L with
 | nil => rfl
 | cons p L ih => obtain ⟨a, b⟩ := p; simp only [encR, List.length_append, encP_len, ih, bytesL]
theorem encB_len (L : List Pr) : (encB L).length = 4 + bytesL L := by
 unfold encB
 rw [List.length_append, numB_length, encR_len]
def late (acc : List Pr) (k : Key) : Bool := match acc.getLast? with
 | some p => !lt p.1 k
 | none => false
def fin (x : Sc) (acc : List Pr) : List Pr × Int := if x.fin = 0 then (acc, 0) else ([], x.fin)
def decR : Nat → Sc → List Pr → List Pr × Int
 | 0, x, acc => fin x acc
 | n + 1, x, acc => if x.bad ≠ 0 then fin x acc
  else if x.row.2.bad = 0 ∧ late acc x.row.1 = true then ([], 4)
  else decR n x.row.2.row.2 (acc ++ [(x.row.1, x.row.2.row.1)])
theorem decR_succ (n : Nat) (x : Sc) (acc : List Pr) : decR (n + 1) x acc = if x.bad ≠ 0 then fin x acc else if x.row.2.bad = 0 ∧ late acc x.row.1 = true then ([], 4) else decR n x.row.2.row.2 (acc ++ [(x.row.1, x.row.2.row.1)]) := rfl
def dec (s : List UInt8) : List Pr × Int := decR (Sc.num ⟨s, 0, 0⟩ 4).1 (Sc.num ⟨s, 0, 0⟩ 4).2 []
def Short (L : List Pr) : Prop := ∀ p ∈ L, p.1.length ≤ 65535 ∧ p.2.length ≤ 65535
theorem late_no {acc : List Pr} {k v : Key} {r : List Pr} (h : Srt (acc ++ (k, v) :: r)) : late acc k = false := by
 unfold late
 cases e : acc.getLast? with
 | none => rfl
 | some p =>
  have := h.app_lt p (List.mem_of_getLast? e) (k, v) (by simp)
  simp only [this]; rfl
theorem row2_there {t a r : List UInt8} {p : Pr} (ht : t = a ++ encP p ++ r) (h1 : p.1.length ≤ 65535) (h2 : p.2.length ≤ 65535) :
  Sc.row ⟨t, (a.length : Int), 0⟩ = (p.1, ⟨t, (((a ++ rowB p.1).length : Nat) : Int), 0⟩) ∧ Sc.row ⟨t, (((a ++ rowB p.1).length : Nat) : Int), 0⟩ = (p.2, ⟨t, (((a ++ encP p).length : Nat) : Int), 0⟩) := by
 have e1 := row_there t a p.1 (rowB p.2 ++ r) (by rw [ht, encP]; simp) h1
 have e2 := row_there t (a ++ rowB p.1) p.2 r (by rw [ht, encP]; simp) h2
 rw [show a.length + (2 + p.1.length) = (a ++ rowB p.1).length by rw [List.length_append, rowB_length]] at e1
 rw [show (a ++ rowB p.1).length + (2 + p.2.length) = (a ++ encP p).length by rw [encP, List.length_append, List.length_append, List.length_append, rowB_length, rowB_length]; omega] at e2
 exact ⟨e1, e2⟩
theorem decR_there : ∀ (L : List Pr) (t a r : List UInt8) (acc : List Pr) (n : Nat), t = a ++ encR L ++ r → Short L → Srt (acc ++ L) →
  decR (L.length + n) ⟨t, (a.length : Int), 0⟩ acc = decR n ⟨t, (((a ++ encR L).length : Nat) : Int), 0⟩ (acc ++ L)
 | [], t, a, r, acc, n, ht, hs, hso => by simp [encR]
 | p :: L, t, a, r, acc, n, ht, hs, hso => by
  obtain ⟨e1, e2⟩ := row2_there (t := t) (a := a) (p := p) (r := encR L ++ r) (by rw [ht]; simp [encR]) (hs p (by simp)).1 (hs p (by simp)).2
  rw [show (p :: L).length + n = (L.length + n) + 1 by simp; omega]
  rw [decR_succ, if_neg (by simp), e1]
  simp only
  rw [e2, if_neg (by rw [late_no (v := p.2) (r := L) (by obtain ⟨k, v⟩ := p; exact hso)]; simp)]
  have := decR_there L t (a ++ encP p) r (acc ++ [p]) n (by rw [ht]; simp [encR]) (fun q hq => hs q (by simp [hq])) (by simpa using hso)
  simp only at this ⊢
  rw [show ((p.1, p.2) : Pr) = p from rfl, this, show a ++ encP p ++ encR L = a ++ encR (p :: L) by simp [encR], List.append_assoc]
  rfl
theorem num4 (L : List Pr) (r : List UInt8) (hl : L.length < 4294967296) : Sc.num ⟨encB L ++ r, 0, 0⟩ 4 = (L.length, ⟨encB L ++ r, (((numB 4 L.length).length : Nat) : Int), 0⟩) := by
 have h := num_there (encB L ++ r) [] (numB 4 L.length) (encR L ++ r) 4 (by simp [encB]) (numB_length _ _) (by omega) (by omega)
 rw [tell_numB, Nat.mod_eq_of_lt (by show L.length < 256 ^ 4; omega)] at h
 rw [numB_length]
 exact h
theorem fin_end (t : List UInt8) (acc : List Pr) (p : Int) (hp : p = (t.length : Int)) : fin ⟨t, p, 0⟩ acc = (acc, 0) := by
 subst hp
 unfold fin Sc.fin Sc.stands
 simp
theorem dec_enc (L : List Pr) (hs : Short L) (hso : Srt L) (hl : L.length < 4294967296) : dec (encB L) = (L, 0) := by
 have hn := num4 L [] hl
 rw [List.append_nil] at hn
 unfold dec
 rw [hn]
 simp only
 have := decR_there L (encB L) (numB 4 L.length) [] [] 0 (by simp [encB]) hs (by simpa using hso)
 rw [Nat.add_zero, List.nil_append] at this
 rw [this]
 exact fin_end _ _ _ (by rfl)
theorem fin_bad (t : List UInt8) (acc : List Pr) (p b : Int) (hb : b ≠ 0) : fin ⟨t, p, b⟩ acc = ([], b) := by
 unfold fin Sc.fin
 rw [if_neg (by rw [if_pos hb]; exact hb), if_pos hb]
theorem decR_bad (n : Nat) (t : List UInt8) (acc : List Pr) (p b : Int) (hb : b ≠ 0) : decR n ⟨t, p, b⟩ acc = ([], b) := by
 cases n with
 | zero => exact fin_bad t acc p b hb
 | succ n => rw [decR_succ, if_pos hb]; exact fin_bad t acc p b hb
theorem row_bad (t : List UInt8) (p b : Int) (hb : b ≠ 0) : Sc.row ⟨t, p, b⟩ = ([], ⟨t, p, b⟩) := by
 unfold Sc.row
 have : Sc.num ⟨t, p, b⟩ 2 = (0, ⟨t, p, b⟩) := by unfold Sc.num; rw [if_pos hb]
 rw [this, if_pos hb]
/-! ### bytes that are a map's -/
theorem num_inv {t a r : List UInt8} {z : Nat} (ht : t = a ++ r) (h1 : 1 ≤ z) (h8 : z ≤ 8) (h : (Sc.num ⟨t, (a.length : Int), 0⟩ (z : Int)).2.bad = 0) :
  z ≤ r.length ∧ Sc.num ⟨t, (a.length : Int), 0⟩ (z : Int) = (tell (r.take z), ⟨t, (((a ++ r.take z).length : Nat) : Int), 0⟩) := by
 have hlen : t.length = a.length + r.length := by rw [ht, List.length_append]
 by_cases hz : z ≤ r.length
 ·have hl : (r.take z).length = z := by rw [List.length_take]; omega
  have := num_there t a (r.take z) (r.drop z) z (by rw [ht, List.append_assoc, List.take_append_drop]) hl h1 h8
  refine ⟨hz, ?_⟩
  rw [this, List.length_append, hl]
 ·exfalso
  unfold Sc.num at h
  rw [if_neg (by simp), if_neg (by simp [Sc.stands]; omega), if_pos (by simp only; omega)] at h
  simp [Sc.fails] at h
theorem row_inv {t a r : List UInt8} (ht : t = a ++ r) (h : (Sc.row ⟨t, (a.length : Int), 0⟩).2.bad = 0) :
  ∃ s r', r = rowB s ++ r' ∧ s.length ≤ 65535 ∧ Sc.row ⟨t, (a.length : Int), 0⟩ = (s, ⟨t, (((a ++ rowB s).length : Nat) : Int), 0⟩) := by
 have hlen : t.length = a.length + r.length := by rw [ht, List.length_append]
 by_cases hb : (Sc.num ⟨t, (a.length : Int), 0⟩ 2).2.bad = 0
 ·obtain ⟨h2, hn⟩ := num_inv (z := 2) ht (by omega) (by omega) hb
  have hl : (r.take 2).length = 2 := by rw [List.length_take]; omega
  have htl := tell_lt (r.take 2)
  rw [hl] at htl
  by_cases hv : tell (r.take 2) ≤ r.length - 2
  ·have hsl : ((r.drop 2).take (tell (r.take 2))).length = tell (r.take 2) := by rw [List.length_take, List.length_drop]; omega
   have hrow : rowB ((r.drop 2).take (tell (r.take 2))) = r.take 2 ++ (r.drop 2).take (tell (r.take 2)) := by
    unfold rowB
    rw [hsl]
    congr 1
    have := numB_tell (r.take 2)
    rw [hl] at this
    exact this
   have e : t = a ++ rowB ((r.drop 2).take (tell (r.take 2))) ++ (r.drop 2).drop (tell (r.take 2)) := by
    rw [hrow, ht, List.append_assoc, List.append_assoc, List.take_append_drop, List.take_append_drop]
   refine ⟨(r.drop 2).take (tell (r.take 2)), (r.drop 2).drop (tell (r.take 2)), ?_, by omega, ?_⟩
   ·rw [hrow, List.append_assoc, List.take_append_drop, List.take_append_drop]
   ·have := row_there t a _ _ e (by omega)
    rw [this, List.length_append, rowB_length]
  ·exfalso
   have hn' : Sc.num ⟨t, (a.length : Int), 0⟩ 2 = (tell (r.take 2), ⟨t, (((a ++ r.take 2).length : Nat) : Int), 0⟩) := hn
   unfold Sc.row at h
   rw [hn', if_neg (by simp), if_pos (by simp only [List.length_append, hl]; omega)] at h
   simp [Sc.fails] at h
 ·exfalso
  unfold Sc.row at h
  rw [if_pos hb] at h
  exact hb h
theorem srt_snoc {acc : List Pr} {k v : Key} (h : Srt acc) (hl : late acc k = false) : Srt (acc ++ [(k, v)]) := by
 unfold Srt
 rw [List.pairwise_append]
 refine ⟨h, List.pairwise_singleton _ _, fun a ha b hb => ?_⟩
 rw [List.mem_singleton] at hb
 subst hb
 rcases List.eq_nil_or_concat acc with rfl | ⟨K, p, rfl⟩
 ·cases ha
 ·rw [List.concat_eq_append] at *
  unfold late at hl
  rw [List.getLast?_append] at hl
  simp at hl
  rcases List.mem_append.1 ha with ha | ha
  ·exact lt_trans (h.app_lt a ha p (by simp)) hl
  ·rw [List.mem_singleton] at ha; subst ha; exact hl
theorem decR_inv : ∀ (n : Nat) (t a r : List UInt8) (acc L : List Pr), t = a ++ r → Srt acc → decR n ⟨t, (a.length : Int), 0⟩ acc = (L, 0) →
  ∃ M, L = acc ++ M ∧ M.length = n ∧ r = encR M ∧ Short M ∧ Srt L
 | 0, t, a, r, acc, L, ht, hso, h => by
  have hlen : t.length = a.length + r.length := by rw [ht, List.length_append]
  have h : fin ⟨t, (a.length : Int), 0⟩ acc = (L, 0) := h
  unfold fin at h
  split at h
  ·rename_i hf
   injection h with h1 _
   subst h1
   refine ⟨[], by simp, rfl, ?_, (fun _ h => by cases h), hso⟩
   unfold Sc.fin Sc.stands at hf
   simp only at hf
   rw [if_neg (by simp), if_neg (by simp; omega)] at hf
   split at hf
   ·cases hf
   ·exact List.eq_nil_of_length_eq_zero (by omega)
  ·rename_i hf
   injection h with _ h2
   exact absurd h2 hf
 | n + 1, t, a, r, acc, L, ht, hso, h => by
  rw [decR_succ, if_neg (by simp)] at h
  by_cases hb : (Sc.row ⟨t, (a.length : Int), 0⟩).2.bad = 0
  ·obtain ⟨k, r1, e1, hk, hrow⟩ := row_inv ht hb
   rw [hrow] at h
   simp only at h
   cases hlt : late acc k with
   | true => rw [hlt, if_pos (by simp)] at h; injection h with _ h2; cases h2
   | false =>
    rw [hlt, if_neg (by simp)] at h
    have ht1 : t = (a ++ rowB k) ++ r1 := by rw [ht, e1]; simp
    by_cases hb2 : (Sc.row ⟨t, (((a ++ rowB k).length : Nat) : Int), 0⟩).2.bad = 0
    ·obtain ⟨v, r2, e2, hv, hrow2⟩ := row_inv ht1 hb2
     rw [hrow2] at h
     simp only at h
     obtain ⟨M, m1, m2, m3, m4, m5⟩ := decR_inv n t (a ++ rowB k ++ rowB v) r2 (acc ++ [(k, v)]) L (by rw [ht1, e2]; simp) (srt_snoc hso hlt) h
     refine ⟨(k, v) :: M, by rw [m1]; simp, by simp [m2], by rw [e1, e2, m3]; simp [encR, encP], fun q hq => ?_, m5⟩
     rcases List.mem_cons.1 hq with rfl | hq
     ·exact ⟨hk, hv⟩
     ·exact m4 q hq
    ·exfalso
     generalize Sc.row ⟨t, (((a ++ rowB k).length : Nat) : Int), 0⟩ = y at *
     obtain ⟨y1, t', q, b⟩ := y
     rw [decR_bad n t' _ q b hb2] at h
     injection h with _ h2
     exact hb2 h2
  ·exfalso
   rw [if_neg (fun e => hb e.1)] at h
   generalize Sc.row ⟨t, (a.length : Int), 0⟩ = y at *
   obtain ⟨y1, t', q, b⟩ := y
   have hb : b ≠ 0 := hb
   simp only [row_bad t' q b hb] at h
   rw [decR_bad n t' _ q b hb] at h
   injection h with _ h2
   exact hb h2
theorem enc_dec {s : List UInt8} {L : List Pr} (h : dec s = (L, 0)) : encB L = s ∧ Short L ∧ Srt L ∧ L.length < 4294967296 := by
 unfold dec at h
 by_cases hb : (Sc.num ⟨s, 0, 0⟩ 4).2.bad = 0
 ·obtain ⟨h4, hn⟩ := num_inv (t := s) (a := []) (r := s) (z := 4) rfl (by omega) (by omega) hb
  have hn' : Sc.num ⟨s, 0, 0⟩ 4 = (tell (s.take 4), ⟨s, (((s.take 4).length : Nat) : Int), 0⟩) := hn
  rw [hn'] at h
  have hl : (s.take 4).length = 4 := by rw [List.length_take]; omega
  have htl := tell_lt (s.take 4)
  rw [hl] at htl
  obtain ⟨M, m1, m2, m3, m4, m5⟩ := decR_inv (tell (s.take 4)) s (s.take 4) (s.drop 4) [] L (by rw [List.take_append_drop]) List.Pairwise.nil h
  rw [List.nil_append] at m1
  subst m1
  refine ⟨?_, m4, m5, by omega⟩
  unfold encB
  rw [m2, ← m3]
  have := numB_tell (s.take 4)
  rw [hl] at this
  rw [this, List.take_append_drop]
 ·exfalso
  generalize Sc.num ⟨s, 0, 0⟩ 4 = y at *
  obtain ⟨y1, t', q, b⟩ := y
  have hb : b ≠ 0 := hb
  rw [decR_bad y1 t' _ q b hb] at h
  injection h with _ h2
  exact hb h2
end Go.Proofs.YtbaedepmogkkeaaGreat.Shf
namespace Go.Proofs.YtbaedepmogkkeaaGreat.Av
open Go Go.RowKit
set_option linter.unusedVariables false
set_option linter.unusedSimpArgs false
theorem numk_any (l : List UInt8) (k x : Nat) (a : AV) (ha : a = .vs l.length (bytesA l) ∨ (a = nilA ∧ l = [])) (hk : 1 ≤ k) (hk8 : k ≤ 8) (hl : l.length ≤ 35184372088832) (hx : x < 18446744073709551616) : SP 124 [a, Z k, U x] (.own 5 (l ++ Quill.numB k x).length (bytesA (l ++ Quill.numB k x))) :=
 sound_bytes (vs := [.int .i64 k, .int .u64 x]) Tryz.func124 (by kernel_rfl) rfl (fun w A n c hr => num_yes A n c k x l w w.heap.size hr hk hk8 (by have := hr.1; omega) hx (Nat.le_refl _)) a ha
theorem rnumk_any (l : List UInt8) (k x : Nat) (a : AV) (ha : a = .vs l.length (bytesA l) ∨ (a = nilA ∧ l = [])) (hk : 1 ≤ k) (hk8 : k ≤ 8) (hl : l.length ≤ 35184372088832) (hx : x < 18446744073709551616) : SP 131 [a, Z k, U x] (.own 5 (l ++ Quill.numB k x).length (bytesA (l ++ Quill.numB k x))) :=
 sound_bytes (vs := [.int .i64 k, .int .u64 x]) Tryz.func131 (by kernel_rfl) rfl (fun w A n c hr => refnum_any A n c k x l w w.heap.size hr hk hk8 (by have := hr.1; omega) hx (Nat.le_refl _)) a ha
theorem numk_snd (l : List UInt8) (k x : Nat) (hk : 1 ≤ k) (hk8 : k ≤ 8) (hl : l.length ≤ 35184372088832) (hx : x < 18446744073709551616) : SP 124 [.vs l.length (bytesA l), Z k, U x] (.own 5 (l ++ Quill.numB k x).length (bytesA (l ++ Quill.numB k x))) := numk_any l k x _ (.inl rfl) hk hk8 hl hx
theorem rnumk_snd (l : List UInt8) (k x : Nat) (hk : 1 ≤ k) (hk8 : k ≤ 8) (hl : l.length ≤ 35184372088832) (hx : x < 18446744073709551616) : SP 131 [.vs l.length (bytesA l), Z k, U x] (.own 5 (l ++ Quill.numB k x).length (bytesA (l ++ Quill.numB k x))) := rnumk_any l k x _ (.inl rfl) hk hk8 hl hx
theorem numk_nil (k x : Nat) (hk : 1 ≤ k) (hk8 : k ≤ 8) (hx : x < 18446744073709551616) : SP 124 [nilA, Z k, U x] (.own 5 (Quill.numB k x).length (bytesA (Quill.numB k x))) := numk_any [] k x _ (.inr ⟨rfl, rfl⟩) hk hk8 (by simp) hx
theorem rnumk_nil (k x : Nat) (hk : 1 ≤ k) (hk8 : k ≤ 8) (hx : x < 18446744073709551616) : SP 131 [nilA, Z k, U x] (.own 5 (Quill.numB k x).length (bytesA (Quill.numB k x))) := rnumk_any [] k x _ (.inr ⟨rfl, rfl⟩) hk hk8 (by simp) hx
end Go.Proofs.YtbaedepmogkkeaaGreat.Av
namespace Go.Proofs.YtbaedepmogkkeaaGreat.Av
set_option maxHeartbeats 1000000
open Go Go.RowKit
set_option linter.unusedVariables false
set_option linter.unusedSimpArgs false
set_option maxRecDepth 100000
def OkM (g : Nat) (p : Int) : Prop := 1 ≤ g ∧ g ≤ 1099511627776 ∧ 0 ≤ p ∧ p < 1048575
theorem mark_yes {g : Nat} {p : Int} (h : OkM g p) : SP 66 [U g, Z p] (.tup [U ((g : Int) * 1048576 + p + 1), Z 0]) := by
 have h : 1 ≤ g ∧ g ≤ 1099511627776 ∧ 0 ≤ p ∧ p < 1048575 := h
 refine S_ Tryz.func66 (by kernel_rfl) rfl (Nat.le_of_ble_eq_true rfl) ?_
 show avc Tryz.prog SP _ _ _ _ _ _
 dsimp only [avc, startS, Array.toList, Tryz.f66]
 exact Av.W
theorem mark_no {g : Nat} {p : Int} (h : ¬ OkM g p) : SP 66 [U g, Z p] (.tup [U 0, Z 2]) := by
 have h : ¬ (1 ≤ g ∧ g ≤ 1099511627776 ∧ 0 ≤ p ∧ p < 1048575) := h
 refine S_ Tryz.func66 (by kernel_rfl) rfl (Nat.le_of_ble_eq_true rfl) ?_
 show avc Tryz.prog SP _ _ _ _ _ _
 dsimp only [avc, startS, Array.toList, Tryz.f66]
 exact Av.W
theorem rmark_yes {g : Nat} {p : Int} (h : OkM g p) : SP 71 [U g, Z p] (.tup [U ((g : Int) * 1048576 + p + 1), Z 0]) := by
 have h : 1 ≤ g ∧ g ≤ 1099511627776 ∧ 0 ≤ p ∧ p < 1048575 := h
 have hm : IntKind.u64.wrap (1048576 * (g : Int)) = (g : Int) * 1048576 := by rw [wrap_u64 (by omega) (by omega)]; omega
 refine S_ Tryz.func71 (by kernel_rfl) rfl (Nat.le_of_ble_eq_true rfl) ?_
 show avc Tryz.prog SP _ _ _ _ _ _
 dsimp only [avc, startS, Array.toList, Tryz.f71]
 exact Av.W
theorem rmark_no {g : Nat} {p : Int} (h : ¬ OkM g p) : SP 71 [U g, Z p] (.tup [U 0, Z 2]) := by
 have h : ¬ (1 ≤ g ∧ g ≤ 1099511627776 ∧ 0 ≤ p ∧ p < 1048575) := h
 refine S_ Tryz.func71 (by kernel_rfl) rfl (Nat.le_of_ble_eq_true rfl) ?_
 show avc Tryz.prog SP _ _ _ _ _ _
 dsimp only [avc, startS, Array.toList, Tryz.f71]
 exact Av.W
def OkP (m : Nat) : Prop := 1048576 ≤ m ∧ m < 1152921504607895552 ∧ (m : Int) % 1048576 ≠ 0
theorem parts_yes {m : Nat} (h : OkP m) : SP 213 [U m] (.tup [U ((m : Int) / 1048576), Z ((m : Int) % 1048576 - 1), B true]) := by
 have h : 1048576 ≤ m ∧ m < 1152921504607895552 ∧ (m : Int) % 1048576 ≠ 0 := h
 refine S_ Tryz.func213 (by kernel_rfl) rfl (Nat.le_of_ble_eq_true rfl) ?_
 show avc Tryz.prog SP _ _ _ _ _ _
 dsimp only [avc, startS, Array.toList, Tryz.f213]
 exact Av.W
theorem parts_no {m : Nat} (hm : m < 18446744073709551616) (h : ¬ OkP m) : SP 213 [U m] (.tup [U 0, Z 0, B false]) := by
 have h : ¬ (1048576 ≤ m ∧ m < 1152921504607895552 ∧ (m : Int) % 1048576 ≠ 0) := h
 refine S_ Tryz.func213 (by kernel_rfl) rfl (Nat.le_of_ble_eq_true rfl) ?_
 show avc Tryz.prog SP _ _ _ _ _ _
 dsimp only [avc, startS, Array.toList, Tryz.f213]
 exact Av.W
theorem rparts_yes {m : Nat} (h : OkP m) : SP 215 [U m] (.tup [U ((m : Int) / 1048576), Z ((m : Int) % 1048576 - 1), B true]) := by
 have h : 1048576 ≤ m ∧ m < 1152921504607895552 ∧ (m : Int) % 1048576 ≠ 0 := h
 refine S_ Tryz.func215 (by kernel_rfl) rfl (Nat.le_of_ble_eq_true rfl) ?_
 show avc Tryz.prog SP _ _ _ _ _ _
 dsimp only [avc, startS, Array.toList, Tryz.f215]
 exact Av.W
theorem rparts_no {m : Nat} (hm : m < 18446744073709551616) (h : ¬ OkP m) : SP 215 [U m] (.tup [U 0, Z 0, B false]) := by
 have h : ¬ (1048576 ≤ m ∧ m < 1152921504607895552 ∧ (m : Int) % 1048576 ≠ 0) := h
 refine S_ Tryz.func215 (by kernel_rfl) rfl (Nat.le_of_ble_eq_true rfl) ?_
 show avc Tryz.prog SP _ _ _ _ _ _
 dsimp only [avc, startS, Array.toList, Tryz.f215]
 exact Av.W
def cntP (n : Int) : Int := if n < 1 then 0 else (n - 1) / 48 + 1
theorem count_no {n : Int} (h : n < 1) : SP 129 [Z n] (Z 0) := by
 refine S_ Tryz.func129 (by kernel_rfl) rfl (Nat.le_of_ble_eq_true rfl) ?_
 show avc Tryz.prog SP _ _ _ _ _ _
 dsimp only [avc, startS, Array.toList, Tryz.f129]
 exact Av.W
theorem count_yes {n : Int} (h : 1 ≤ n) (h2 : n ≤ 9223372036854775807) : SP 129 [Z n] (Z ((n - 1) / 48 + 1)) := by
 refine S_ Tryz.func129 (by kernel_rfl) rfl (Nat.le_of_ble_eq_true rfl) ?_
 show avc Tryz.prog SP _ _ _ _ _ _
 dsimp only [avc, startS, Array.toList, Tryz.f129]
 exact Av.W
theorem rcount_no {n : Int} (h : n < 1) : SP 69 [Z n] (Z 0) := by
 refine S_ Tryz.func69 (by kernel_rfl) rfl (Nat.le_of_ble_eq_true rfl) ?_
 show avc Tryz.prog SP _ _ _ _ _ _
 dsimp only [avc, startS, Array.toList, Tryz.f69]
 exact Av.W
theorem rcount_yes0 {n : Int} (h : 1 ≤ n) (h2 : n ≤ 9223372036854775807) (h3 : n % 48 = 0) : SP 69 [Z n] (Z (n / 48)) := by
 refine S_ Tryz.func69 (by kernel_rfl) rfl (Nat.le_of_ble_eq_true rfl) ?_
 show avc Tryz.prog SP _ _ _ _ _ _
 dsimp only [avc, startS, Array.toList, Tryz.f69]
 exact Av.W
theorem rcount_yes1 {n : Int} (h : 1 ≤ n) (h2 : n ≤ 9223372036854775807) (h3 : n % 48 ≠ 0) : SP 69 [Z n] (Z (n / 48 + 1)) := by
 refine S_ Tryz.func69 (by kernel_rfl) rfl (Nat.le_of_ble_eq_true rfl) ?_
 show avc Tryz.prog SP _ _ _ _ _ _
 dsimp only [avc, startS, Array.toList, Tryz.f69]
 exact Av.W
theorem count_ok (n : Int) (h2 : n ≤ 9223372036854775807) : SP 129 [Z n] (Z (cntP n)) := by
 unfold cntP
 split
 ·rename_i h; exact count_no h
 ·exact count_yes (by omega) h2
theorem rcount_ok (n : Int) (h2 : n ≤ 9223372036854775807) : SP 69 [Z n] (Z (cntP n)) := by
 unfold cntP
 split
 ·rename_i h; exact rcount_no h
 ·by_cases h3 : n % 48 = 0
  ·rw [show (n - 1) / 48 + 1 = n / 48 by omega]; exact rcount_yes0 (by omega) h2 h3
  ·rw [show (n - 1) / 48 + 1 = n / 48 + 1 by omega]; exact rcount_yes1 (by omega) h2 h3
end Go.Proofs.YtbaedepmogkkeaaGreat.Av
namespace Go.Proofs.YtbaedepmogkkeaaGreat.Av
open Go Go.RowKit Tre
set_option linter.unusedVariables false
set_option linter.unusedSimpArgs false
set_option maxRecDepth 100000
set_option maxHeartbeats 4000000
abbrev bcell (b : UInt8) : AV := .ex (.int .u8 (b.toNat : Int))
theorem rowB_cells (s : List UInt8) : bytesA (Quill.rowB s) = [bcell (Quill.byteOf 2 s.length 0), bcell (Quill.byteOf 2 s.length 1)] ++ bytesA s := by
 unfold Quill.rowB bytesA
 rw [List.map_append]; rfl
abbrev wrB (n : Nat) : ABlk := ⟨[.sl 1 n, Z 0], none, false, false⟩
abbrev byB (l : List UInt8) : ABlk := ⟨bytesA l, some 5, true, true⟩
theorem wrow_ok (l s : List UInt8) (hs : s.length ≤ 65535) (hl : l.length ≤ 17592186044416) : SM 125 [.ptr 0 0, T s] [wrB l.length, byB l] [.ptr 0 0] (.tup []) [wrB (l ++ Quill.rowB s).length, byB (l ++ Quill.rowB s)] := by
 have hz := bs_size s
 have e0 := Quill.byteOf_toNat 2 s.length 0
 have e1 := Quill.byteOf_toNat 2 s.length 1
 have hb0 : IntKind.u8.wrap (((bs s).size : Int).fdiv (2 ^ (min (8 : Int).toNat IntKind.i64.bits))) = ((Quill.byteOf 2 s.length 0).toNat : Int) := by
  rw [e0, hz]
  show IntKind.u8.wrap ((s.length : Int).fdiv 256) = _
  rw [Int.fdiv_eq_ediv_of_nonneg _ (by omega), wrap_u8 (by omega) (by omega)]
  show _ = ((s.length / 256 % 256 : Nat) : Int)
  omega
 have hb1 : IntKind.u8.wrap ((bs s).size : Int) = ((Quill.byteOf 2 s.length 1).toNat : Int) := by
  rw [e1, hz]
  have : IntKind.u8.wrap (s.length : Int) = (s.length : Int) % 256 := by simp [IntKind.wrap, IntKind.bits, IntKind.signed]
  rw [this]
  show _ = ((s.length / 1 % 256 : Nat) : Int)
  omega
 have ec : bytesA (l ++ Quill.rowB s) = bytesA l ++ [bcell (Quill.byteOf 2 s.length 0), bcell (Quill.byteOf 2 s.length 1)] ++ bytesA (bs s).data.toList := by
  rw [show bytesA (l ++ Quill.rowB s) = bytesA l ++ bytesA (Quill.rowB s) by simp [bytesA], rowB_cells, show (bs s).data.toList = s by simp [bs], List.append_assoc]
 have el : (l ++ Quill.rowB s).length = l.length + 2 + (bs s).size := by rw [List.length_append, Quill.rowB_length, hz]; omega
 rw [show byB (l ++ Quill.rowB s) = ⟨_, some 5, true, true⟩ from congrArg (fun c => (⟨c, some 5, true, true⟩ : ABlk)) ec, el]
 generalize Quill.byteOf 2 s.length 0 = b0 at *
 generalize Quill.byteOf 2 s.length 1 = b1 at *
 have hrm : ∀ k : Nat, k ≤ 70368744177664 → room k (bytesT Tryz.prog 5) := fun k hk => by
  rw [show bytesT Tryz.prog 5 = 1 by kernel_rfl]; unfold room; omega
 have a1 : room (l.length + 2) (bytesT Tryz.prog 5) ∧ (bytesA l).length = l.length * sizeT Tryz.prog 5 ∧ ([bcell b0, bcell b1] : List AV).length = 2 * sizeT Tryz.prog 5 ∧ ∀ v ∈ ([bcell b0, bcell b1] : List AV), one1 v = true :=
  ⟨hrm _ (by omega), by rw [size_u8, bytesA_length]; omega, by rw [size_u8]; rfl, fun v hv => by
   simp only [List.mem_cons, List.not_mem_nil, or_false] at hv
   rcases hv with rfl | rfl <;> rfl⟩
 have a2 : room (l.length + 2 + (bs s).size) (bytesT Tryz.prog 5) ∧ (bytesA l ++ [bcell b0, bcell b1]).length = (l.length + 2) * sizeT Tryz.prog 5 ∧ True :=
  ⟨hrm _ (by omega), by rw [size_u8, List.length_append, bytesA_length]; show _ + 2 = _; omega, trivial⟩
 clear e0 e1 ec el hrm
 refine SM_ Tryz.func125 (by kernel_rfl) rfl (Nat.le_of_ble_eq_true rfl) (Nat.succ_le_succ (Nat.zero_le _)) ?_
 show avc Tryz.prog SP _ _ _ _ _ _
 dsimp only [avc, startS, Array.toList, Tryz.f125]
 exact Av.W
def EInv (N : Nat) (pre : List Pr) (vs : List AV) (bl : List ABlk) : Prop :=
 ∃ (m : Nat) (D : List UInt8), D = Quill.numB 4 N ++ Shf.encR pre ∧ m = D.length ∧ (vs = [.ptr 0 0, .ptr 1 0] ∧ bl = [⟨[.sl 2 m, Z 0], none, false, false⟩, ⟨[.bm 125 0], none, false, false⟩, byB D])
theorem bytesL_le : ∀ {l : List Pr}, (∀ y ∈ l, y.1.length ≤ 65535 ∧ y.2.length ≤ 65535) → bytesL l ≤ 131074 * l.length
 | [], _ => Nat.zero_le _
 | (a, b) :: l, h => by
  have h1 := h (a, b) (by simp)
  have h2 := bytesL_le (l := l) fun y hy => h y (by simp [hy])
  simp only [bytesL, List.length_cons] at *
  omega
theorem enc_walk (t : Tr) (L : List Pr) (hL : L.length ≤ 1000000) (hs : Shf.Short L) (cl : SP 38 [trA t] (Z L.length)) (cu : SP 121 [trA t, T []] (.clo 170 [.vp [ndA t] 0, .vp [T []] 0]))
  (cq : SeqSound Tryz.prog 170 [.vp [ndA t] 0, .vp [T []] 0] encP L) (R : List UInt8) (hR : R = Quill.numB 4 L.length ++ Shf.encR L) : SP 61 [trA t] (.tup [T R, Z 0]) := by
 have cn := numk_nil 4 L.length (by omega) (by omega) (by omega)
 have h4 := Quill.numB_length 4 L.length
 have e0 : EInv L.length [] [.ptr 0 0, .ptr 1 0] [⟨[.sl 2 (Quill.numB 4 L.length).length, Z 0], none, false, false⟩, ⟨[.bm 125 0], none, false, false⟩, byB (Quill.numB 4 L.length)] := ⟨_, _, by simp [Shf.encR], rfl, rfl, rfl⟩
 refine S_ Tryz.func61 (by kernel_rfl) rfl (Nat.le_of_ble_eq_true rfl) ?_
 show avc Tryz.prog SP _ _ _ _ _ _
 dsimp only [avc, startS, Array.toList, Tryz.f61]
 have hW0 : Av.Mk 6 [0,1,3,7,0,31] := ⟨⟩
 refine Av.Wk ?_
 refine ⟨Pr, encP, L, _, _, [4, 5], [], 6, [6, 7], EInv L.length, rfl, cq, fun x => rfl, rfl, rfl, rfl, rfl, rfl, rfl, ?_, ?_, ?_⟩
 ·exact e0
 ·intro x hx
  have hW1 : Av.Mk 6 [0,1,3,7,0,31] := ⟨⟩
  refine Av.Wk ?_
  rintro pre vs bs hpre hlt ⟨m, D, hD, hm, rfl, rfl⟩
  have hb := bytesL_le (l := pre) fun y hy => hs y (hpre y hy)
  have hDl : D.length = 4 + bytesL pre := by rw [hD, List.length_append, h4, Shf.encR_len]
  have c1 := wrow_ok D x.1 (hs x hx).1 (by omega)
  have c2 := wrow_ok (D ++ Quill.rowB x.1) x.2 (hs x hx).2 (by have := (hs x hx).1; rw [List.length_append, Quill.rowB_length]; omega)
  have fin : EInv L.length (pre ++ [x]) [.ptr 0 0, .ptr 1 0] [⟨[.sl 2 (D ++ Quill.rowB x.1 ++ Quill.rowB x.2).length, Z 0], none, false, false⟩, ⟨[.bm 125 0], none, false, false⟩, byB (D ++ Quill.rowB x.1 ++ Quill.rowB x.2)] :=
   ⟨_, _, by rw [hD, Shf.encR_app]; simp [Shf.encR, Shf.encP], rfl, rfl, rfl⟩
  subst hm
  clear hb hDl hD hlt hpre e0 cl cn cu cq hR
  generalize D ++ Quill.rowB x.1 ++ Quill.rowB x.2 = D2 at *
  generalize D ++ Quill.rowB x.1 = D1 at *
  generalize x.1 = k at *
  generalize x.2 = v at *
  have hW2 : Av.Mk 6 [0,1,3,7,0,31] := ⟨⟩
  exact Av.W
 ·rintro vs bs ⟨m, D, hD, hm, rfl, rfl⟩
  obtain rfl : R = D := by rw [hR, hD]
  have hcv : bytesA R = bytesA R ∧ m = R.length := ⟨rfl, hm⟩
  clear hR hD e0 cl cn cu cq
  have hW3 : Av.Mk 6 [0,1,3,7,0,31] := ⟨⟩
  exact Av.W
theorem underL_nilW (l : List Pr) : underL [] l = l := by
 unfold underL
 rw [List.filter_eq_self]
 intro a _
 rfl
structure MapS (t : Tr) : Prop where
 good : Tr.Good t
 len : t.toL.length ≤ 1000000
 key : Shf.Short t.toL
theorem enc_ok {t : Tr} (h : MapS t) : SP 61 [trA t] (.tup [T (Shf.encB t.toL), Z 0]) := by
 have cl := len_ok_ t
 rw [Tr.cn_len] at cl
 have cq := seq_ok t [] h.good.srt (by have := h.len; omega) (fun x hx => by have := (h.key x hx).1; omega) (by decide)
 rw [underL_nilW] at cq
 exact enc_walk t t.toL h.len h.key cl (under_ok t []) cq _ rfl
theorem size_ok {t : Tr} (h : t.wt ≤ 1000000000000) : SP 63 [trA t] (Z (4 + t.wt)) := by
 have c := bytes_ok t
 have h0 := Tr.wt_pos t
 refine S_ Tryz.func63 (by kernel_rfl) rfl (Nat.le_of_ble_eq_true rfl) ?_
 show avc Tryz.prog SP _ _ _ _ _ _
 dsimp only [avc, startS, Array.toList, Tryz.f63]
 exact Av.W
theorem sectors_ok (n : Int) (h : n ≤ 9223372036854775807) : SP 64 [Z n] (Z (cntP n)) := by
 have c := count_ok n h
 refine S_ Tryz.func64 (by kernel_rfl) rfl (Nat.le_of_ble_eq_true rfl) ?_
 show avc Tryz.prog SP _ _ _ _ _ _
 dsimp only [avc, startS, Array.toList, Tryz.f64]
 exact Av.W
end Go.Proofs.YtbaedepmogkkeaaGreat.Av
namespace Go.Proofs.YtbaedepmogkkeaaGreat.Av
open Go Go.RowKit
set_option linter.unusedVariables false
set_option linter.unusedSimpArgs false
set_option maxRecDepth 100000
def Okc (e n : Nat) : Prop := 1 ≤ e ∧ e ≤ 1099511627776 ∧ n ≤ 281474976710656
instance (e n : Nat) : Decidable (Okc e n) := inferInstanceAs (Decidable (_ ∧ _ ∧ _))
abbrev scB (t : List UInt8) (p b : Int) : AV := .ex (.agg #[.string (bs t), .int .i64 p, .int .i64 b])
theorem end_snd (s : Quill.Sc) (hl : s.text.length ≤ 9223372036854775807) : SP 128 [scB s.text s.pos s.bad] (Z s.fin) :=
 sound_ex (vs := [_]) Tryz.func128 (by kernel_rfl) rfl (fun w => sfin s w hl)
theorem rend_snd (s : Quill.Sc) (hl : s.text.length ≤ 9223372036854775807) : SP 137 [scB s.text s.pos s.bad] (Z s.fin) :=
 sound_ex (vs := [_]) Tryz.func137 (by kernel_rfl) rfl (fun w => rfin s w hl)
abbrev rowT (x t : List UInt8) (p b : Int) : AV := .ex (.tuple #[.string (bs x), .agg #[.string (bs t), .int .i64 p, .int .i64 b]])
theorem row_snd (s : Quill.Sc) (hl : s.text.length ≤ 70368744177664) : SP 127 [scB s.text s.pos s.bad] (rowT s.row.1 s.text s.row.2.pos s.row.2.bad) :=
 sound_ex (vs := [_]) Tryz.func127 (by kernel_rfl) rfl (fun w => srow s w hl)
theorem rrow_snd (s : Quill.Sc) (hl : s.text.length ≤ 70368744177664) : SP 136 [scB s.text s.pos s.bad] (rowT s.row.1 s.text s.row.2.pos s.row.2.bad) :=
 sound_ex (vs := [_]) Tryz.func136 (by kernel_rfl) rfl (fun w => rrow s w hl)
end Go.Proofs.YtbaedepmogkkeaaGreat.Av
namespace Go.Proofs.YtbaedepmogkkeaaGreat.Av
open Go Go.RowKit
set_option linter.unusedVariables false
set_option linter.unusedSimpArgs false
abbrev scM (t : List UInt8) (p b : Int) : AV := .ex (.agg #[.string (bs t), .int .i64 p, .int .i64 b])
abbrev numM (x : Nat) (t : List UInt8) (p b : Int) : AV := .ex (.tuple #[.int .u64 (x : Int), .agg #[.string (bs t), .int .i64 p, .int .i64 b]])
theorem scannum_snd (t : List UInt8) (p b size : Int) (hl : t.length ≤ 70368744177664) : SP 126 [scM t p b, Z size] (numM (Quill.Sc.num ⟨t, p, b⟩ size).1 t (Quill.Sc.num ⟨t, p, b⟩ size).2.pos (Quill.Sc.num ⟨t, p, b⟩ size).2.bad) :=
 sound_ex (vs := [_, _]) Tryz.func126 (by kernel_rfl) rfl (fun w => snum ⟨t, p, b⟩ size w hl)
theorem takenum_snd (t : List UInt8) (p b size : Int) (hl : t.length ≤ 70368744177664) : SP 135 [scM t p b, Z size] (numM (Quill.Sc.num ⟨t, p, b⟩ size).1 t (Quill.Sc.num ⟨t, p, b⟩ size).2.pos (Quill.Sc.num ⟨t, p, b⟩ size).2.bad) :=
 sound_ex (vs := [_, _]) Tryz.func135 (by kernel_rfl) rfl (fun w => rnum ⟨t, p, b⟩ size w hl)
end Go.Proofs.YtbaedepmogkkeaaGreat.Av
