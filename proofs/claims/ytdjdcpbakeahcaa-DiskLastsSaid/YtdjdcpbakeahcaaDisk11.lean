/- disk: a device, and the document's, one thing after the other, walked. No conditions but that lengths are what memory holds. -/
import Derived.Test.YtdjdcpbakeahcaaDisk10
namespace Go.Proofs.Ytdjdcpbakeahcaa.Av
open Go Go.RowKit
set_option linter.unusedVariables false
set_option linter.unusedSimpArgs false
set_option maxRecDepth 100000
set_option maxHeartbeats 20000000

theorem done_bad {n : Int} (l : List DOp) (h : n < 1 ∨ 4096 < n) : SM 16 [Z n, .vs l.length (dopC l)] [] [] (.tup [nilP, .ex (.agg #[.int .i64 0, .slice none 0 0, .int .i64 0, .int .i64 0]), B false]) [] := by
  have c1 := dnew_bad h
  have c2 := rnew_bad h
  refine SM_ Try.func16 (by kernel_rfl) rfl (Nat.le_of_ble_eq_true rfl) (Nat.zero_le _) ?_
  show avc Try.prog SP _ _ _ _ _ _
  dsimp only [avc, startS, Array.toList, Try.f16]
  repeat' ((try conv => whnf) <;> (first | (refine Hold.mk ?_) | (refine And.intro (fun _ => ?_) (fun h => Bool.noConfusion h)) | (refine And.intro (fun h => Bool.noConfusion h) (fun _ => ?_)) | (refine And.intro (Nat.le_of_ble_eq_true rfl) ?_) | (refine And.intro (fun _ => ?_) (fun h => Bool.noConfusion ((beq_self_eq_true _).symm.trans h))) | (refine And.intro (fun h => Bool.noConfusion ((bne_self_eq_false _).symm.trans h)) (fun _ => ?_)) | (refine And.intro (fun h => Bool.noConfusion ((beq_self_eq_true _).symm.trans h)) (fun _ => ?_)) | (refine And.intro (fun _ => ?_) (fun h => Bool.noConfusion ((bne_self_eq_false _).symm.trans h))) | (refine And.intro (show inR _ from ⟨by omega, by omega⟩) ?_) | (refine ⟨_, _, _, c1, ?_⟩) | (refine ⟨_, c2, ?_⟩) | (refine ⟨[], [0, 0, 3, 7, 15, 31, 15, 127, 255, 511, 1023, 2047, 4095, 2047, 10239, 32767, 65535, 131071, 262143, 524287, 262143, 1310719, 4194303, 8388607], len_ok rfl (by kernel_rfl), ?_⟩) | (refine ⟨[], [0, 0, 2, 0, 8, 31, 63, 127, 127, 255, 1023], len_ok rfl (by kernel_rfl), ?_⟩) | (refine ⟨[], [0, 0, 2, 0, 8, 31, 63], len_ok rfl (by kernel_rfl), ?_⟩) | (refine ⟨[], [0, 0, 1, 7, 15], len_ok rfl (by kernel_rfl), ?_⟩) | (refine ⟨[], [0, 0, 3, 7], len_ok rfl (by kernel_rfl), ?_⟩) | (exact True.intro) | (refine And.intro (show eqT _ _ = true by kernel_rfl) ?_) | (refine And.intro rfl ?_) | (refine And.intro (And.intro (Nat.le_of_ble_eq_true rfl) rfl) ?_) | (refine And.intro (And.intro rfl rfl) ?_) | (refine And.intro (And.intro rfl (And.intro rfl rfl)) ?_) | (exact And.intro rfl (And.intro rfl rfl)) | (exact And.intro rfl rfl) | (refine br_lt ?_ ?_ <;> intro hBr <;> (first | (exfalso; omega) | (exfalso; contradiction) | (exfalso; exact hBr rfl) | skip)) | (refine br_lt_ ?_ ?_ <;> intro hBr <;> (first | (exfalso; omega) | (exfalso; contradiction) | (exfalso; exact hBr rfl) | skip)) | (refine br_le ?_ ?_ <;> intro hBr <;> (first | (exfalso; omega) | (exfalso; contradiction) | (exfalso; exact hBr rfl) | skip)) | (refine br_le_ ?_ ?_ <;> intro hBr <;> (first | (exfalso; omega) | (exfalso; contradiction) | (exfalso; exact hBr rfl) | skip)) | (refine br_eq ?_ ?_ <;> intro hBr <;> (first | (exfalso; omega) | (exfalso; contradiction) | (exfalso; exact hBr rfl) | skip)) | (refine br_eq_ ?_ ?_ <;> intro hBr <;> (first | (exfalso; omega) | (exfalso; contradiction) | (exfalso; exact hBr rfl) | skip)) | (refine br_seq ?_ ?_ <;> intro hBr <;> (first | (exfalso; omega) | (exfalso; contradiction) | (exfalso; exact hBr rfl) | skip)) | (refine br_seq_ ?_ ?_ <;> intro hBr <;> (first | (exfalso; omega) | (exfalso; contradiction) | (exfalso; exact hBr rfl) | skip)) | (refine br_not ?_) | (refine br_not_ ?_) | (refine br_and ?_) | (refine br_and_ ?_) | (refine And.intro (by omega) ?_) | (refine ⟨_, wrap_i64 (by omega), ?_⟩) | (refine ⟨_, wrap_u64 (by omega) (by omega), ?_⟩) | (refine ⟨_, wrap_u8 (by omega) (by omega), ?_⟩) | (refine ⟨_, wrap_u32 (by omega) (by omega), ?_⟩) | (refine ⟨_, wrap_u16 (by omega) (by omega), ?_⟩) | (refine ⟨_, rfl, ?_⟩) | (exact rfl)))
theorem tmod6 {k r : Nat} (h : k % 6 = r) : (k : Int).tmod 6 = (r : Int) := by
  show (k : Int).tmod ((6 : Nat) : Int) = _
  rw [← Int.ofNat_tmod, h]
theorem tmod6_ne {k r : Nat} (h : ¬ k % 6 = r) : ¬ (k : Int).tmod 6 = (r : Int) := by
  show ¬ (k : Int).tmod ((6 : Nat) : Int) = _
  rw [← Int.ofNat_tmod]; omega
/-- how all lies at the loop's head -/
def doneB (q : Pd) (L : List Key) (P : List Wr) (w : Int) (n : Nat) (l : List Rw) (k : Nat) : List ABlk :=
  [headN 3 L.length (pdV q 4 P) w, dkB n l k w, zdB, secB L] ++ pdB q P
theorem done_walk (n : Nat) (l : List DOp) (stf : Nat → St) (h1 : 1 ≤ n) (h2 : n ≤ 4096) (hl : l.length ≤ 1000) (hst0 : stf 0 = st0) (hst : ∀ i (h : i < l.length), stf (i + 1) = stepD n (stf i) l[i]) (hok : ∀ i, i ≤ l.length → (stf i).Ok n i) (hpl : ∀ o ∈ l, o.ok) :
    SM 16 [Z n, .vs l.length (dopC l)] [] [] (.tup [.ptr 0 0, dkA n (stf l.length).l (stf l.length).k (stf l.length).w, B true]) (dsk (stf l.length).q ((stf l.length).L n) ((stf l.length).P n) (stf l.length).w) := by
  have c1 := dnew_ok h1 h2
  have c2 := rnew_ok h1 h2
  refine SM_ Try.func16 (by kernel_rfl) rfl (Nat.le_of_ble_eq_true rfl) (Nat.zero_le _) ?_
  show avc Try.prog SP _ _ _ _ _ _
  dsimp only [avc, startS, Array.toList, Try.f16]
  repeat' ((try conv => whnf) <;> (first | (refine Hold.mk ?_) | (refine And.intro (fun _ => ?_) (fun h => Bool.noConfusion h)) | (refine And.intro (fun h => Bool.noConfusion h) (fun _ => ?_)) | (refine And.intro (Nat.le_of_ble_eq_true rfl) ?_) | (refine And.intro (fun _ => ?_) (fun h => Bool.noConfusion ((beq_self_eq_true _).symm.trans h))) | (refine And.intro (fun h => Bool.noConfusion ((bne_self_eq_false _).symm.trans h)) (fun _ => ?_)) | (refine And.intro (fun h => Bool.noConfusion ((beq_self_eq_true _).symm.trans h)) (fun _ => ?_)) | (refine And.intro (fun _ => ?_) (fun h => Bool.noConfusion ((bne_self_eq_false _).symm.trans h))) | (refine And.intro (show inR _ from ⟨by omega, by omega⟩) ?_) | (refine ⟨_, _, _, c1, ?_⟩) | (refine ⟨_, c2, ?_⟩) | (refine ⟨[], [0, 0, 3, 7, 15, 31, 15, 127, 255, 511, 1023, 2047, 4095, 2047, 10239, 32767, 65535, 131071, 262143, 524287, 262143, 1310719, 4194303, 8388607], len_ok rfl (by kernel_rfl), ?_⟩) | (refine ⟨[], [0, 0, 2, 0, 8, 31, 63, 127, 127, 255, 1023], len_ok rfl (by kernel_rfl), ?_⟩) | (refine ⟨[], [0, 0, 2, 0, 8, 31, 63], len_ok rfl (by kernel_rfl), ?_⟩) | (refine ⟨[], [0, 0, 1, 7, 15], len_ok rfl (by kernel_rfl), ?_⟩) | (refine ⟨[], [0, 0, 3, 7], len_ok rfl (by kernel_rfl), ?_⟩) | (exact True.intro) | (refine And.intro (show eqT _ _ = true by kernel_rfl) ?_) | (refine And.intro rfl ?_) | (refine And.intro (And.intro (Nat.le_of_ble_eq_true rfl) rfl) ?_) | (refine And.intro (And.intro rfl rfl) ?_) | (refine And.intro (And.intro rfl (And.intro rfl rfl)) ?_) | (exact And.intro rfl (And.intro rfl rfl)) | (exact And.intro rfl rfl) | (refine br_lt ?_ ?_ <;> intro hBr <;> (first | (exfalso; omega) | (exfalso; contradiction) | (exfalso; exact hBr rfl) | skip)) | (refine br_lt_ ?_ ?_ <;> intro hBr <;> (first | (exfalso; omega) | (exfalso; contradiction) | (exfalso; exact hBr rfl) | skip)) | (refine br_le ?_ ?_ <;> intro hBr <;> (first | (exfalso; omega) | (exfalso; contradiction) | (exfalso; exact hBr rfl) | skip)) | (refine br_le_ ?_ ?_ <;> intro hBr <;> (first | (exfalso; omega) | (exfalso; contradiction) | (exfalso; exact hBr rfl) | skip)) | (refine br_eq ?_ ?_ <;> intro hBr <;> (first | (exfalso; omega) | (exfalso; contradiction) | (exfalso; exact hBr rfl) | skip)) | (refine br_eq_ ?_ ?_ <;> intro hBr <;> (first | (exfalso; omega) | (exfalso; contradiction) | (exfalso; exact hBr rfl) | skip)) | (refine br_seq ?_ ?_ <;> intro hBr <;> (first | (exfalso; omega) | (exfalso; contradiction) | (exfalso; exact hBr rfl) | skip)) | (refine br_seq_ ?_ ?_ <;> intro hBr <;> (first | (exfalso; omega) | (exfalso; contradiction) | (exfalso; exact hBr rfl) | skip)) | (refine br_not ?_) | (refine br_not_ ?_) | (refine br_and ?_) | (refine br_and_ ?_) | (refine And.intro (by omega) ?_) | (refine ⟨_, wrap_i64 (by omega), ?_⟩) | (refine ⟨_, wrap_u64 (by omega) (by omega), ?_⟩) | (refine ⟨_, wrap_u8 (by omega) (by omega), ?_⟩) | (refine ⟨_, wrap_u32 (by omega) (by omega), ?_⟩) | (refine ⟨_, wrap_u16 (by omega) (by omega), ?_⟩) | (refine ⟨_, rfl, ?_⟩) | (exact rfl)))
  refine ⟨[11, 1, 7, 9, 5], [], fun vs bl => ∃ i : Nat, i ≤ l.length ∧ (vs = [Z i, .vs l.length (dopC l), .ptr 0 0, .ptr 1 0, .ptr 2 0] ∧ bl = doneB (stf i).q ((stf i).L n) ((stf i).P n) (stf i).w n (stf i).l (stf i).k), muL l.length, ?_, ?_⟩
  · exact ⟨0, by omega, rfl, by rw [hst0]; rfl⟩
  clear c1 c2 hst0
  rintro vs bl ⟨i, hi, rfl, rfl⟩
  have hn := hok i hi
  have hlen := hn.len
  have hw := hn.w
  have hk := hn.k
  have hLl := hn.L_len
  have hPl := St.P_len n (stf i)
  have hLs := hn.L_sec
  have hPo := hn.P_ok
  by_cases hlt : i < l.length
  · have hs := hst i hlt
    have hn2 := hok (i + 1) hlt
    have ha := dopA hlt
    have ct := text_ok l[i]
    have hp : l[i].ok := hpl _ (List.getElem_mem hlt)
    have hd : l.length - ((i : Int) + 1).toNat < l.length - (i : Int).toNat := by omega
    have hq := hn.q
    have hLn : (stf (i + 1)).L n = runW (stf (i + 1)).l (newL n) := rfl
    have hb : ∀ b, stf (i + 1) = b → doneB (stf (i + 1)).q ((stf (i + 1)).L n) ((stf (i + 1)).P n) (stf (i + 1)).w n (stf (i + 1)).l (stf (i + 1)).k = doneB b.q (b.L n) (b.P n) b.w n b.l b.k := fun b e => by rw [e]
    have hP2 := St.P_len n (stf (i + 1))
    have hq2 := hn2.q
    have cput := fun (m : Nat) (s : Key) (hm : m < n) (hs : s.length = 64) => And.intro (St.put_L hn hm hs) (St.put_P hn hm hs)
    have hcr := hn.crash l[i].plan
    have hcl := crashL_len l[i].plan hn
    have hfull := hn.full
    rw [hs] at hP2 hq2
    generalize hL : (stf i).L n = L at *
    generalize hP : (stf i).P n = P at *
    generalize ho : l[i] = o at *
    generalize stf i = a at *
    clear hst hok hn hn2 hpl ho
    by_cases k3 : o.kind % 6 = 3
    · have e : stepD n a o = ⟨.nil, a.l, a.l.length, a.w⟩ := if_pos k3
      have hb := hb _ (hs.trans e)
      rw [e] at hP2 hq2
      have hL2 : (⟨.nil, a.l, a.l.length, a.w⟩ : St).L n = L := hL
      generalize (⟨.nil, a.l, a.l.length, a.w⟩ : St).L n = L2 at *
      subst hL2
      generalize (⟨.nil, a.l, a.l.length, a.w⟩ : St).P n = P2 at *
      obtain ⟨q, x, k, w⟩ := a
      dsimp only at *
      have hP20 : P2 = [] := hq2
      have cy : SM 20 [.ptr 0 0] (dsk q L2 P w) [.ptr 0 0] (Z 0) (dsk .nil L2 P2 w) := by rw [hP20]; exact dsync_ok q L2 P w
      have cp := dpending_ok .nil L2 P2 w hP20
      have cw := dwrites_ok .nil L2 P2 w
      have cz := dsize_ok .nil L2 P2 w
      have ry := rsync_ok n x k w
      have rp := rpending_ok n x x.length w (Nat.le_refl _) (by omega)
      have hPn : (P2.length : Int) = ((x.length - x.length : Nat) : Int) := by omega
      obtain ⟨kd, m, s, od, u, t, c⟩ := o
      dsimp only at *
      change ([.ex (.int .u8 (kd : Int)), Z m, T s, B od, U u, Z t, Z c] : List AV).length = _ ∧ ∀ k v, ([.ex (.int .u8 (kd : Int)), Z m, T s, B od, U u, Z t, Z c] : List AV)[k]? = some v → _ at ha
      change SP _ [.ex (.agg #[.int .u8 (kd : Int), .int .i64 m, .string (bs s), .bool od, .int .u64 u, .int .i64 t, .int .i64 c])] _ at ct
      have k3' : (kd : Int).tmod 6 = 3 := tmod6 k3
      clear hs hfull hcr hcl cput hL hP e hP20 hPo hLs hq2
      cases q
      all_goals
        repeat' ((try conv => whnf) <;> (first | (refine Hold.mk ?_) | (refine And.intro (fun _ => ?_) (fun h => Bool.noConfusion h)) | (refine And.intro (fun h => Bool.noConfusion h) (fun _ => ?_)) | (refine And.intro (Nat.le_of_ble_eq_true rfl) ?_) | (refine And.intro (fun _ => ?_) (fun h => Bool.noConfusion ((beq_self_eq_true _).symm.trans h))) | (refine And.intro (fun h => Bool.noConfusion ((bne_self_eq_false _).symm.trans h)) (fun _ => ?_)) | (refine And.intro (fun h => Bool.noConfusion ((beq_self_eq_true _).symm.trans h)) (fun _ => ?_)) | (refine And.intro (fun _ => ?_) (fun h => Bool.noConfusion ((bne_self_eq_false _).symm.trans h))) | (refine And.intro (show inR _ from ⟨by omega, by omega⟩) ?_) | (refine ⟨_, ha, ?_⟩) | (refine ⟨_, ct, ?_⟩) | (refine ⟨_, _, _, cy, ?_⟩) | (refine ⟨_, _, _, cp, ?_⟩) | (refine ⟨_, _, _, cw, ?_⟩) | (refine ⟨_, _, _, cz, ?_⟩) | (refine ⟨_, ry, ?_⟩) | (refine ⟨_, rp, ?_⟩) | (refine ⟨[], [0, 0, 3, 7, 15, 31, 15, 127, 255, 511, 1023, 2047, 4095, 2047, 10239, 32767, 65535, 131071, 262143, 524287, 262143, 1310719, 4194303, 8388607], len_ok rfl (by kernel_rfl), ?_⟩) | (refine ⟨[], [0, 0, 2, 0, 8, 31, 63, 127, 127, 255, 1023], len_ok rfl (by kernel_rfl), ?_⟩) | (refine ⟨[], [0, 0, 2, 0, 8, 31, 63], len_ok rfl (by kernel_rfl), ?_⟩) | (refine ⟨[], [0, 0, 1, 7, 15], len_ok rfl (by kernel_rfl), ?_⟩) | (refine ⟨[], [0, 0, 3, 7], len_ok rfl (by kernel_rfl), ?_⟩) | (exact True.intro) | (refine And.intro (show eqT _ _ = true by kernel_rfl) ?_) | (refine And.intro rfl ?_) | (refine And.intro (And.intro (Nat.le_of_ble_eq_true rfl) rfl) ?_) | (refine And.intro (And.intro rfl rfl) ?_) | (refine And.intro (And.intro rfl (And.intro rfl rfl)) ?_) | (exact And.intro rfl (And.intro rfl rfl)) | (exact And.intro rfl rfl) | (refine br_lt ?_ ?_ <;> intro hBr <;> (first | (exfalso; omega) | (exfalso; contradiction) | (exfalso; exact hBr rfl) | skip)) | (refine br_lt_ ?_ ?_ <;> intro hBr <;> (first | (exfalso; omega) | (exfalso; contradiction) | (exfalso; exact hBr rfl) | skip)) | (refine br_le ?_ ?_ <;> intro hBr <;> (first | (exfalso; omega) | (exfalso; contradiction) | (exfalso; exact hBr rfl) | skip)) | (refine br_le_ ?_ ?_ <;> intro hBr <;> (first | (exfalso; omega) | (exfalso; contradiction) | (exfalso; exact hBr rfl) | skip)) | (refine br_eq ?_ ?_ <;> intro hBr <;> (first | (exfalso; omega) | (exfalso; contradiction) | (exfalso; exact hBr rfl) | skip)) | (refine br_eq_ ?_ ?_ <;> intro hBr <;> (first | (exfalso; omega) | (exfalso; contradiction) | (exfalso; exact hBr rfl) | skip)) | (refine br_seq ?_ ?_ <;> intro hBr <;> (first | (exfalso; omega) | (exfalso; contradiction) | (exfalso; exact hBr rfl) | skip)) | (refine br_seq_ ?_ ?_ <;> intro hBr <;> (first | (exfalso; omega) | (exfalso; contradiction) | (exfalso; exact hBr rfl) | skip)) | (refine br_not ?_) | (refine br_not_ ?_) | (refine br_and ?_) | (refine br_and_ ?_) | (refine And.intro (by omega) ?_) | (refine ⟨_, wrap_i64 (by omega), ?_⟩) | (refine ⟨_, wrap_u64 (by omega) (by omega), ?_⟩) | (refine ⟨_, wrap_u8 (by omega) (by omega), ?_⟩) | (refine ⟨_, wrap_u32 (by omega) (by omega), ?_⟩) | (refine ⟨_, wrap_u16 (by omega) (by omega), ?_⟩) | (refine ⟨_, rfl, ?_⟩) | (exact rfl)))
        exact ⟨⟨i + 1, by omega, rfl, by rw [hb]; rfl⟩, hd⟩
    by_cases k4 : o.kind % 6 = 4
    · have e : stepD n a o = ⟨.nil, crashL o.plan a, (crashL o.plan a).length, a.w⟩ := (if_neg k3).trans (if_pos k4)
      have hb := hb _ (hs.trans e)
      rw [e] at hP2 hq2
      have hL2 : (⟨.nil, crashL o.plan a, (crashL o.plan a).length, a.w⟩ : St).L n = runW (crashL o.plan a) (newL n) := rfl
      rw [← hcr] at hL2
      generalize (⟨.nil, crashL o.plan a, (crashL o.plan a).length, a.w⟩ : St).L n = L2 at *
      generalize (⟨.nil, crashL o.plan a, (crashL o.plan a).length, a.w⟩ : St).P n = P2 at *
      have hL2l : L2.length = n := by rw [hL2, keepL_len, undoL_len, hLl]
      have hc : crashL o.plan a = a.l.take a.k ++ keptL o.plan 0 (a.l.drop a.k) := rfl
      generalize crashL o.plan a = x2 at *
      obtain ⟨q, x, k, w⟩ := a
      dsimp only at *
      have hP20 : P2 = [] := hq2
      have cy : SM 21 [.ptr 0 0, planA o.plan] (dsk q L P w) [.ptr 0 0] (Z 0) (dsk .nil L2 P2 w) := by rw [hP20, hL2]; exact dcrash_ok q L P w o.plan hp hq (by omega) (by rw [hLl]; exact hPo) hLs
      have cp := dpending_ok .nil L2 P2 w hP20
      have cw := dwrites_ok .nil L2 P2 w
      have cz := dsize_ok .nil L2 P2 w
      have ry := rcrash_ok n x k w o.plan hp hk (by omega) hfull
      rw [← hc] at ry
      have rp := rpending_ok n x2 x2.length w (Nat.le_refl _) (by omega)
      have hPn : (P2.length : Int) = ((x2.length - x2.length : Nat) : Int) := by omega
      obtain ⟨kd, m, s, od, u, t, c⟩ := o
      dsimp only at *
      change ([.ex (.int .u8 (kd : Int)), Z m, T s, B od, U u, Z t, Z c] : List AV).length = _ ∧ ∀ k v, ([.ex (.int .u8 (kd : Int)), Z m, T s, B od, U u, Z t, Z c] : List AV)[k]? = some v → _ at ha
      change SP _ [.ex (.agg #[.int .u8 (kd : Int), .int .i64 m, .string (bs s), .bool od, .int .u64 u, .int .i64 t, .int .i64 c])] _ at ct
      have k4' : (kd : Int).tmod 6 = 4 := tmod6 k4
      clear hs hfull hcr hcl cput hL hP e hP20 hPo hLs hq2 hL2 hc
      cases q
      all_goals
        repeat' ((try conv => whnf) <;> (first | (refine Hold.mk ?_) | (refine And.intro (fun _ => ?_) (fun h => Bool.noConfusion h)) | (refine And.intro (fun h => Bool.noConfusion h) (fun _ => ?_)) | (refine And.intro (Nat.le_of_ble_eq_true rfl) ?_) | (refine And.intro (fun _ => ?_) (fun h => Bool.noConfusion ((beq_self_eq_true _).symm.trans h))) | (refine And.intro (fun h => Bool.noConfusion ((bne_self_eq_false _).symm.trans h)) (fun _ => ?_)) | (refine And.intro (fun h => Bool.noConfusion ((beq_self_eq_true _).symm.trans h)) (fun _ => ?_)) | (refine And.intro (fun _ => ?_) (fun h => Bool.noConfusion ((bne_self_eq_false _).symm.trans h))) | (refine And.intro (show inR _ from ⟨by omega, by omega⟩) ?_) | (refine ⟨_, ha, ?_⟩) | (refine ⟨_, ct, ?_⟩) | (refine ⟨_, _, _, cy, ?_⟩) | (refine ⟨_, _, _, cp, ?_⟩) | (refine ⟨_, _, _, cw, ?_⟩) | (refine ⟨_, _, _, cz, ?_⟩) | (refine ⟨_, ry, ?_⟩) | (refine ⟨_, rp, ?_⟩) | (refine ⟨[], [0, 0, 3, 7, 15, 31, 15, 127, 255, 511, 1023, 2047, 4095, 2047, 10239, 32767, 65535, 131071, 262143, 524287, 262143, 1310719, 4194303, 8388607], len_ok rfl (by kernel_rfl), ?_⟩) | (refine ⟨[], [0, 0, 2, 0, 8, 31, 63, 127, 127, 255, 1023], len_ok rfl (by kernel_rfl), ?_⟩) | (refine ⟨[], [0, 0, 2, 0, 8, 31, 63], len_ok rfl (by kernel_rfl), ?_⟩) | (refine ⟨[], [0, 0, 1, 7, 15], len_ok rfl (by kernel_rfl), ?_⟩) | (refine ⟨[], [0, 0, 3, 7], len_ok rfl (by kernel_rfl), ?_⟩) | (exact True.intro) | (refine And.intro (show eqT _ _ = true by kernel_rfl) ?_) | (refine And.intro rfl ?_) | (refine And.intro (And.intro (Nat.le_of_ble_eq_true rfl) rfl) ?_) | (refine And.intro (And.intro rfl rfl) ?_) | (refine And.intro (And.intro rfl (And.intro rfl rfl)) ?_) | (exact And.intro rfl (And.intro rfl rfl)) | (exact And.intro rfl rfl) | (refine br_lt ?_ ?_ <;> intro hBr <;> (first | (exfalso; omega) | (exfalso; contradiction) | (exfalso; exact hBr rfl) | skip)) | (refine br_lt_ ?_ ?_ <;> intro hBr <;> (first | (exfalso; omega) | (exfalso; contradiction) | (exfalso; exact hBr rfl) | skip)) | (refine br_le ?_ ?_ <;> intro hBr <;> (first | (exfalso; omega) | (exfalso; contradiction) | (exfalso; exact hBr rfl) | skip)) | (refine br_le_ ?_ ?_ <;> intro hBr <;> (first | (exfalso; omega) | (exfalso; contradiction) | (exfalso; exact hBr rfl) | skip)) | (refine br_eq ?_ ?_ <;> intro hBr <;> (first | (exfalso; omega) | (exfalso; contradiction) | (exfalso; exact hBr rfl) | skip)) | (refine br_eq_ ?_ ?_ <;> intro hBr <;> (first | (exfalso; omega) | (exfalso; contradiction) | (exfalso; exact hBr rfl) | skip)) | (refine br_seq ?_ ?_ <;> intro hBr <;> (first | (exfalso; omega) | (exfalso; contradiction) | (exfalso; exact hBr rfl) | skip)) | (refine br_seq_ ?_ ?_ <;> intro hBr <;> (first | (exfalso; omega) | (exfalso; contradiction) | (exfalso; exact hBr rfl) | skip)) | (refine br_not ?_) | (refine br_not_ ?_) | (refine br_and ?_) | (refine br_and_ ?_) | (refine And.intro (by omega) ?_) | (refine ⟨_, wrap_i64 (by omega), ?_⟩) | (refine ⟨_, wrap_u64 (by omega) (by omega), ?_⟩) | (refine ⟨_, wrap_u8 (by omega) (by omega), ?_⟩) | (refine ⟨_, wrap_u32 (by omega) (by omega), ?_⟩) | (refine ⟨_, wrap_u16 (by omega) (by omega), ?_⟩) | (refine ⟨_, rfl, ?_⟩) | (exact rfl)))
        exact ⟨⟨i + 1, by omega, rfl, by rw [hb]; rfl⟩, hd⟩
    by_cases k5 : o.kind % 6 = 5
    · have e : stepD n a o = ⟨a.q.right, a.l, a.k, a.w⟩ := (if_neg k3).trans ((if_neg k4).trans (if_pos k5))
      have hb := hb _ (hs.trans e)
      rw [e] at hP2 hq2
      have hL2 : (⟨a.q.right, a.l, a.k, a.w⟩ : St).L n = L := hL
      have hP3 : (⟨a.q.right, a.l, a.k, a.w⟩ : St).P n = P := hP
      rw [hL2, hP3] at hb
      rw [hP3] at hq2 hP2
      clear hL2 hP3
      obtain ⟨q, x, k, w⟩ := a
      dsimp only at *
      have cy := dfork_ok q L P w hq (by omega) (by omega)
      have cp := dpending_ok q.right L P w hq2
      have cw := dwrites_ok q.right L P w
      have cz := dsize_ok q.right L P w
      have rp := rpending_ok n x k w hk (by omega)
      have hPn : (P.length : Int) = ((x.length - k : Nat) : Int) := by omega
      obtain ⟨kd, m, s, od, u, t, c⟩ := o
      dsimp only at *
      change ([.ex (.int .u8 (kd : Int)), Z m, T s, B od, U u, Z t, Z c] : List AV).length = _ ∧ ∀ k v, ([.ex (.int .u8 (kd : Int)), Z m, T s, B od, U u, Z t, Z c] : List AV)[k]? = some v → _ at ha
      change SP _ [.ex (.agg #[.int .u8 (kd : Int), .int .i64 m, .string (bs s), .bool od, .int .u64 u, .int .i64 t, .int .i64 c])] _ at ct
      have k5' : (kd : Int).tmod 6 = 5 := tmod6 k5
      clear hs hfull hcr hcl cput hL hP e hPo hLs hq2 
      cases q
      all_goals
        repeat' ((try conv => whnf) <;> (first | (refine Hold.mk ?_) | (refine And.intro (fun _ => ?_) (fun h => Bool.noConfusion h)) | (refine And.intro (fun h => Bool.noConfusion h) (fun _ => ?_)) | (refine And.intro (Nat.le_of_ble_eq_true rfl) ?_) | (refine And.intro (fun _ => ?_) (fun h => Bool.noConfusion ((beq_self_eq_true _).symm.trans h))) | (refine And.intro (fun h => Bool.noConfusion ((bne_self_eq_false _).symm.trans h)) (fun _ => ?_)) | (refine And.intro (fun h => Bool.noConfusion ((beq_self_eq_true _).symm.trans h)) (fun _ => ?_)) | (refine And.intro (fun _ => ?_) (fun h => Bool.noConfusion ((bne_self_eq_false _).symm.trans h))) | (refine And.intro (show inR _ from ⟨by omega, by omega⟩) ?_) | (refine ⟨_, ha, ?_⟩) | (refine ⟨_, ct, ?_⟩) | (refine ⟨_, _, _, cy, ?_⟩) | (refine ⟨_, _, _, cp, ?_⟩) | (refine ⟨_, _, _, cw, ?_⟩) | (refine ⟨_, _, _, cz, ?_⟩) | (refine ⟨_, rp, ?_⟩) | (refine ⟨[], [0, 0, 3, 7, 15, 31, 15, 127, 255, 511, 1023, 2047, 4095, 2047, 10239, 32767, 65535, 131071, 262143, 524287, 262143, 1310719, 4194303, 8388607], len_ok rfl (by kernel_rfl), ?_⟩) | (refine ⟨[], [0, 0, 2, 0, 8, 31, 63, 127, 127, 255, 1023], len_ok rfl (by kernel_rfl), ?_⟩) | (refine ⟨[], [0, 0, 2, 0, 8, 31, 63], len_ok rfl (by kernel_rfl), ?_⟩) | (refine ⟨[], [0, 0, 1, 7, 15], len_ok rfl (by kernel_rfl), ?_⟩) | (refine ⟨[], [0, 0, 3, 7], len_ok rfl (by kernel_rfl), ?_⟩) | (exact True.intro) | (refine And.intro (show eqT _ _ = true by kernel_rfl) ?_) | (refine And.intro rfl ?_) | (refine And.intro (And.intro (Nat.le_of_ble_eq_true rfl) rfl) ?_) | (refine And.intro (And.intro rfl rfl) ?_) | (refine And.intro (And.intro rfl (And.intro rfl rfl)) ?_) | (exact And.intro rfl (And.intro rfl rfl)) | (exact And.intro rfl rfl) | (refine br_lt ?_ ?_ <;> intro hBr <;> (first | (exfalso; omega) | (exfalso; contradiction) | (exfalso; exact hBr rfl) | skip)) | (refine br_lt_ ?_ ?_ <;> intro hBr <;> (first | (exfalso; omega) | (exfalso; contradiction) | (exfalso; exact hBr rfl) | skip)) | (refine br_le ?_ ?_ <;> intro hBr <;> (first | (exfalso; omega) | (exfalso; contradiction) | (exfalso; exact hBr rfl) | skip)) | (refine br_le_ ?_ ?_ <;> intro hBr <;> (first | (exfalso; omega) | (exfalso; contradiction) | (exfalso; exact hBr rfl) | skip)) | (refine br_eq ?_ ?_ <;> intro hBr <;> (first | (exfalso; omega) | (exfalso; contradiction) | (exfalso; exact hBr rfl) | skip)) | (refine br_eq_ ?_ ?_ <;> intro hBr <;> (first | (exfalso; omega) | (exfalso; contradiction) | (exfalso; exact hBr rfl) | skip)) | (refine br_seq ?_ ?_ <;> intro hBr <;> (first | (exfalso; omega) | (exfalso; contradiction) | (exfalso; exact hBr rfl) | skip)) | (refine br_seq_ ?_ ?_ <;> intro hBr <;> (first | (exfalso; omega) | (exfalso; contradiction) | (exfalso; exact hBr rfl) | skip)) | (refine br_not ?_) | (refine br_not_ ?_) | (refine br_and ?_) | (refine br_and_ ?_) | (refine And.intro (by omega) ?_) | (refine ⟨_, wrap_i64 (by omega), ?_⟩) | (refine ⟨_, wrap_u64 (by omega) (by omega), ?_⟩) | (refine ⟨_, wrap_u8 (by omega) (by omega), ?_⟩) | (refine ⟨_, wrap_u32 (by omega) (by omega), ?_⟩) | (refine ⟨_, wrap_u16 (by omega) (by omega), ?_⟩) | (refine ⟨_, rfl, ?_⟩) | (exact rfl)))
        exact ⟨⟨i + 1, by omega, rfl, by rw [hb]; rfl⟩, hd⟩
    by_cases hc : 0 ≤ o.n ∧ o.n < n ∧ (textD o).length = 64
    · obtain ⟨m, hm⟩ : ∃ m : Nat, o.n = m := ⟨o.n.toNat, by omega⟩
      have e : stepD n a o = ⟨a.q.next, a.l ++ [(m, textD o)], a.k, a.w + 1⟩ := by
        rw [show m = o.n.toNat by omega]
        exact (if_neg k3).trans ((if_neg k4).trans ((if_neg k5).trans (if_pos hc)))
      have hb := hb _ (hs.trans e)
      rw [e] at hP2 hq2
      obtain ⟨p1, p2⟩ := cput m (textD o) (by omega) hc.2.2
      have hmL : m < L.length := by omega
      rw [secGet hmL] at p2
      obtain ⟨q, x, k, w⟩ := a
      dsimp only at *
      have cy := dwrite_yes q L P w (textD o) hmL hc.2.2 hq (by omega) (by omega) (by omega)
      rw [← p1, ← p2] at cy
      have hL2l : ((⟨q.next, x ++ [(m, textD o)], k, w + 1⟩ : St).L n).length = n := by rw [p1, List.length_set, hLl]
      clear p1 p2
      generalize (⟨q.next, x ++ [(m, textD o)], k, w + 1⟩ : St).L n = L2 at *
      generalize (⟨q.next, x ++ [(m, textD o)], k, w + 1⟩ : St).P n = P2 at *
      have cp := dpending_ok q.next L2 P2 ((w : Int) + 1) hq2
      have cw := dwrites_ok q.next L2 P2 ((w : Int) + 1)
      have cz := dsize_ok q.next L2 P2 ((w : Int) + 1)
      have ry := rput_yes (m := m) n x k w (textD o) (by omega) hc.2.2 (by omega) (by omega) (by omega)
      have rp := rpending_ok n (x ++ [(m, textD o)]) k ((w : Int) + 1) (by rw [List.length_append]; omega) (by rw [List.length_append]; show _ + 1 ≤ _; omega)
      have hPn : (P2.length : Int) = (((x ++ [(m, textD o)]).length - k : Nat) : Int) := by omega
      generalize textD o = tx at *
      generalize x ++ [(m, tx)] = x2 at *
      obtain ⟨kd, m', s, od, u, t, c⟩ := o
      dsimp only at *
      change ([.ex (.int .u8 (kd : Int)), Z m', T s, B od, U u, Z t, Z c] : List AV).length = _ ∧ ∀ k v, ([.ex (.int .u8 (kd : Int)), Z m', T s, B od, U u, Z t, Z c] : List AV)[k]? = some v → _ at ha
      change SP _ [.ex (.agg #[.int .u8 (kd : Int), .int .i64 m', .string (bs s), .bool od, .int .u64 u, .int .i64 t, .int .i64 c])] _ at ct
      subst hm
      have n3 := tmod6_ne k3
      have n4 := tmod6_ne k4
      have n5 := tmod6_ne k5
      clear hs hfull hcr hcl cput hL hP e hPo hLs hq2 hc
      cases q
      all_goals
        repeat' ((try conv => whnf) <;> (first | (refine Hold.mk ?_) | (refine And.intro (fun _ => ?_) (fun h => Bool.noConfusion h)) | (refine And.intro (fun h => Bool.noConfusion h) (fun _ => ?_)) | (refine And.intro (Nat.le_of_ble_eq_true rfl) ?_) | (refine And.intro (fun _ => ?_) (fun h => Bool.noConfusion ((beq_self_eq_true _).symm.trans h))) | (refine And.intro (fun h => Bool.noConfusion ((bne_self_eq_false _).symm.trans h)) (fun _ => ?_)) | (refine And.intro (fun h => Bool.noConfusion ((beq_self_eq_true _).symm.trans h)) (fun _ => ?_)) | (refine And.intro (fun _ => ?_) (fun h => Bool.noConfusion ((bne_self_eq_false _).symm.trans h))) | (refine And.intro (show inR _ from ⟨by omega, by omega⟩) ?_) | (refine ⟨_, ha, ?_⟩) | (refine ⟨_, ct, ?_⟩) | (refine ⟨_, _, _, cy, ?_⟩) | (refine ⟨_, _, _, cp, ?_⟩) | (refine ⟨_, _, _, cw, ?_⟩) | (refine ⟨_, _, _, cz, ?_⟩) | (refine ⟨_, ry, ?_⟩) | (refine ⟨_, rp, ?_⟩) | (refine ⟨[], [0, 0, 3, 7, 15, 31, 15, 127, 255, 511, 1023, 2047, 4095, 2047, 10239, 32767, 65535, 131071, 262143, 524287, 262143, 1310719, 4194303, 8388607], len_ok rfl (by kernel_rfl), ?_⟩) | (refine ⟨[], [0, 0, 2, 0, 8, 31, 63, 127, 127, 255, 1023], len_ok rfl (by kernel_rfl), ?_⟩) | (refine ⟨[], [0, 0, 2, 0, 8, 31, 63], len_ok rfl (by kernel_rfl), ?_⟩) | (refine ⟨[], [0, 0, 1, 7, 15], len_ok rfl (by kernel_rfl), ?_⟩) | (refine ⟨[], [0, 0, 3, 7], len_ok rfl (by kernel_rfl), ?_⟩) | (exact True.intro) | (refine And.intro (show eqT _ _ = true by kernel_rfl) ?_) | (refine And.intro rfl ?_) | (refine And.intro (And.intro (Nat.le_of_ble_eq_true rfl) rfl) ?_) | (refine And.intro (And.intro rfl rfl) ?_) | (refine And.intro (And.intro rfl (And.intro rfl rfl)) ?_) | (exact And.intro rfl (And.intro rfl rfl)) | (exact And.intro rfl rfl) | (refine br_lt ?_ ?_ <;> intro hBr <;> (first | (exfalso; omega) | (exfalso; contradiction) | (exfalso; exact hBr rfl) | skip)) | (refine br_lt_ ?_ ?_ <;> intro hBr <;> (first | (exfalso; omega) | (exfalso; contradiction) | (exfalso; exact hBr rfl) | skip)) | (refine br_le ?_ ?_ <;> intro hBr <;> (first | (exfalso; omega) | (exfalso; contradiction) | (exfalso; exact hBr rfl) | skip)) | (refine br_le_ ?_ ?_ <;> intro hBr <;> (first | (exfalso; omega) | (exfalso; contradiction) | (exfalso; exact hBr rfl) | skip)) | (refine br_eq ?_ ?_ <;> intro hBr <;> (first | (exfalso; omega) | (exfalso; contradiction) | (exfalso; exact hBr rfl) | skip)) | (refine br_eq_ ?_ ?_ <;> intro hBr <;> (first | (exfalso; omega) | (exfalso; contradiction) | (exfalso; exact hBr rfl) | skip)) | (refine br_seq ?_ ?_ <;> intro hBr <;> (first | (exfalso; omega) | (exfalso; contradiction) | (exfalso; exact hBr rfl) | skip)) | (refine br_seq_ ?_ ?_ <;> intro hBr <;> (first | (exfalso; omega) | (exfalso; contradiction) | (exfalso; exact hBr rfl) | skip)) | (refine br_not ?_) | (refine br_not_ ?_) | (refine br_and ?_) | (refine br_and_ ?_) | (refine And.intro (by omega) ?_) | (refine ⟨_, wrap_i64 (by omega), ?_⟩) | (refine ⟨_, wrap_u64 (by omega) (by omega), ?_⟩) | (refine ⟨_, wrap_u8 (by omega) (by omega), ?_⟩) | (refine ⟨_, wrap_u32 (by omega) (by omega), ?_⟩) | (refine ⟨_, wrap_u16 (by omega) (by omega), ?_⟩) | (refine ⟨_, rfl, ?_⟩) | (exact rfl)))
        exact ⟨⟨i + 1, by omega, rfl, by rw [hb]; rfl⟩, hd⟩
    · have e : stepD n a o = a := (if_neg k3).trans ((if_neg k4).trans ((if_neg k5).trans (if_neg hc)))
      have hb := hb _ (hs.trans e)
      rw [hL, hP] at hb
      obtain ⟨q, x, k, w⟩ := a
      dsimp only at *
      have cp := dpending_ok q L P w hq
      have cw := dwrites_ok q L P w
      have cz := dsize_ok q L P w
      have rp := rpending_ok n x k w hk (by omega)
      have hPn : (P.length : Int) = ((x.length - k : Nat) : Int) := by omega
      have n3 := tmod6_ne k3
      have n4 := tmod6_ne k4
      have n5 := tmod6_ne k5
      by_cases hr : o.n < 0 ∨ (n : Int) ≤ o.n
      · have cy := dwrite_range q L P w (textD o) (n := o.n) (by omega)
        have ry := rput_range n x k w (textD o) hr
        generalize textD o = tx at *
        obtain ⟨kd, m, s, od, u, t, c⟩ := o
        dsimp only at *
        change ([.ex (.int .u8 (kd : Int)), Z m, T s, B od, U u, Z t, Z c] : List AV).length = _ ∧ ∀ k v, ([.ex (.int .u8 (kd : Int)), Z m, T s, B od, U u, Z t, Z c] : List AV)[k]? = some v → _ at ha
        change SP _ [.ex (.agg #[.int .u8 (kd : Int), .int .i64 m, .string (bs s), .bool od, .int .u64 u, .int .i64 t, .int .i64 c])] _ at ct
        clear hs hfull hcr hcl cput hL hP e hPo hLs hq2 hc
        cases q
        all_goals
          repeat' ((try conv => whnf) <;> (first | (refine Hold.mk ?_) | (refine And.intro (fun _ => ?_) (fun h => Bool.noConfusion h)) | (refine And.intro (fun h => Bool.noConfusion h) (fun _ => ?_)) | (refine And.intro (Nat.le_of_ble_eq_true rfl) ?_) | (refine And.intro (fun _ => ?_) (fun h => Bool.noConfusion ((beq_self_eq_true _).symm.trans h))) | (refine And.intro (fun h => Bool.noConfusion ((bne_self_eq_false _).symm.trans h)) (fun _ => ?_)) | (refine And.intro (fun h => Bool.noConfusion ((beq_self_eq_true _).symm.trans h)) (fun _ => ?_)) | (refine And.intro (fun _ => ?_) (fun h => Bool.noConfusion ((bne_self_eq_false _).symm.trans h))) | (refine And.intro (show inR _ from ⟨by omega, by omega⟩) ?_) | (refine ⟨_, ha, ?_⟩) | (refine ⟨_, ct, ?_⟩) | (refine ⟨_, _, _, cy, ?_⟩) | (refine ⟨_, _, _, cp, ?_⟩) | (refine ⟨_, _, _, cw, ?_⟩) | (refine ⟨_, _, _, cz, ?_⟩) | (refine ⟨_, ry, ?_⟩) | (refine ⟨_, rp, ?_⟩) | (refine ⟨[], [0, 0, 3, 7, 15, 31, 15, 127, 255, 511, 1023, 2047, 4095, 2047, 10239, 32767, 65535, 131071, 262143, 524287, 262143, 1310719, 4194303, 8388607], len_ok rfl (by kernel_rfl), ?_⟩) | (refine ⟨[], [0, 0, 2, 0, 8, 31, 63, 127, 127, 255, 1023], len_ok rfl (by kernel_rfl), ?_⟩) | (refine ⟨[], [0, 0, 2, 0, 8, 31, 63], len_ok rfl (by kernel_rfl), ?_⟩) | (refine ⟨[], [0, 0, 1, 7, 15], len_ok rfl (by kernel_rfl), ?_⟩) | (refine ⟨[], [0, 0, 3, 7], len_ok rfl (by kernel_rfl), ?_⟩) | (exact True.intro) | (refine And.intro (show eqT _ _ = true by kernel_rfl) ?_) | (refine And.intro rfl ?_) | (refine And.intro (And.intro (Nat.le_of_ble_eq_true rfl) rfl) ?_) | (refine And.intro (And.intro rfl rfl) ?_) | (refine And.intro (And.intro rfl (And.intro rfl rfl)) ?_) | (exact And.intro rfl (And.intro rfl rfl)) | (exact And.intro rfl rfl) | (refine br_lt ?_ ?_ <;> intro hBr <;> (first | (exfalso; omega) | (exfalso; contradiction) | (exfalso; exact hBr rfl) | skip)) | (refine br_lt_ ?_ ?_ <;> intro hBr <;> (first | (exfalso; omega) | (exfalso; contradiction) | (exfalso; exact hBr rfl) | skip)) | (refine br_le ?_ ?_ <;> intro hBr <;> (first | (exfalso; omega) | (exfalso; contradiction) | (exfalso; exact hBr rfl) | skip)) | (refine br_le_ ?_ ?_ <;> intro hBr <;> (first | (exfalso; omega) | (exfalso; contradiction) | (exfalso; exact hBr rfl) | skip)) | (refine br_eq ?_ ?_ <;> intro hBr <;> (first | (exfalso; omega) | (exfalso; contradiction) | (exfalso; exact hBr rfl) | skip)) | (refine br_eq_ ?_ ?_ <;> intro hBr <;> (first | (exfalso; omega) | (exfalso; contradiction) | (exfalso; exact hBr rfl) | skip)) | (refine br_seq ?_ ?_ <;> intro hBr <;> (first | (exfalso; omega) | (exfalso; contradiction) | (exfalso; exact hBr rfl) | skip)) | (refine br_seq_ ?_ ?_ <;> intro hBr <;> (first | (exfalso; omega) | (exfalso; contradiction) | (exfalso; exact hBr rfl) | skip)) | (refine br_not ?_) | (refine br_not_ ?_) | (refine br_and ?_) | (refine br_and_ ?_) | (refine And.intro (by omega) ?_) | (refine ⟨_, wrap_i64 (by omega), ?_⟩) | (refine ⟨_, wrap_u64 (by omega) (by omega), ?_⟩) | (refine ⟨_, wrap_u8 (by omega) (by omega), ?_⟩) | (refine ⟨_, wrap_u32 (by omega) (by omega), ?_⟩) | (refine ⟨_, wrap_u16 (by omega) (by omega), ?_⟩) | (refine ⟨_, rfl, ?_⟩) | (exact rfl)))
          exact ⟨⟨i + 1, by omega, rfl, by rw [hb]; rfl⟩, hd⟩
      · have hts : ¬ (bs (textD o)).size = 64 := by rw [bs_size]; omega
        have cy := dwrite_arg q L P w (textD o) (n := o.n) (by omega) (by omega) hts
        have ry := rput_arg n x k w (textD o) (m := o.n) (by omega) (by omega) hts
        generalize textD o = tx at *
        obtain ⟨kd, m, s, od, u, t, c⟩ := o
        dsimp only at *
        change ([.ex (.int .u8 (kd : Int)), Z m, T s, B od, U u, Z t, Z c] : List AV).length = _ ∧ ∀ k v, ([.ex (.int .u8 (kd : Int)), Z m, T s, B od, U u, Z t, Z c] : List AV)[k]? = some v → _ at ha
        change SP _ [.ex (.agg #[.int .u8 (kd : Int), .int .i64 m, .string (bs s), .bool od, .int .u64 u, .int .i64 t, .int .i64 c])] _ at ct
        clear hs hfull hcr hcl cput hL hP e hPo hLs hq2 hc hts
        cases q
        all_goals
          repeat' ((try conv => whnf) <;> (first | (refine Hold.mk ?_) | (refine And.intro (fun _ => ?_) (fun h => Bool.noConfusion h)) | (refine And.intro (fun h => Bool.noConfusion h) (fun _ => ?_)) | (refine And.intro (Nat.le_of_ble_eq_true rfl) ?_) | (refine And.intro (fun _ => ?_) (fun h => Bool.noConfusion ((beq_self_eq_true _).symm.trans h))) | (refine And.intro (fun h => Bool.noConfusion ((bne_self_eq_false _).symm.trans h)) (fun _ => ?_)) | (refine And.intro (fun h => Bool.noConfusion ((beq_self_eq_true _).symm.trans h)) (fun _ => ?_)) | (refine And.intro (fun _ => ?_) (fun h => Bool.noConfusion ((bne_self_eq_false _).symm.trans h))) | (refine And.intro (show inR _ from ⟨by omega, by omega⟩) ?_) | (refine ⟨_, ha, ?_⟩) | (refine ⟨_, ct, ?_⟩) | (refine ⟨_, _, _, cy, ?_⟩) | (refine ⟨_, _, _, cp, ?_⟩) | (refine ⟨_, _, _, cw, ?_⟩) | (refine ⟨_, _, _, cz, ?_⟩) | (refine ⟨_, ry, ?_⟩) | (refine ⟨_, rp, ?_⟩) | (refine ⟨[], [0, 0, 3, 7, 15, 31, 15, 127, 255, 511, 1023, 2047, 4095, 2047, 10239, 32767, 65535, 131071, 262143, 524287, 262143, 1310719, 4194303, 8388607], len_ok rfl (by kernel_rfl), ?_⟩) | (refine ⟨[], [0, 0, 2, 0, 8, 31, 63, 127, 127, 255, 1023], len_ok rfl (by kernel_rfl), ?_⟩) | (refine ⟨[], [0, 0, 2, 0, 8, 31, 63], len_ok rfl (by kernel_rfl), ?_⟩) | (refine ⟨[], [0, 0, 1, 7, 15], len_ok rfl (by kernel_rfl), ?_⟩) | (refine ⟨[], [0, 0, 3, 7], len_ok rfl (by kernel_rfl), ?_⟩) | (exact True.intro) | (refine And.intro (show eqT _ _ = true by kernel_rfl) ?_) | (refine And.intro rfl ?_) | (refine And.intro (And.intro (Nat.le_of_ble_eq_true rfl) rfl) ?_) | (refine And.intro (And.intro rfl rfl) ?_) | (refine And.intro (And.intro rfl (And.intro rfl rfl)) ?_) | (exact And.intro rfl (And.intro rfl rfl)) | (exact And.intro rfl rfl) | (refine br_lt ?_ ?_ <;> intro hBr <;> (first | (exfalso; omega) | (exfalso; contradiction) | (exfalso; exact hBr rfl) | skip)) | (refine br_lt_ ?_ ?_ <;> intro hBr <;> (first | (exfalso; omega) | (exfalso; contradiction) | (exfalso; exact hBr rfl) | skip)) | (refine br_le ?_ ?_ <;> intro hBr <;> (first | (exfalso; omega) | (exfalso; contradiction) | (exfalso; exact hBr rfl) | skip)) | (refine br_le_ ?_ ?_ <;> intro hBr <;> (first | (exfalso; omega) | (exfalso; contradiction) | (exfalso; exact hBr rfl) | skip)) | (refine br_eq ?_ ?_ <;> intro hBr <;> (first | (exfalso; omega) | (exfalso; contradiction) | (exfalso; exact hBr rfl) | skip)) | (refine br_eq_ ?_ ?_ <;> intro hBr <;> (first | (exfalso; omega) | (exfalso; contradiction) | (exfalso; exact hBr rfl) | skip)) | (refine br_seq ?_ ?_ <;> intro hBr <;> (first | (exfalso; omega) | (exfalso; contradiction) | (exfalso; exact hBr rfl) | skip)) | (refine br_seq_ ?_ ?_ <;> intro hBr <;> (first | (exfalso; omega) | (exfalso; contradiction) | (exfalso; exact hBr rfl) | skip)) | (refine br_not ?_) | (refine br_not_ ?_) | (refine br_and ?_) | (refine br_and_ ?_) | (refine And.intro (by omega) ?_) | (refine ⟨_, wrap_i64 (by omega), ?_⟩) | (refine ⟨_, wrap_u64 (by omega) (by omega), ?_⟩) | (refine ⟨_, wrap_u8 (by omega) (by omega), ?_⟩) | (refine ⟨_, wrap_u32 (by omega) (by omega), ?_⟩) | (refine ⟨_, wrap_u16 (by omega) (by omega), ?_⟩) | (refine ⟨_, rfl, ?_⟩) | (exact rfl)))
          exact ⟨⟨i + 1, by omega, rfl, by rw [hb]; rfl⟩, hd⟩
  · obtain rfl : i = l.length := by omega
    have hq := hn.q
    generalize (stf l.length).L n = L at *
    generalize (stf l.length).P n = P at *
    generalize stf l.length = a at *
    obtain ⟨q, x, k, w⟩ := a
    clear hst hok hn hPo hLs hLl
    cases q
    all_goals
      repeat' ((try conv => whnf) <;> (first | (refine Hold.mk ?_) | (refine And.intro (fun _ => ?_) (fun h => Bool.noConfusion h)) | (refine And.intro (fun h => Bool.noConfusion h) (fun _ => ?_)) | (refine And.intro (Nat.le_of_ble_eq_true rfl) ?_) | (refine And.intro (fun _ => ?_) (fun h => Bool.noConfusion ((beq_self_eq_true _).symm.trans h))) | (refine And.intro (fun h => Bool.noConfusion ((bne_self_eq_false _).symm.trans h)) (fun _ => ?_)) | (refine And.intro (fun h => Bool.noConfusion ((beq_self_eq_true _).symm.trans h)) (fun _ => ?_)) | (refine And.intro (fun _ => ?_) (fun h => Bool.noConfusion ((bne_self_eq_false _).symm.trans h))) | (refine And.intro (show inR _ from ⟨by omega, by omega⟩) ?_) | (refine ⟨[], [0, 0, 3, 7, 15, 31, 15, 127, 255, 511, 1023, 2047, 4095, 2047, 10239, 32767, 65535, 131071, 262143, 524287, 262143, 1310719, 4194303, 8388607], len_ok rfl (by kernel_rfl), ?_⟩) | (refine ⟨[], [0, 0, 2, 0, 8, 31, 63, 127, 127, 255, 1023], len_ok rfl (by kernel_rfl), ?_⟩) | (refine ⟨[], [0, 0, 2, 0, 8, 31, 63], len_ok rfl (by kernel_rfl), ?_⟩) | (refine ⟨[], [0, 0, 1, 7, 15], len_ok rfl (by kernel_rfl), ?_⟩) | (refine ⟨[], [0, 0, 3, 7], len_ok rfl (by kernel_rfl), ?_⟩) | (exact True.intro) | (refine And.intro (show eqT _ _ = true by kernel_rfl) ?_) | (refine And.intro rfl ?_) | (refine And.intro (And.intro (Nat.le_of_ble_eq_true rfl) rfl) ?_) | (refine And.intro (And.intro rfl rfl) ?_) | (refine And.intro (And.intro rfl (And.intro rfl rfl)) ?_) | (exact And.intro rfl (And.intro rfl rfl)) | (exact And.intro rfl rfl) | (refine br_lt ?_ ?_ <;> intro hBr <;> (first | (exfalso; omega) | (exfalso; contradiction) | (exfalso; exact hBr rfl) | skip)) | (refine br_lt_ ?_ ?_ <;> intro hBr <;> (first | (exfalso; omega) | (exfalso; contradiction) | (exfalso; exact hBr rfl) | skip)) | (refine br_le ?_ ?_ <;> intro hBr <;> (first | (exfalso; omega) | (exfalso; contradiction) | (exfalso; exact hBr rfl) | skip)) | (refine br_le_ ?_ ?_ <;> intro hBr <;> (first | (exfalso; omega) | (exfalso; contradiction) | (exfalso; exact hBr rfl) | skip)) | (refine br_eq ?_ ?_ <;> intro hBr <;> (first | (exfalso; omega) | (exfalso; contradiction) | (exfalso; exact hBr rfl) | skip)) | (refine br_eq_ ?_ ?_ <;> intro hBr <;> (first | (exfalso; omega) | (exfalso; contradiction) | (exfalso; exact hBr rfl) | skip)) | (refine br_seq ?_ ?_ <;> intro hBr <;> (first | (exfalso; omega) | (exfalso; contradiction) | (exfalso; exact hBr rfl) | skip)) | (refine br_seq_ ?_ ?_ <;> intro hBr <;> (first | (exfalso; omega) | (exfalso; contradiction) | (exfalso; exact hBr rfl) | skip)) | (refine br_not ?_) | (refine br_not_ ?_) | (refine br_and ?_) | (refine br_and_ ?_) | (refine And.intro (by omega) ?_) | (refine ⟨_, wrap_i64 (by omega), ?_⟩) | (refine ⟨_, wrap_u64 (by omega) (by omega), ?_⟩) | (refine ⟨_, wrap_u8 (by omega) (by omega), ?_⟩) | (refine ⟨_, wrap_u32 (by omega) (by omega), ?_⟩) | (refine ⟨_, wrap_u16 (by omega) (by omega), ?_⟩) | (refine ⟨_, rfl, ?_⟩) | (exact rfl)))
end Go.Proofs.Ytdjdcpbakeahcaa.Av
