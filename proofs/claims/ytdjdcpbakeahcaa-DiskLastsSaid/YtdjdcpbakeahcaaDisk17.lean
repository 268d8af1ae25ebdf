/- disk: the law that what is synced lasts, walked; at the model. No conditions. -/
import Derived.Test.YtdjdcpbakeahcaaDisk16
namespace Go.Proofs.Ytdjdcpbakeahcaa.Av
open Go Go.RowKit Go.ChangeShapes Go.WideShapes
set_option linter.unusedVariables false
set_option linter.unusedSimpArgs false
set_option maxRecDepth 100000
set_option maxHeartbeats 20000000

def readB (L : List Key) (w : Int) (M : List Key) (w0 : Int) (C : List AV) : List ABlk :=
  [headN 3 L.length nilA w, headN 4 M.length nilA w0, ⟨C, some 4, false, true⟩, secB L, secB M]
/-- a device of whose pending writes nothing is told -/
def dskU (L : List Key) (w : Int) : List ABlk := [⟨[B true, .sl 1 L.length, .unk, Z w], none, false, false⟩, secB L]
theorem weakU {f : FuncId} {args : List AV} {bl : List ABlk} {R : AV} {b : Bool} {q : Pd} {L : List Key} {P : List Wr} {w : Int} (h : SM f args bl [] (.tup [.ptr 0 0, R, B b]) (dsk q L P w)) (hR : ∀ (w' : World) (p' : Nat → Option Nat) (c' : Nat → Nat) (F' : Nat → Nat → Prop) (D D' : Nat → Prop) (v : Value), Rep w' p' c' F' D R v → Rep w' p' c' F' D' R v) :
    SM f args bl [] (.tup [.ptr 0 0, R, B b]) (dskU L w) := by
  refine ⟨h.1, fun w0 p c F xs hs hx hB hF => (h.2 w0 p c F xs hs hx hB hF).mono fun e w' ⟨v, p', c', F', e1, e2, e3, e4, e5, e6, e7, e8, e9⟩ => ⟨v, p', c', F', e1, e2, e3, e4, ?_, fun i g hi hp => e6 i g (Nat.lt_of_lt_of_le hi ?_) hp, e7, fun j hj => absurd hj (Nat.not_lt_zero _), ?_⟩⟩
  · have hl : 2 ≤ (dsk q L P w).length := by cases q <;> exact Nat.le_of_ble_eq_true rfl
    have h0 : ∃ p1 : AV, (dsk q L P w)[0]? = some (headB L.length p1 w) := by cases q <;> exact ⟨_, rfl⟩
    have h1 : (dsk q L P w)[1]? = some (secB L) := by cases q <;> rfl
    have hd : ∀ (i : Nat) (b' : ABlk), (dskU L w)[i]? = some b' → ∃ b0 : ABlk, (dsk q L P w)[i]? = some b0 ∧ b'.cells.length = b0.cells.length ∧ b'.fz = b0.fz := by
      intro i b' hi
      match i, hi with
      | 0, hi => injection hi with hi; subst hi; obtain ⟨p1, h0⟩ := h0; exact ⟨_, h0, rfl, rfl⟩
      | 1, hi => injection hi with hi; subst hi; exact ⟨_, h1, rfl, rfl⟩
      | i + 2, hi => simp [dskU] at hi
    refine ⟨fun i b' hi => ?_, fun i i' g hi hi' => e5.inj i i' g (Nat.lt_of_lt_of_le hi hl) (Nat.lt_of_lt_of_le hi' hl), fun i b' g j hi hp hj => ?_⟩
    · match i, hi with
      | 0, hi =>
        injection hi with hi; subst hi
        obtain ⟨p1, h0⟩ := h0
        have := e5.live 0 _ h0
        unfold BlkOk at this ⊢
        cases hp : p' 0 with
        | none => rw [hp] at this; exact absurd this.1 (by simp)
        | some g =>
          rw [hp] at this
          obtain ⟨us, t, fr, k1, k2, k3, k4, k5⟩ := this
          refine ⟨us, t, fr, k1, k2, k3, fun j hj => ?_, fun e he => by cases he⟩
          match j, hj with
          | 0, _ => exact (k4 0 (by show 0 < 4; omega)).ex_inv ▸ .ex _ _
          | 1, _ =>
            obtain ⟨_, q2, q3⟩ := (k4 1 (by show 1 < 4; omega)).sl_inv
            have q3 : us.getD 1 undef = _ := q3
            show Rep _ _ _ _ _ (.sl 1 L.length) _
            rw [q3]
            exact .sl _ 1 _ (by show 1 < 2; omega) q2
          | 2, _ => exact .unk _ _
          | 3, _ => exact (k4 3 (by show 3 < 4; omega)).ex_inv ▸ .ex _ _
      | 1, hi =>
        injection hi with hi; subst hi
        have := e5.live 1 _ h1
        unfold BlkOk at this ⊢
        exact this
      | i + 2, hi => simp [dskU] at hi
    · obtain ⟨b0, h2, h3, h4⟩ := hd i b' hi
      have := e5.fz i b0 g j h2 hp hj
      exact ⟨by rw [h4]; exact this.1, by rw [h3]; exact this.2⟩
  · cases q <;> exact Nat.le_of_ble_eq_true rfl
  · obtain ⟨us, rfl, hs2, hr2⟩ := e9.tup_inv
    refine .tup _ _ us hs2 fun j hj => ?_
    match j, hj with
    | 0, _ =>
      obtain ⟨g, _, q2, q3⟩ := (hr2 0 (by show 0 < 3; omega)).ptr_inv
      show Rep _ _ _ _ _ (.ptr 0 0) _
      rw [q3]
      exact .ptr _ 0 0 g (by show 0 < 2; omega) q2
    | 1, _ => exact hR _ _ _ _ _ _ _ (hr2 1 (by show 1 < 3; omega))
    | 2, _ => exact (hr2 2 (by show 2 < 3; omega)).ex_inv ▸ .ex _ _
theorem repDk {w' : World} {p' : Nat → Option Nat} {c' : Nat → Nat} {F' : Nat → Nat → Prop} {D D' : Nat → Prop} {n : Nat} {l : List Rw} {k : Nat} {w : Int} {v : Value} (h : Rep w' p' c' F' D (dkA n l k w) v) : Rep w' p' c' F' D' (dkA n l k w) v := by
  obtain ⟨us, rfl, hs, hr⟩ := h.agg_inv
  refine .agg _ _ us hs fun j hj => ?_
  match j, hj with
  | 0, _ => exact (hr 0 (by show 0 < 4; omega)).ex_inv ▸ .ex _ _
  | 1, _ =>
    have h1 : Rep w' p' c' F' D (.vs l.length (rwC l)) (us.getD 1 undef) := hr 1 (by show 1 < 4; omega)
    show Rep w' p' c' F' D' (.vs l.length (rwC l)) (us.getD 1 undef)
    generalize us.getD 1 undef = x at h1
    rcases h1.vs_inv with ⟨e1, e2, rfl⟩ | ⟨g, o, k, u, h2, rfl, h3⟩
    · rw [e1, e2]; exact .vnil _
    · exact .vs _ _ _ g o k u h2 h3.1 h3.2
  | 2, _ => exact (hr 2 (by show 2 < 4; omega)).ex_inv ▸ .ex _ _
  | 3, _ => exact (hr 3 (by show 3 < 4; omega)).ex_inv ▸ .ex _ _
theorem usync_ok (L : List Key) (w : Int) : SM 20 [.ptr 0 0] (dskU L w) [.ptr 0 0] (Z 0) (dsk .nil L [] w) := by
  have c : SM 72 [.ptr 0 0] (dskU L w) [.ptr 0 0] (B true) (dskU L w) := by
    refine SM_ Try.func72 (by kernel_rfl) rfl (Nat.le_of_ble_eq_true rfl) (Nat.le_refl 1) ?_
    show avc Try.prog SP _ _ _ _ _ _
    dsimp only [avc, startS, Array.toList, Try.f72]
    repeat' ((try conv => whnf) <;> (first | (refine Hold.mk ?_) | (refine And.intro (fun _ => ?_) (fun h => Bool.noConfusion h)) | (refine And.intro (fun h => Bool.noConfusion h) (fun _ => ?_)) | (refine And.intro (Nat.le_of_ble_eq_true rfl) ?_) | (refine And.intro (fun _ => ?_) (fun h => Bool.noConfusion ((beq_self_eq_true _).symm.trans h))) | (refine And.intro (fun h => Bool.noConfusion ((bne_self_eq_false _).symm.trans h)) (fun _ => ?_)) | (refine And.intro (fun h => Bool.noConfusion ((beq_self_eq_true _).symm.trans h)) (fun _ => ?_)) | (refine And.intro (fun _ => ?_) (fun h => Bool.noConfusion ((bne_self_eq_false _).symm.trans h))) | (refine And.intro (show inR _ from ⟨by omega, by omega⟩) ?_) | (exact True.intro) | (refine And.intro (show eqT _ _ = true by kernel_rfl) ?_) | (refine And.intro rfl ?_) | (refine And.intro (And.intro (Nat.le_of_ble_eq_true rfl) rfl) ?_) | (refine And.intro (And.intro rfl rfl) ?_) | (refine And.intro (And.intro rfl (And.intro rfl rfl)) ?_) | (exact And.intro rfl (And.intro rfl rfl)) | (exact And.intro rfl rfl) | (refine br_lt ?_ ?_ <;> intro hBr <;> (first | (exfalso; omega) | (exfalso; contradiction) | (exfalso; exact hBr rfl) | skip)) | (refine br_lt_ ?_ ?_ <;> intro hBr <;> (first | (exfalso; omega) | (exfalso; contradiction) | (exfalso; exact hBr rfl) | skip)) | (refine br_le ?_ ?_ <;> intro hBr <;> (first | (exfalso; omega) | (exfalso; contradiction) | (exfalso; exact hBr rfl) | skip)) | (refine br_le_ ?_ ?_ <;> intro hBr <;> (first | (exfalso; omega) | (exfalso; contradiction) | (exfalso; exact hBr rfl) | skip)) | (refine br_eq ?_ ?_ <;> intro hBr <;> (first | (exfalso; omega) | (exfalso; contradiction) | (exfalso; exact hBr rfl) | skip)) | (refine br_eq_ ?_ ?_ <;> intro hBr <;> (first | (exfalso; omega) | (exfalso; contradiction) | (exfalso; exact hBr rfl) | skip)) | (refine br_seq ?_ ?_ <;> intro hBr <;> (first | (exfalso; omega) | (exfalso; contradiction) | (exfalso; exact hBr rfl) | skip)) | (refine br_seq_ ?_ ?_ <;> intro hBr <;> (first | (exfalso; omega) | (exfalso; contradiction) | (exfalso; exact hBr rfl) | skip)) | (refine br_not ?_) | (refine br_not_ ?_) | (refine br_and ?_) | (refine br_and_ ?_) | (refine And.intro (by omega) ?_) | (refine ⟨_, wrap_i64 (by omega), ?_⟩) | (refine ⟨_, wrap_u64 (by omega) (by omega), ?_⟩) | (refine ⟨_, wrap_u8 (by omega) (by omega), ?_⟩) | (refine ⟨_, wrap_u32 (by omega) (by omega), ?_⟩) | (refine ⟨_, wrap_u16 (by omega) (by omega), ?_⟩) | (refine ⟨_, rfl, ?_⟩) | (exact rfl)))
  refine SM_ Try.func20 (by kernel_rfl) rfl (Nat.le_of_ble_eq_true rfl) (Nat.le_refl 1) ?_
  show avc Try.prog SP _ _ _ _ _ _
  dsimp only [avc, startS, Array.toList, Try.f20]
  repeat' ((try conv => whnf) <;> (first | (refine Hold.mk ?_) | (refine And.intro (fun _ => ?_) (fun h => Bool.noConfusion h)) | (refine And.intro (fun h => Bool.noConfusion h) (fun _ => ?_)) | (refine And.intro (Nat.le_of_ble_eq_true rfl) ?_) | (refine And.intro (fun _ => ?_) (fun h => Bool.noConfusion ((beq_self_eq_true _).symm.trans h))) | (refine And.intro (fun h => Bool.noConfusion ((bne_self_eq_false _).symm.trans h)) (fun _ => ?_)) | (refine And.intro (fun h => Bool.noConfusion ((beq_self_eq_true _).symm.trans h)) (fun _ => ?_)) | (refine And.intro (fun _ => ?_) (fun h => Bool.noConfusion ((bne_self_eq_false _).symm.trans h))) | (refine And.intro (show inR _ from ⟨by omega, by omega⟩) ?_) | (refine ⟨_, _, _, c, ?_⟩) | (exact True.intro) | (refine And.intro (show eqT _ _ = true by kernel_rfl) ?_) | (refine And.intro rfl ?_) | (refine And.intro (And.intro (Nat.le_of_ble_eq_true rfl) rfl) ?_) | (refine And.intro (And.intro rfl rfl) ?_) | (refine And.intro (And.intro rfl (And.intro rfl rfl)) ?_) | (exact And.intro rfl (And.intro rfl rfl)) | (exact And.intro rfl rfl) | (refine br_lt ?_ ?_ <;> intro hBr <;> (first | (exfalso; omega) | (exfalso; contradiction) | (exfalso; exact hBr rfl) | skip)) | (refine br_lt_ ?_ ?_ <;> intro hBr <;> (first | (exfalso; omega) | (exfalso; contradiction) | (exfalso; exact hBr rfl) | skip)) | (refine br_le ?_ ?_ <;> intro hBr <;> (first | (exfalso; omega) | (exfalso; contradiction) | (exfalso; exact hBr rfl) | skip)) | (refine br_le_ ?_ ?_ <;> intro hBr <;> (first | (exfalso; omega) | (exfalso; contradiction) | (exfalso; exact hBr rfl) | skip)) | (refine br_eq ?_ ?_ <;> intro hBr <;> (first | (exfalso; omega) | (exfalso; contradiction) | (exfalso; exact hBr rfl) | skip)) | (refine br_eq_ ?_ ?_ <;> intro hBr <;> (first | (exfalso; omega) | (exfalso; contradiction) | (exfalso; exact hBr rfl) | skip)) | (refine br_seq ?_ ?_ <;> intro hBr <;> (first | (exfalso; omega) | (exfalso; contradiction) | (exfalso; exact hBr rfl) | skip)) | (refine br_seq_ ?_ ?_ <;> intro hBr <;> (first | (exfalso; omega) | (exfalso; contradiction) | (exfalso; exact hBr rfl) | skip)) | (refine br_not ?_) | (refine br_not_ ?_) | (refine br_and ?_) | (refine br_and_ ?_) | (refine And.intro (by omega) ?_) | (refine ⟨_, wrap_i64 (by omega), ?_⟩) | (refine ⟨_, wrap_u64 (by omega) (by omega), ?_⟩) | (refine ⟨_, wrap_u8 (by omega) (by omega), ?_⟩) | (refine ⟨_, wrap_u32 (by omega) (by omega), ?_⟩) | (refine ⟨_, wrap_u16 (by omega) (by omega), ?_⟩) | (refine ⟨_, rfl, ?_⟩) | (exact rfl)))
theorem dlasts_walk (l more : List DOp) (s : Nat) (u : Nat) (t c : Int) (n : Nat) (q : Pd) (L : List Key) (P : List Wr) (w : Nat) (rl : List Rw) (rk : Nat) (stf : Nat → St) (tlf : Nat → List Bool) (hs : s < 256) (hn : (1 : Int) + (s : Int) % 20 = n) (hu : u < 18446744073709551616) (hl : l.length ≤ 30) (hm : more.length ≤ 30) (hLn : L.length = n) (hPn : P.length ≤ 30)
    (hst : ∀ i, i ≤ more.length → ∃ a, Wrote n a (stf i) 60 (tlf i) ∧ a.L n = L) (h0 : stf 0 = ⟨.nil, (stf 0).l, (stf 0).k, w⟩ ∧ (stf 0).L n = L ∧ (stf 0).P n = [] ∧ tlf 0 = List.replicate n false)
    (hstep : ∀ i (h : i < more.length), (0 ≤ more[i].n ∧ more[i].n < n ∧ stf (i + 1) = ⟨(stf i).q.next, (stf i).l ++ [(more[i].n.toNat, fullK more[i].s)], (stf i).k, (stf i).w + 1⟩ ∧ tlf (i + 1) = (tlf i).set more[i].n.toNat true) ∨ ((more[i].n < 0 ∨ (n : Int) ≤ more[i].n) ∧ stf (i + 1) = stf i ∧ tlf (i + 1) = tlf i))
    (co1 : SP 14 [.vs l.length (dopC l), Z 30] (Z 0)) (co2 : SP 14 [.vs more.length (dopC more), Z 30] (Z 0))
    (cd : SM 16 [Z n, .vs l.length (dopC l)] [] [] (.tup [.ptr 0 0, dkA n rl rk w, B true]) (dsk q L P w)) :
    SP 5 [.vs l.length (dopC l), .vs more.length (dopC more), crA s u t c] (B true) := by
  have aw := dawake_ok
  have cd := weakU cd fun w' p' c' F' D D' v h => repDk h
  have cy := usync_ok L w
  have cf := dfork_ok .nil L [] w rfl (show 0 ≤ 1000000 by omega) (by omega)
  have hn1 : n ≤ 20 := by omega
  have hn2 : ((1 : Int) + (s : Int) % 20).toNat = n := by omega
  have hrb : room ((1 : Int) + (s : Int) % 20).toNat (bytesT Try.prog 4) := by
    rw [hn2, show bytesT Try.prog 4 = 1 by kernel_rfl]; unfold room; omega
  rw [← hn] at cd
  have hz := zeroL_B n
  · refine S_ Try.func5 (by kernel_rfl) rfl (Nat.le_of_ble_eq_true rfl) ?_ -- G
    repeat' ((try conv => whnf) <;> (first | (refine Hold.mk ?_) | (refine And.intro (fun _ => ?_) (fun h => Bool.noConfusion h)) | (refine And.intro (fun h => Bool.noConfusion h) (fun _ => ?_)) | (refine And.intro (Nat.le_of_ble_eq_true rfl) ?_) | (refine And.intro (fun _ => ?_) (fun h => Bool.noConfusion ((beq_self_eq_true _).symm.trans h))) | (refine And.intro (fun h => Bool.noConfusion ((bne_self_eq_false _).symm.trans h)) (fun _ => ?_)) | (refine And.intro (fun h => Bool.noConfusion ((beq_self_eq_true _).symm.trans h)) (fun _ => ?_)) | (refine And.intro (fun _ => ?_) (fun h => Bool.noConfusion ((bne_self_eq_false _).symm.trans h))) | (refine And.intro (show inR _ from ⟨by omega, by omega⟩) ?_) | (refine ⟨_, co1, ?_⟩) | (refine ⟨_, co2, ?_⟩) | (refine ⟨_, _, _, cd, ?_⟩) | (refine ⟨_, _, _, cy, ?_⟩) | (refine ⟨_, _, _, cf, ?_⟩) | (refine And.intro ⟨by omega, by omega, hrb⟩ ?_) | (refine ⟨[], [0, 0, 0, 6, 14, 30, 0, 0, 192, 448, 960, 1984, 4095, 8191], len_ok rfl (by kernel_rfl), ?_⟩) | (exact True.intro) | (refine And.intro (show eqT _ _ = true by kernel_rfl) ?_) | (refine And.intro rfl ?_) | (refine And.intro (And.intro (Nat.le_of_ble_eq_true rfl) rfl) ?_) | (refine And.intro (And.intro rfl rfl) ?_) | (refine And.intro (And.intro rfl (And.intro rfl rfl)) ?_) | (exact And.intro rfl (And.intro rfl rfl)) | (exact And.intro rfl rfl) | (refine br_lt ?_ ?_ <;> intro hBr <;> (first | (exfalso; omega) | (exfalso; contradiction) | (exfalso; exact hBr rfl) | skip)) | (refine br_lt_ ?_ ?_ <;> intro hBr <;> (first | (exfalso; omega) | (exfalso; contradiction) | (exfalso; exact hBr rfl) | skip)) | (refine br_le ?_ ?_ <;> intro hBr <;> (first | (exfalso; omega) | (exfalso; contradiction) | (exfalso; exact hBr rfl) | skip)) | (refine br_le_ ?_ ?_ <;> intro hBr <;> (first | (exfalso; omega) | (exfalso; contradiction) | (exfalso; exact hBr rfl) | skip)) | (refine br_eq ?_ ?_ <;> intro hBr <;> (first | (exfalso; omega) | (exfalso; contradiction) | (exfalso; exact hBr rfl) | skip)) | (refine br_eq_ ?_ ?_ <;> intro hBr <;> (first | (exfalso; omega) | (exfalso; contradiction) | (exfalso; exact hBr rfl) | skip)) | (refine br_seq ?_ ?_ <;> intro hBr <;> (first | (exfalso; omega) | (exfalso; contradiction) | (exfalso; exact hBr rfl) | skip)) | (refine br_seq_ ?_ ?_ <;> intro hBr <;> (first | (exfalso; omega) | (exfalso; contradiction) | (exfalso; exact hBr rfl) | skip)) | (refine br_not ?_) | (refine br_not_ ?_) | (refine br_and ?_) | (refine br_and_ ?_) | (refine And.intro (by omega) ?_) | (refine ⟨_, wrap_i64 (by omega), ?_⟩) | (refine ⟨_, wrap_u64 (by omega) (by omega), ?_⟩) | (refine ⟨_, wrap_u8 (by omega) (by omega), ?_⟩) | (refine ⟨_, wrap_u32 (by omega) (by omega), ?_⟩) | (refine ⟨_, wrap_u16 (by omega) (by omega), ?_⟩) | (refine ⟨_, rfl, ?_⟩) | (exact rfl)))
    refine ⟨[13, 1, 8, 11, 12, 5, 7], [], fun vs bl => ∃ i : Nat, i ≤ more.length ∧ (vs = [Z i, .vs more.length (dopC more), .ptr 0 0, .ptr 1 0, .sl 2 n, .ptr 3 0, Z n] ∧ bl = lastB (stf i).q ((stf i).L n) ((stf i).P n) (stf i).w L w (boolC (tlf i)) s u t c), muL more.length, ?_, ?_⟩
    · refine ⟨0, by omega, by rw [hn, Int.toNat_natCast]; rfl, ?_⟩
      obtain ⟨e1, e2, e3, e4⟩ := h0
      rw [e2, e3, e4, ← hz, e1, hn2]; rfl
    rintro vs bl ⟨i, hi, rfl, rfl⟩
    obtain ⟨a, hW, haL⟩ := hst i hi
    have hlen := hW.ok.len
    have hw := hW.ok.w
    have hk := hW.ok.k
    have hLl := hW.ok.L_len
    have hPl := St.P_len n (stf i)
    have hLs := hW.ok.L_sec
    have hPo := hW.ok.P_ok
    have hq := hW.ok.q
    by_cases hlt : i < more.length
    · have hsx := hstep i hlt
      have h1 := dop1 hlt
      have h2 := dop2 hlt
      have cfu := full_ok more[i].s
      have hfl := fullK_len more[i].s
      have hd : more.length - ((i : Int) + 1).toNat < more.length - (i : Int).toNat := by omega
      generalize more[i] = o at hsx h1 h2 cfu hfl
      generalize fullK o.s = X at hsx cfu hfl
      have hWq := hW.q
      have hTl := hW.len
      rcases hsx with ⟨m0, m1, e1, e2⟩ | ⟨m0, e1, e2⟩
      · obtain ⟨m, hm⟩ : ∃ m : Nat, o.n = m := ⟨o.n.toNat, by omega⟩
        rw [hm, Int.toNat_natCast] at e1 e2
        rw [hm] at h1 m0 m1
        have hmn : m < n := by omega
        have hmL : m < ((stf i).L n).length := by omega
        have cw := dwrite_yes (stf i).q ((stf i).L n) ((stf i).P n) (stf i).w X hmL hfl hq (by omega) (by omega) (by omega)
        have p1 := St.put_L hW.ok hmn hfl
        have p2 := St.put_P hW.ok hmn hfl
        rw [secGet hmL] at p2
        have hset := boolC_set (tlf i) m
        have hidx : mulS (m : Int).toNat (sizeT Try.prog 4) + 1 ≤ (boolC (tlf i)).length := by rw [hsB, mulS_eq, Int.toNat_natCast, boolC_len]; omega
        have hb : lastB (stf (i + 1)).q ((stf (i + 1)).L n) ((stf (i + 1)).P n) (stf (i + 1)).w L w (boolC (tlf (i + 1))) s u t c = lastB (stf i).q.next (((stf i).L n).set m X) ((stf i).P n ++ [(m, X, ((stf i).L n)[m])]) ((stf i).w + 1) L w (setL (boolC (tlf i)) (mulS (m : Int).toNat (sizeT Try.prog 4)) [B true]) s u t c := by
          rw [e1, e2, p1, p2, hset]; rfl
        have hLl2 : (((stf i).L n).set m X).length = n := by rw [List.length_set]; exact hLl
        generalize ((stf i).L n)[m] = v at *
        generalize ((stf i).L n).set m X = L2 at *
        generalize (stf i).L n = L1 at *
        generalize (stf i).P n ++ [(m, X, v)] = P2 at *
        generalize (stf i).P n = P1 at *
        generalize boolC (tlf i) = C at *
        generalize (stf i).q = q1 at *
        generalize ((stf i).w : Int) = w1 at *
        clear hst hstep h0 hW hset p1 p2 hLs hPo hz aw co1 co2 cd cy cf e1 e2 hm
        rcases hWq with rfl | rfl
        all_goals
          repeat' ((try conv => whnf) <;> (first | (refine Hold.mk ?_) | (refine And.intro (fun _ => ?_) (fun h => Bool.noConfusion h)) | (refine And.intro (fun h => Bool.noConfusion h) (fun _ => ?_)) | (refine And.intro (Nat.le_of_ble_eq_true rfl) ?_) | (refine And.intro (fun _ => ?_) (fun h => Bool.noConfusion ((beq_self_eq_true _).symm.trans h))) | (refine And.intro (fun h => Bool.noConfusion ((bne_self_eq_false _).symm.trans h)) (fun _ => ?_)) | (refine And.intro (fun h => Bool.noConfusion ((beq_self_eq_true _).symm.trans h)) (fun _ => ?_)) | (refine And.intro (fun _ => ?_) (fun h => Bool.noConfusion ((bne_self_eq_false _).symm.trans h))) | (refine And.intro (show inR _ from ⟨by omega, by omega⟩) ?_) | (refine ⟨_, h1, ?_⟩) | (refine ⟨_, h2, ?_⟩) | (refine ⟨_, cfu, ?_⟩) | (refine ⟨_, _, _, cw, ?_⟩) | (refine And.intro hidx ?_) | (refine ⟨[], [0, 0, 0, 6, 14, 30, 0, 0, 192, 448, 960, 1984, 4095, 8191], len_ok rfl (by kernel_rfl), ?_⟩) | (exact True.intro) | (refine And.intro (show eqT _ _ = true by kernel_rfl) ?_) | (refine And.intro rfl ?_) | (refine And.intro (And.intro (Nat.le_of_ble_eq_true rfl) rfl) ?_) | (refine And.intro (And.intro rfl rfl) ?_) | (refine And.intro (And.intro rfl (And.intro rfl rfl)) ?_) | (exact And.intro rfl (And.intro rfl rfl)) | (exact And.intro rfl rfl) | (refine br_lt ?_ ?_ <;> intro hBr <;> (first | (exfalso; omega) | (exfalso; contradiction) | (exfalso; exact hBr rfl) | skip)) | (refine br_lt_ ?_ ?_ <;> intro hBr <;> (first | (exfalso; omega) | (exfalso; contradiction) | (exfalso; exact hBr rfl) | skip)) | (refine br_le ?_ ?_ <;> intro hBr <;> (first | (exfalso; omega) | (exfalso; contradiction) | (exfalso; exact hBr rfl) | skip)) | (refine br_le_ ?_ ?_ <;> intro hBr <;> (first | (exfalso; omega) | (exfalso; contradiction) | (exfalso; exact hBr rfl) | skip)) | (refine br_eq ?_ ?_ <;> intro hBr <;> (first | (exfalso; omega) | (exfalso; contradiction) | (exfalso; exact hBr rfl) | skip)) | (refine br_eq_ ?_ ?_ <;> intro hBr <;> (first | (exfalso; omega) | (exfalso; contradiction) | (exfalso; exact hBr rfl) | skip)) | (refine br_seq ?_ ?_ <;> intro hBr <;> (first | (exfalso; omega) | (exfalso; contradiction) | (exfalso; exact hBr rfl) | skip)) | (refine br_seq_ ?_ ?_ <;> intro hBr <;> (first | (exfalso; omega) | (exfalso; contradiction) | (exfalso; exact hBr rfl) | skip)) | (refine br_not ?_) | (refine br_not_ ?_) | (refine br_and ?_) | (refine br_and_ ?_) | (refine And.intro (by omega) ?_) | (refine ⟨_, wrap_i64 (by omega), ?_⟩) | (refine ⟨_, wrap_u64 (by omega) (by omega), ?_⟩) | (refine ⟨_, wrap_u8 (by omega) (by omega), ?_⟩) | (refine ⟨_, wrap_u32 (by omega) (by omega), ?_⟩) | (refine ⟨_, wrap_u16 (by omega) (by omega), ?_⟩) | (refine ⟨_, rfl, ?_⟩) | (exact rfl)))
          exact ⟨⟨i + 1, by omega, rfl, by rw [hb]; rfl⟩, hd⟩
      · have cw := dwrite_range (stf i).q ((stf i).L n) ((stf i).P n) (stf i).w (n := o.n) X (by rw [hLl]; exact m0)
        have hb : lastB (stf (i + 1)).q ((stf (i + 1)).L n) ((stf (i + 1)).P n) (stf (i + 1)).w L w (boolC (tlf (i + 1))) s u t c = lastB (stf i).q ((stf i).L n) ((stf i).P n) (stf i).w L w (boolC (tlf i)) s u t c := by
          rw [e1, e2]
        generalize (stf i).L n = L1 at *
        generalize (stf i).P n = P1 at *
        generalize boolC (tlf i) = C at *
        generalize (stf i).q = q1 at *
        generalize ((stf i).w : Int) = w1 at *
        clear hst hstep h0 hW hLs hPo hz aw co1 co2 cd cy cf e1 e2
        rcases hWq with rfl | rfl
        all_goals
          repeat' ((try conv => whnf) <;> (first | (refine Hold.mk ?_) | (refine And.intro (fun _ => ?_) (fun h => Bool.noConfusion h)) | (refine And.intro (fun h => Bool.noConfusion h) (fun _ => ?_)) | (refine And.intro (Nat.le_of_ble_eq_true rfl) ?_) | (refine And.intro (fun _ => ?_) (fun h => Bool.noConfusion ((beq_self_eq_true _).symm.trans h))) | (refine And.intro (fun h => Bool.noConfusion ((bne_self_eq_false _).symm.trans h)) (fun _ => ?_)) | (refine And.intro (fun h => Bool.noConfusion ((beq_self_eq_true _).symm.trans h)) (fun _ => ?_)) | (refine And.intro (fun _ => ?_) (fun h => Bool.noConfusion ((bne_self_eq_false _).symm.trans h))) | (refine And.intro (show inR _ from ⟨by omega, by omega⟩) ?_) | (refine ⟨_, h1, ?_⟩) | (refine ⟨_, h2, ?_⟩) | (refine ⟨_, cfu, ?_⟩) | (refine ⟨_, _, _, cw, ?_⟩) | (refine ⟨[], [0, 0, 0, 6, 14, 30, 0, 0, 192, 448, 960, 1984, 4095, 8191], len_ok rfl (by kernel_rfl), ?_⟩) | (exact True.intro) | (refine And.intro (show eqT _ _ = true by kernel_rfl) ?_) | (refine And.intro rfl ?_) | (refine And.intro (And.intro (Nat.le_of_ble_eq_true rfl) rfl) ?_) | (refine And.intro (And.intro rfl rfl) ?_) | (refine And.intro (And.intro rfl (And.intro rfl rfl)) ?_) | (exact And.intro rfl (And.intro rfl rfl)) | (exact And.intro rfl rfl) | (refine br_lt ?_ ?_ <;> intro hBr <;> (first | (exfalso; omega) | (exfalso; contradiction) | (exfalso; exact hBr rfl) | skip)) | (refine br_lt_ ?_ ?_ <;> intro hBr <;> (first | (exfalso; omega) | (exfalso; contradiction) | (exfalso; exact hBr rfl) | skip)) | (refine br_le ?_ ?_ <;> intro hBr <;> (first | (exfalso; omega) | (exfalso; contradiction) | (exfalso; exact hBr rfl) | skip)) | (refine br_le_ ?_ ?_ <;> intro hBr <;> (first | (exfalso; omega) | (exfalso; contradiction) | (exfalso; exact hBr rfl) | skip)) | (refine br_eq ?_ ?_ <;> intro hBr <;> (first | (exfalso; omega) | (exfalso; contradiction) | (exfalso; exact hBr rfl) | skip)) | (refine br_eq_ ?_ ?_ <;> intro hBr <;> (first | (exfalso; omega) | (exfalso; contradiction) | (exfalso; exact hBr rfl) | skip)) | (refine br_seq ?_ ?_ <;> intro hBr <;> (first | (exfalso; omega) | (exfalso; contradiction) | (exfalso; exact hBr rfl) | skip)) | (refine br_seq_ ?_ ?_ <;> intro hBr <;> (first | (exfalso; omega) | (exfalso; contradiction) | (exfalso; exact hBr rfl) | skip)) | (refine br_not ?_) | (refine br_not_ ?_) | (refine br_and ?_) | (refine br_and_ ?_) | (refine And.intro (by omega) ?_) | (refine ⟨_, wrap_i64 (by omega), ?_⟩) | (refine ⟨_, wrap_u64 (by omega) (by omega), ?_⟩) | (refine ⟨_, wrap_u8 (by omega) (by omega), ?_⟩) | (refine ⟨_, wrap_u32 (by omega) (by omega), ?_⟩) | (refine ⟨_, wrap_u16 (by omega) (by omega), ?_⟩) | (refine ⟨_, rfl, ?_⟩) | (exact rfl)))
          exact ⟨⟨i + 1, by omega, rfl, by rw [hb]; rfl⟩, hd⟩
    · have hcr := fun p => hW.ok.crash p
      have hsame := fun j (hj : j < n) hf => lasts_same hW ⟨u, t, c⟩ (j := j) hj hf
      have hnone := crash_none hW
      have hsec := (hW.ok.crash2 ⟨u, t, c⟩).L_sec
      have hWq := hW.q
      have hTl := hW.len
      rw [haL] at hsame hnone
      have k1 := dcrash_ok (stf i).q.left.left ((stf i).L n) ((stf i).P n) (stf i).w ⟨u, t, c⟩ hu (by cases h : (stf i).q <;> first | trivial | (rw [h] at hq; exact hq)) (by omega) (by rw [hLl]; exact hPo) hLs
      have k2 := dcrash_ok (stf i).q.right ((stf i).L n) ((stf i).P n) (stf i).w ⟨18446744073709551615, -1, 0⟩ (show 18446744073709551615 < 18446744073709551616 by decide) (by cases h : (stf i).q <;> first | trivial | (rw [h] at hq; exact hq)) (by omega) (by rw [hLl]; exact hPo) hLs
      have k3 := dcrash_ok (stf i).q.left.right ((stf i).L n) ((stf i).P n) (stf i).w ⟨0, -1, 0⟩ (show 0 < 18446744073709551616 by decide) (by cases h : (stf i).q <;> first | trivial | (rw [h] at hq; exact hq)) (by omega) (by rw [hLl]; exact hPo) hLs
      rw [hcr] at k1 k2 k3
      rw [hnone] at k3
      have f1 := dfork_ok (stf i).q ((stf i).L n) ((stf i).P n) (stf i).w hq (by omega) (by omega)
      have f2 := dfork_ok (stf i).q.left ((stf i).L n) ((stf i).P n) (stf i).w (by cases h : (stf i).q <;> first | trivial | (rw [h] at hq; exact hq)) (by omega) (by omega)
      have hD1 : (runW (crashL ⟨u, t, c⟩ (stf i)) (newL n)).length = n := by rw [runW_len, newL_len]
      have hsec : Sec (runW (crashL ⟨u, t, c⟩ (stf i)) (newL n)) := hsec
      generalize runW (crashL ⟨u, t, c⟩ (stf i)) (newL n) = D1 at *
      generalize runW (crashL ⟨18446744073709551615, -1, 0⟩ (stf i)) (newL n) = D2 at *
      have n1 : SM 23 [.ptr 0 0] (dsk .nil D1 [] (stf i).w) [.ptr 0 0] (Z 0) (dsk .nil D1 [] (stf i).w) := dpending_ok .nil D1 [] (stf i).w rfl
      have n2 : SM 23 [.ptr 0 0] (dsk .nil D2 [] (stf i).w) [.ptr 0 0] (Z 0) (dsk .nil D2 [] (stf i).w) := dpending_ok .nil D2 [] (stf i).w rfl
      have n3 : SM 23 [.ptr 0 0] (dsk .nil L [] (stf i).w) [.ptr 0 0] (Z 0) (dsk .nil L [] (stf i).w) := dpending_ok .nil L [] (stf i).w rfl
      have cs := dsame_ok .nil L [] (stf i).w .nil L [] w (by omega) rfl
      rw [decide_eq_true rfl] at cs
      have r1 := fun j (h : j < D1.length) => dread_yes .nil D1 [] (stf i).w h
      have r2 := fun j (h : j < L.length) => dread_yes .nil L [] w h
      have bt := fun j (h : j < (tlf i).length) => boolC_at h
      generalize (stf i).L n = L1 at *
      generalize (stf i).P n = P1 at *
      generalize (stf i).q = q1 at *
      generalize ((stf i).w : Int) = w1 at *
      generalize tlf i = tl at *
      clear hst hstep h0 hW hLs hPo hz co1 co2 cd cy cf hcr hnone
      rcases hWq with rfl | rfl
      all_goals
        repeat' ((try conv => whnf) <;> (first | (refine Hold.mk ?_) | (refine And.intro (fun _ => ?_) (fun h => Bool.noConfusion h)) | (refine And.intro (fun h => Bool.noConfusion h) (fun _ => ?_)) | (refine And.intro (Nat.le_of_ble_eq_true rfl) ?_) | (refine And.intro (fun _ => ?_) (fun h => Bool.noConfusion ((beq_self_eq_true _).symm.trans h))) | (refine And.intro (fun h => Bool.noConfusion ((bne_self_eq_false _).symm.trans h)) (fun _ => ?_)) | (refine And.intro (fun h => Bool.noConfusion ((beq_self_eq_true _).symm.trans h)) (fun _ => ?_)) | (refine And.intro (fun _ => ?_) (fun h => Bool.noConfusion ((bne_self_eq_false _).symm.trans h))) | (refine And.intro (show inR _ from ⟨by omega, by omega⟩) ?_) | (refine ⟨_, _, _, f1, ?_⟩) | (refine ⟨_, _, _, f2, ?_⟩) | (refine ⟨_, _, _, k1, ?_⟩) | (refine ⟨_, _, _, k2, ?_⟩) | (refine ⟨_, _, _, k3, ?_⟩) | (refine ⟨_, _, _, n1, ?_⟩) | (refine ⟨_, _, _, n2, ?_⟩) | (refine ⟨_, _, _, n3, ?_⟩) | (refine ⟨_, _, _, cs, ?_⟩) | (refine ⟨[], [0, 0, 0, 6, 14, 30, 0, 0, 192, 448, 960, 1984, 4095, 8191], len_ok rfl (by kernel_rfl), ?_⟩) | (exact True.intro) | (refine And.intro (show eqT _ _ = true by kernel_rfl) ?_) | (refine And.intro rfl ?_) | (refine And.intro (And.intro (Nat.le_of_ble_eq_true rfl) rfl) ?_) | (refine And.intro (And.intro rfl rfl) ?_) | (refine And.intro (And.intro rfl (And.intro rfl rfl)) ?_) | (exact And.intro rfl (And.intro rfl rfl)) | (exact And.intro rfl rfl) | (refine br_lt ?_ ?_ <;> intro hBr <;> (first | (exfalso; omega) | (exfalso; contradiction) | (exfalso; exact hBr rfl) | skip)) | (refine br_lt_ ?_ ?_ <;> intro hBr <;> (first | (exfalso; omega) | (exfalso; contradiction) | (exfalso; exact hBr rfl) | skip)) | (refine br_le ?_ ?_ <;> intro hBr <;> (first | (exfalso; omega) | (exfalso; contradiction) | (exfalso; exact hBr rfl) | skip)) | (refine br_le_ ?_ ?_ <;> intro hBr <;> (first | (exfalso; omega) | (exfalso; contradiction) | (exfalso; exact hBr rfl) | skip)) | (refine br_eq ?_ ?_ <;> intro hBr <;> (first | (exfalso; omega) | (exfalso; contradiction) | (exfalso; exact hBr rfl) | skip)) | (refine br_eq_ ?_ ?_ <;> intro hBr <;> (first | (exfalso; omega) | (exfalso; contradiction) | (exfalso; exact hBr rfl) | skip)) | (refine br_seq ?_ ?_ <;> intro hBr <;> (first | (exfalso; omega) | (exfalso; contradiction) | (exfalso; exact hBr rfl) | skip)) | (refine br_seq_ ?_ ?_ <;> intro hBr <;> (first | (exfalso; omega) | (exfalso; contradiction) | (exfalso; exact hBr rfl) | skip)) | (refine br_not ?_) | (refine br_not_ ?_) | (refine br_and ?_) | (refine br_and_ ?_) | (refine And.intro (by omega) ?_) | (refine ⟨_, wrap_i64 (by omega), ?_⟩) | (refine ⟨_, wrap_u64 (by omega) (by omega), ?_⟩) | (refine ⟨_, wrap_u8 (by omega) (by omega), ?_⟩) | (refine ⟨_, wrap_u32 (by omega) (by omega), ?_⟩) | (refine ⟨_, wrap_u16 (by omega) (by omega), ?_⟩) | (refine ⟨_, rfl, ?_⟩) | (exact rfl)))
        refine ⟨[16, 7, 8, 11, 12], [], fun vs bl => ∃ j : Nat, j ≤ n ∧ (vs = [Z j, Z n, .ptr 0 0, .ptr 1 0, .sl 2 n] ∧ bl = readB D1 w1 L w (boolC tl)), muL n, ?_, ?_⟩
        · exact ⟨0, by omega, rfl, rfl⟩
        rintro vs bl ⟨j, hj, rfl, rfl⟩
        by_cases hjn : j < n
        · have r1 := r1 j (by omega)
          have r2 := r2 j (by omega)
          have bt := bt j (by omega)
          have h64 : (bs (D1[j]'(by omega))).size = 64 := by rw [bs_size]; exact hsec _ (List.getElem_mem _)
          have hd : n - ((j : Int) + 1).toNat < n - (j : Int).toNat := by omega
          have hse : tl[j]'(by omega) = false → D1[j]'(by omega) = L[j]'(by omega) := fun e => by
            have := hsame j hjn (by rw [List.getElem?_eq_getElem (by omega), e])
            rwa [secGet (by omega), secGet (by omega)] at this
          generalize D1[j]'(by omega) = x1 at *
          generalize L[j]'(by omega) = x2 at *
          generalize tl[j]'(by omega) = b at *
          clear hsame hsec
          cases b with
          | true =>
            repeat' ((try conv => whnf) <;> (first | (refine Hold.mk ?_) | (refine And.intro (fun _ => ?_) (fun h => Bool.noConfusion h)) | (refine And.intro (fun h => Bool.noConfusion h) (fun _ => ?_)) | (refine And.intro (Nat.le_of_ble_eq_true rfl) ?_) | (refine And.intro (fun _ => ?_) (fun h => Bool.noConfusion ((beq_self_eq_true _).symm.trans h))) | (refine And.intro (fun h => Bool.noConfusion ((bne_self_eq_false _).symm.trans h)) (fun _ => ?_)) | (refine And.intro (fun h => Bool.noConfusion ((beq_self_eq_true _).symm.trans h)) (fun _ => ?_)) | (refine And.intro (fun _ => ?_) (fun h => Bool.noConfusion ((bne_self_eq_false _).symm.trans h))) | (refine And.intro (show inR _ from ⟨by omega, by omega⟩) ?_) | (refine ⟨_, _, _, r1, ?_⟩) | (refine ⟨_, _, _, r2, ?_⟩) | (refine ⟨_, bt, ?_⟩) | (refine ⟨[], [0, 0, 0, 6, 14, 30, 0, 0, 192, 448, 960, 1984, 4095, 8191], len_ok rfl (by kernel_rfl), ?_⟩) | (exact True.intro) | (refine And.intro (show eqT _ _ = true by kernel_rfl) ?_) | (refine And.intro rfl ?_) | (refine And.intro (And.intro (Nat.le_of_ble_eq_true rfl) rfl) ?_) | (refine And.intro (And.intro rfl rfl) ?_) | (refine And.intro (And.intro rfl (And.intro rfl rfl)) ?_) | (exact And.intro rfl (And.intro rfl rfl)) | (exact And.intro rfl rfl) | (refine br_lt ?_ ?_ <;> intro hBr <;> (first | (exfalso; omega) | (exfalso; contradiction) | (exfalso; exact hBr rfl) | skip)) | (refine br_lt_ ?_ ?_ <;> intro hBr <;> (first | (exfalso; omega) | (exfalso; contradiction) | (exfalso; exact hBr rfl) | skip)) | (refine br_le ?_ ?_ <;> intro hBr <;> (first | (exfalso; omega) | (exfalso; contradiction) | (exfalso; exact hBr rfl) | skip)) | (refine br_le_ ?_ ?_ <;> intro hBr <;> (first | (exfalso; omega) | (exfalso; contradiction) | (exfalso; exact hBr rfl) | skip)) | (refine br_eq ?_ ?_ <;> intro hBr <;> (first | (exfalso; omega) | (exfalso; contradiction) | (exfalso; exact hBr rfl) | skip)) | (refine br_eq_ ?_ ?_ <;> intro hBr <;> (first | (exfalso; omega) | (exfalso; contradiction) | (exfalso; exact hBr rfl) | skip)) | (refine br_seq ?_ ?_ <;> intro hBr <;> (first | (exfalso; omega) | (exfalso; contradiction) | (exfalso; exact hBr rfl) | skip)) | (refine br_seq_ ?_ ?_ <;> intro hBr <;> (first | (exfalso; omega) | (exfalso; contradiction) | (exfalso; exact hBr rfl) | skip)) | (refine br_not ?_) | (refine br_not_ ?_) | (refine br_and ?_) | (refine br_and_ ?_) | (refine And.intro (by omega) ?_) | (refine ⟨_, wrap_i64 (by omega), ?_⟩) | (refine ⟨_, wrap_u64 (by omega) (by omega), ?_⟩) | (refine ⟨_, wrap_u8 (by omega) (by omega), ?_⟩) | (refine ⟨_, wrap_u32 (by omega) (by omega), ?_⟩) | (refine ⟨_, wrap_u16 (by omega) (by omega), ?_⟩) | (refine ⟨_, rfl, ?_⟩) | (exact rfl)))
            exact ⟨⟨j + 1, by omega, rfl, rfl⟩, hd⟩
          | false =>
            have hse := hse rfl
            subst hse
            repeat' ((try conv => whnf) <;> (first | (refine Hold.mk ?_) | (refine And.intro (fun _ => ?_) (fun h => Bool.noConfusion h)) | (refine And.intro (fun h => Bool.noConfusion h) (fun _ => ?_)) | (refine And.intro (Nat.le_of_ble_eq_true rfl) ?_) | (refine And.intro (fun _ => ?_) (fun h => Bool.noConfusion ((beq_self_eq_true _).symm.trans h))) | (refine And.intro (fun h => Bool.noConfusion ((bne_self_eq_false _).symm.trans h)) (fun _ => ?_)) | (refine And.intro (fun h => Bool.noConfusion ((beq_self_eq_true _).symm.trans h)) (fun _ => ?_)) | (refine And.intro (fun _ => ?_) (fun h => Bool.noConfusion ((bne_self_eq_false _).symm.trans h))) | (refine And.intro (show inR _ from ⟨by omega, by omega⟩) ?_) | (refine ⟨_, _, _, r1, ?_⟩) | (refine ⟨_, _, _, r2, ?_⟩) | (refine ⟨_, bt, ?_⟩) | (refine ⟨[], [0, 0, 0, 6, 14, 30, 0, 0, 192, 448, 960, 1984, 4095, 8191], len_ok rfl (by kernel_rfl), ?_⟩) | (exact True.intro) | (refine And.intro (show eqT _ _ = true by kernel_rfl) ?_) | (refine And.intro rfl ?_) | (refine And.intro (And.intro (Nat.le_of_ble_eq_true rfl) rfl) ?_) | (refine And.intro (And.intro rfl rfl) ?_) | (refine And.intro (And.intro rfl (And.intro rfl rfl)) ?_) | (exact And.intro rfl (And.intro rfl rfl)) | (exact And.intro rfl rfl) | (refine br_lt ?_ ?_ <;> intro hBr <;> (first | (exfalso; omega) | (exfalso; contradiction) | (exfalso; exact hBr rfl) | skip)) | (refine br_lt_ ?_ ?_ <;> intro hBr <;> (first | (exfalso; omega) | (exfalso; contradiction) | (exfalso; exact hBr rfl) | skip)) | (refine br_le ?_ ?_ <;> intro hBr <;> (first | (exfalso; omega) | (exfalso; contradiction) | (exfalso; exact hBr rfl) | skip)) | (refine br_le_ ?_ ?_ <;> intro hBr <;> (first | (exfalso; omega) | (exfalso; contradiction) | (exfalso; exact hBr rfl) | skip)) | (refine br_eq ?_ ?_ <;> intro hBr <;> (first | (exfalso; omega) | (exfalso; contradiction) | (exfalso; exact hBr rfl) | skip)) | (refine br_eq_ ?_ ?_ <;> intro hBr <;> (first | (exfalso; omega) | (exfalso; contradiction) | (exfalso; exact hBr rfl) | skip)) | (refine br_seq ?_ ?_ <;> intro hBr <;> (first | (exfalso; omega) | (exfalso; contradiction) | (exfalso; exact hBr rfl) | skip)) | (refine br_seq_ ?_ ?_ <;> intro hBr <;> (first | (exfalso; omega) | (exfalso; contradiction) | (exfalso; exact hBr rfl) | skip)) | (refine br_not ?_) | (refine br_not_ ?_) | (refine br_and ?_) | (refine br_and_ ?_) | (refine And.intro (by omega) ?_) | (refine ⟨_, wrap_i64 (by omega), ?_⟩) | (refine ⟨_, wrap_u64 (by omega) (by omega), ?_⟩) | (refine ⟨_, wrap_u8 (by omega) (by omega), ?_⟩) | (refine ⟨_, wrap_u32 (by omega) (by omega), ?_⟩) | (refine ⟨_, wrap_u16 (by omega) (by omega), ?_⟩) | (refine ⟨_, rfl, ?_⟩) | (exact rfl)))
            exact ⟨⟨j + 1, by omega, rfl, rfl⟩, hd⟩
        · clear hsame hsec r1 r2 bt
          repeat' ((try conv => whnf) <;> (first | (refine Hold.mk ?_) | (refine And.intro (fun _ => ?_) (fun h => Bool.noConfusion h)) | (refine And.intro (fun h => Bool.noConfusion h) (fun _ => ?_)) | (refine And.intro (Nat.le_of_ble_eq_true rfl) ?_) | (refine And.intro (fun _ => ?_) (fun h => Bool.noConfusion ((beq_self_eq_true _).symm.trans h))) | (refine And.intro (fun h => Bool.noConfusion ((bne_self_eq_false _).symm.trans h)) (fun _ => ?_)) | (refine And.intro (fun h => Bool.noConfusion ((beq_self_eq_true _).symm.trans h)) (fun _ => ?_)) | (refine And.intro (fun _ => ?_) (fun h => Bool.noConfusion ((bne_self_eq_false _).symm.trans h))) | (refine And.intro (show inR _ from ⟨by omega, by omega⟩) ?_) | (refine ⟨_, aw, ?_⟩) | (refine ⟨[], [0, 0, 0, 6, 14, 30, 0, 0, 192, 448, 960, 1984, 4095, 8191], len_ok rfl (by kernel_rfl), ?_⟩) | (exact True.intro) | (refine And.intro (show eqT _ _ = true by kernel_rfl) ?_) | (refine And.intro rfl ?_) | (refine And.intro (And.intro (Nat.le_of_ble_eq_true rfl) rfl) ?_) | (refine And.intro (And.intro rfl rfl) ?_) | (refine And.intro (And.intro rfl (And.intro rfl rfl)) ?_) | (exact And.intro rfl (And.intro rfl rfl)) | (exact And.intro rfl rfl) | (refine br_lt ?_ ?_ <;> intro hBr <;> (first | (exfalso; omega) | (exfalso; contradiction) | (exfalso; exact hBr rfl) | skip)) | (refine br_lt_ ?_ ?_ <;> intro hBr <;> (first | (exfalso; omega) | (exfalso; contradiction) | (exfalso; exact hBr rfl) | skip)) | (refine br_le ?_ ?_ <;> intro hBr <;> (first | (exfalso; omega) | (exfalso; contradiction) | (exfalso; exact hBr rfl) | skip)) | (refine br_le_ ?_ ?_ <;> intro hBr <;> (first | (exfalso; omega) | (exfalso; contradiction) | (exfalso; exact hBr rfl) | skip)) | (refine br_eq ?_ ?_ <;> intro hBr <;> (first | (exfalso; omega) | (exfalso; contradiction) | (exfalso; exact hBr rfl) | skip)) | (refine br_eq_ ?_ ?_ <;> intro hBr <;> (first | (exfalso; omega) | (exfalso; contradiction) | (exfalso; exact hBr rfl) | skip)) | (refine br_seq ?_ ?_ <;> intro hBr <;> (first | (exfalso; omega) | (exfalso; contradiction) | (exfalso; exact hBr rfl) | skip)) | (refine br_seq_ ?_ ?_ <;> intro hBr <;> (first | (exfalso; omega) | (exfalso; contradiction) | (exfalso; exact hBr rfl) | skip)) | (refine br_not ?_) | (refine br_not_ ?_) | (refine br_and ?_) | (refine br_and_ ?_) | (refine And.intro (by omega) ?_) | (refine ⟨_, wrap_i64 (by omega), ?_⟩) | (refine ⟨_, wrap_u64 (by omega) (by omega), ?_⟩) | (refine ⟨_, wrap_u8 (by omega) (by omega), ?_⟩) | (refine ⟨_, wrap_u32 (by omega) (by omega), ?_⟩) | (refine ⟨_, wrap_u16 (by omega) (by omega), ?_⟩) | (refine ⟨_, rfl, ?_⟩) | (exact rfl)))
end Go.Proofs.Ytdjdcpbakeahcaa.Av
