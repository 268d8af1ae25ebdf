/- The abstract machine's operations are true of the model: append, make, conversions, indexes and cuts. No program's law is stated here. No conditions. -/
import Derived.Test.YtfonmnodjmeigaaAv8
namespace Go.Proofs.Ytfonmnodjmeigaa.Av
open Go Go.RowKit
set_option linter.unusedVariables false
set_option linter.unusedSimpArgs false

section
variable {P : Program} {o : Oper} {sl : Sl} {h : Hp} {nx : Nat} {k : Kt}
theorem ok_append {cl : Call} {s x : Operand} {t tx : TypeId} (ho : o.op = .call cl) (hc : cl.callee = .builtin .append) (ha : cl.args.toList = [s, x]) (ht : cl.argTypes.toList = [t, tx])
    (hk : opAppend P sl h nx t tx s x k) : Is P o sl h nx k := by
  have ha' : cl.args = #[s, x] := by rw [← Array.toList_inj]; exact ha
  have ht' : cl.argTypes = #[t, tx] := by rw [← Array.toList_inj]; exact ht
  unfold opAppend at hk
  split at hk
  case h_2 => exact hk.elim
  rename_i e hu
  split at hk
  case h_3 => exact hk.elim
  · rename_i e' htx
    split at hk
    case h_2 => exact hk.elim
    rename_i m ds px hs
    refine ok_appendOn ho hc ha' ht' hu (fun hpre => ⟨hpre.1, fun w p c F D a hev hl => ?_⟩) hk
    exact readS_ok hs (hev x) hl htx hpre.1 hpre.2
  · rename_i htx
    split at hk
    case h_2 => exact hk.elim
    rename_i b hx hone
    have h1 : 1 = sizeT P e := Nat.eq_of_beq_eq_true hone
    refine ok_appendOn ho hc ha' ht' hu (fun hpre => ⟨by rw [← h1]; simp [bytesA], fun w p c F D a hev hl => ?_⟩) hk
    have hxv := (hx ▸ hev x : Rep w p c F D _ _).ex_inv
    obtain ⟨q1, q2, q3⟩ := byte_src (w := w) (p := p) (c := c) (F := F) htx b
    rw [← h1, hxv]
    exact ⟨_, q1, q2, q3⟩
theorem zeroL_length (z : List AV) : ∀ n, (zeroL z n).length = n * z.length
  | 0 => by simp [zeroL]
  | n + 1 => by rw [zeroL, List.length_append, zeroL_length z n, Nat.succ_mul]; omega
theorem zeroL_at (z : List AV) : ∀ (n j : Nat) (h : j < (zeroL z n).length) (h2 : j % z.length < z.length), (zeroL z n)[j] = z[j % z.length]
  | 0, j, h, _ => by simp [zeroL] at h
  | n + 1, j, h, h2 => by
    simp only [zeroL]
    by_cases h1 : j < z.length
    · rw [List.getElem_append_left h1]
      have : j % z.length = j := Nat.mod_eq_of_lt h1
      simp [this]
    · rw [List.getElem_append_right (by omega)]
      have e : (j - z.length) % z.length = j % z.length := (Nat.mod_eq_sub_mod (by omega)).symm
      have h3 : j - z.length < (zeroL z n).length := by
        simp only [zeroL, List.length_append] at h; omega
      rw [zeroL_at z n (j - z.length) h3 (by rw [e]; exact h2)]
      simp [e]
theorem ok_make {t : TypeId} {x y : Operand} (ho : o.op = .makeSlice t x y) (hk : opMake P sl nx t x y k) : Is P o sl h nx k := by
  unfold opMake at hk
  split at hk
  case h_2 => exact hk.elim
  rename_i e hu
  split at hk
  case h_2 => exact hk.elim
  rename_i z kn n kc c hz hx hy
  split at hk
  case h_2 => exact hk.elim
  rename_i hzs hpos hbp
  obtain ⟨⟨h0, h1, hroom⟩, hk⟩ := hk
  obtain ⟨i, hi, his, hib⟩ := info_of hpos
  have hz' : i.zero = some z := by unfold zeroT at hz; rw [hi] at hz; exact hz
  have hzs' : z.cells.size = sizeT P e := Nat.eq_of_beq_eq_true hzs
  have hspos : 0 < sizeT P e := Nat.pos_of_ne_zero (size_run (P := P) (w := default) hpos).2
  obtain ⟨hr1, hr2⟩ := hroom
  have hzl : (AV.ex z).cells.length = sizeT P e := by
    rw [← hzs']; cases z <;> simp [AV.cells, Value.cells]
  have hnc : n.toNat ≤ c.toNat := by omega
  refine ⟨_, _, _, okNew (.inr ⟨_, rfl⟩) fun w p cc F D a hev hl => ⟨w.alloc (.cells (madeCells z.cells (c.toNat * i.size)) e), madeCells z.cells (c.toNat * i.size), e, (0, 0), c.toNat, ?_, below_alloc w _, heap_alloc_new w _, by simp, ?_, fun j hj => ?_, (fun e' he => by injection he with he; subst he; exact ⟨rfl, by rw [size_madeCells, his], by omega⟩), (fun n' hn' => by injection hn' with _ hn'; omega)⟩, hk⟩
  · have hx' := (hx ▸ hev x : Rep w p cc F D _ _).ex_inv
    have hy' := (hy ▸ hev y : Rep w p cc F D _ _).ex_inv
    have hb : (i.bytes : Int) * c ≤ 281474976710656 := by
      rw [hib]
      have e1 : (bytesT P e : Int) * c = ((c.toNat * bytesT P e : Nat) : Int) := by
        rw [Int.natCast_mul, Int.toNat_of_nonneg (by omega), Int.mul_comm]
      rw [e1]; omega
    have := run_make (P := P) w t e i z hu hi hz' kn kc n c h0 h1 hb (by omega)
    simp only [execOp, ho, hx', hy', Sem.run_bind, this, Result.andThen_ok, Sem.run_pure]
  · rw [zeroL_length, hzl, size_madeCells, his]; exact Nat.mul_le_mul_right _ hnc
  · rw [zeroL_length, hzl] at hj
    have hm : j % (AV.ex z).cells.length < (AV.ex z).cells.length := Nat.mod_lt _ (by rw [hzl]; exact hspos)
    have hj2 : j < c.toNat * i.size := by rw [his]; exact Nat.lt_of_lt_of_le hj (Nat.mul_le_mul_right _ hnc)
    rw [zeroL_at _ _ _ _ hm]
    have e1 : (madeCells z.cells (c.toNat * i.size)).getD j undef = z.cells.getD (j % z.cells.size) undef := by
      have hm2 : j % z.cells.size < z.cells.size := Nat.mod_lt _ (by omega)
      simp [madeCells, hj2, hm2]
    have e2 : (AV.ex z).cells.length = z.cells.size := by rw [hzl, hzs']
    have h3 := ((Rep.ex (w := w) (p := p) (c := cc) (F := F) noD z).cells (by simp)).2 _ hm
    have e4 : z.cells.getD (j % (AV.ex z).cells.length) undef = z.cells.getD (j % z.cells.size) undef := by rw [e2]
    rw [e1, ← e4]
    exact h3
theorem ok_convert {src dst : TypeId} {x : Operand} (ho : o.op = .convert src dst x) (hk : opConvert P sl h nx o src dst x k) : Is P o sl h nx k := by
  unfold opConvert at hk
  split at hk
  · rename_i e hs hd
    split at hk
    case h_2 => exact hk.elim
    rename_i s he hx
    split at hk
    case h_2 => exact hk.elim
    rename_i hone
    obtain ⟨hsz, hk⟩ := hk
    have h1 : 1 = sizeT P e := Nat.eq_of_beq_eq_true hone
    refine ⟨_, _, _, okNew (.inr ⟨_, rfl⟩) fun w p cc F D a hev hl => ⟨Lib.bytesWorld w e s, Lib.bytesCells w e s, e, _, grownCap w s.size 0 e, ?_, ?_, Lib.bytesWorld_at_new w e s, by simp, ?_, fun j hj => ?_, (fun e' he => by
        injection he with he; subst he
        refine ⟨rfl, ?_, ?_⟩
        · have := grownCap_ge w s.size 0 e
          rw [← h1, Nat.mul_one]
          simp only [Lib.bytesCells, Array.size_append, Array.size_map, Array.size_replicate]
          have e3 : s.data.size = s.size := rfl
          omega
        · have := grownCap_le_maxLen w s.size 0 e (by unfold maxLen; omega); unfold maxLen at this; omega), (fun n' hn' => by injection hn' with _ hn'; rw [← hn']; exact grownCap_ge w s.size 0 e)⟩, hk⟩
    · have hx' := (hx ▸ hev x : Rep w p cc F D _ _).ex_inv
      have := Lib.run_convert_string_bytes (P := P) w src dst e s hs hd he
      simp only [execOp, ho, hx', Sem.run_bind, this, Result.andThen_ok, Sem.run_pure]
    · exact ⟨rfl, rfl, rfl, by rw [Lib.bytesWorld_size]; omega, fun k hk => Lib.bytesWorld_at_old w e s k hk⟩
    · simp [Lib.bytesCells, bytesA]
    · have hj' : j < s.data.toList.length := by simpa [bytesA] using hj
      have e1 : (bytesA s.data.toList)[j] = byteA s.data.toList[j] := by simp [bytesA]
      have hj2 : j < s.data.size := by simpa using hj'
      have e2 : (Lib.bytesCells w e s).getD j undef = .int .u8 (s.data.toList[j].toNat : Int) := by
        simp only [Lib.bytesCells, Array.getD_eq_getD_getElem?]
        rw [Array.getElem?_append_left (by simpa using hj2)]
        have e3 : s.data[j]? = some s.data[j] := Array.getElem?_eq_getElem hj2
        simp [e3]
      rw [e1, e2]; exact .ex _ _
  · rename_i e hs hd
    split at hk
    case h_2 => exact hk.elim
    rename_i he
    split at hk
    case h_2 => exact hk.elim
    rename_i n cs px hrs
    obtain ⟨l, ⟨hcs, hn⟩, hk⟩ := hk
    subst hcs hn
    refine ⟨_, _, _, okRead fun w p c F D a hev hl => ?_, hk⟩
    obtain ⟨news, hsr, hnl, hdo⟩ := readS_ok (size := 1) hrs (hev x) (fun r b hb => (hl r b hb).2) hs (by simp [bytesA]) (by
      intro v hv
      obtain ⟨b, _, rfl⟩ := List.mem_map.1 hv
      rfl)
    have hat : ∀ j (hj : j < l.length), news.getD j undef = .int .u8 (l[j].toNat : Int) := by
      intro j hj
      have hj' : j < (bytesA l).length := by simpa [bytesA] using hj
      have h2 := hdo j hj'
      have e1 : (bytesA l)[j] = byteA l[j] := by simp [bytesA]
      rw [e1] at h2
      have : Rep w p c F D (byteA l[j]) (news.getD j undef) := h2.pu
      exact this.ex_inv
    have conv : ∀ (ad : Addr) (cap : Nat), a.eval x = .slice (some ad) l.length cap → (∀ j (hj : j < l.length), w.cell? (ad.add j) = some (.int .u8 (l[j].toNat : Int))) → ∃ y, (execOp a.eval o).run P w = .ok (.value y) w ∧ Rep w p c F D (.ex (.string ⟨l.toArray⟩)) y := by
      intro ad cap hx hc
      have := run_convert_bytes_back (P := P) w src dst e ad cap l hs he hd hc
      exact ⟨_, by simp only [execOp, ho, hx, Sem.run_bind, this, Result.andThen_ok, Sem.run_pure], .ex _ _⟩
    have nilc : a.eval x = .slice none 0 0 → l = [] → ∃ y, (execOp a.eval o).run P w = .ok (.value y) w ∧ Rep w p c F D (.ex (.string ⟨l.toArray⟩)) y := by
      intro hx hl0
      subst hl0
      have := run_convert_bytes_nil (P := P) w src e hs he 0 0 dst hd
      exact ⟨_, (by simp only [execOp, ho, hx, Sem.run_bind, this, Result.andThen_ok, Sem.run_pure]; rfl), .ex _ _⟩
    have hx := hev x
    unfold readS at hrs
    split at hrs
    · rename_i n' cs' hxx
      simp only [Option.some.injEq, Prod.mk.injEq] at hrs
      obtain ⟨rfl, rfl, rfl⟩ := hrs
      rw [hxx] at hx
      rcases hx.vs_inv with ⟨h1, h2, h3⟩ | ⟨g, q, kk, u, h1, h2, h3⟩
      · exact nilc h3 (List.eq_nil_of_length_eq_zero h1)
      · refine conv _ _ h2 fun j hj => ?_
        have hj' : j < (bytesA l).length := by simpa [bytesA] using hj
        rw [Addr.add_lit, (h3.1 j hj').2]
        have h4 := h3.2 j hj'
        have e1 : (bytesA l)[j] = byteA l[j] := by simp [bytesA]
        rw [e1] at h4
        exact congrArg some h4.ex_inv
    · rename_i r n' hxx
      split at hrs
      · rename_i cs' el fz pu hb
        simp only [Option.some.injEq, Prod.mk.injEq] at hrs
        obtain ⟨rfl, rfl, rfl⟩ := hrs
        rw [hxx] at hx
        obtain ⟨hd', hn', hxv⟩ := hx.sl_inv
        have hB := (hl r _ hb).2
        cases hp : p r with
        | none =>
          unfold BlkOk at hB
          rw [hp] at hB
          obtain ⟨q1, q2, _⟩ := hB
          have hl0 : l.length = 0 := by omega
          rw [hp, q2, hl0] at hxv
          exact nilc hxv (List.eq_nil_of_length_eq_zero hl0)
        | some g =>
          rw [hp] at hxv
          refine conv ⟨g, 0, none⟩ (c r) hxv fun j hj => ?_
          have hj' : j < (bytesA l).length := by simpa [bytesA] using hj
          obtain ⟨u, q1, q2⟩ := hB.cell hp (j := j) hj'
          have e1 : (bytesA l)[j] = byteA l[j] := by simp [bytesA]
          rw [Addr.add_lit, Nat.zero_add, q1]
          have q3 : Rep w p c F D (byteA l[j]) u := e1 ▸ q2
          exact congrArg some q3.ex_inv
      · cases hrs
    · rename_i hxx
      simp only [Option.some.injEq, Prod.mk.injEq] at hrs
      obtain ⟨h1, h2, h3⟩ := hrs
      rw [hxx] at hx
      exact nilc hx.ex_inv (List.eq_nil_of_length_eq_zero h1.symm)
    · cases hrs
  · rename_i k2 hs hd
    split at hk
    · rename_i kk n hx
      obtain ⟨z, hz, hk⟩ := hk
      refine ⟨_, _, _, okQuiet fun w p c F D a hev => ⟨.int k2 z, ?_, .ex _ _⟩, hk⟩
      have h1 := (hx ▸ hev x : Rep w p c F D _ _).ex_inv
      simp [execOp, ho, h1, convert, run_underlying hs, run_underlying hd, Conv.intToInt, hz]
    · exact ok_fall (by intro cs b hh; rw [ho] at hh; cases hh) hk
  · exact ok_fall (by intro cs b hh; rw [ho] at hh; cases hh) hk
end
end Go.Proofs.Ytfonmnodjmeigaa.Av
