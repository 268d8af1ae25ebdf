/- stamp: the law on torn sectors holds of all marks, payloads and cuts. No conditions but that numbers have 64 bits. -/
import Derived.Test.YtjfkfldlmhbnkaaStamp11
namespace Go.Proofs.Ytjfkfldlmhbnkaa.Av
open Go Go.RowKit
set_option linter.unusedVariables false
set_option linter.unusedSimpArgs false
set_option maxRecDepth 100000

theorem tell_zeros : ∀ n, Quill.tell (List.replicate n 0) = 0
  | 0 => rfl
  | n + 1 => by
    have := tell_zeros n
    simp [Quill.tell, List.replicate_succ] at this ⊢
    first | exact this | omega
theorem raw_torn {f o : List UInt8} {c : Nat} (hf : f.length = 64) (ho : o.length = 64) : rawS f o c = bs (torn f o (c % 65)) := by
  show (bs f).extract (0 : Int).toNat ((c : Int) % 65).toNat ++ (bs o).extract ((c : Int) % 65).toNat ((bs o).size : Int).toNat = _
  have e1 : ((c : Int) % 65).toNat = c % 65 := by omega
  have e2 : (0 : Int).toNat = 0 := rfl
  have e3 : ((bs o).size : Int).toNat = 64 := by rw [bs_size, ho]; rfl
  rw [e1, e2, e3, bs_cut, bs_cut, bs_add, torn, List.drop_zero, Nat.sub_zero, List.take_of_length_le (l := o.drop (c % 65)) (by rw [List.length_drop]; omega)]
theorem raw_room {f o : List UInt8} {c : Nat} (hf : f.length = 64) (ho : o.length = 64) : ((bs f).extract (0 : Int).toNat ((c : Int) % 65).toNat).size + ((bs o).extract ((c : Int) % 65).toNat ((bs o).size : Int).toNat).size ≤ 9223372036854775807 := by
  rw [bs_cut, bs_cut, bs_size, bs_size, List.length_take, List.length_take, List.length_drop, List.length_drop]; omega
theorem torn_all (m0 m1 : Nat) (a0 a1 : List UInt8) (c : Nat) (hm0 : m0 < 18446744073709551616) (hm1 : m1 < 18446744073709551616) (hc : c < 256) :
    SP 5 [mks m0 m1, txts a0 a1, .ex (.int .u8 c)] (B true) := by
  by_cases hg : m1 = 0 ∨ m0 = m1 ∨ 48 < (bs a0).size ∨ 48 < (bs a1).size
  · exact torn_out m0 m1 a0 a1 c hg
  have n1 : m1 ≠ 0 := by omega
  have hne : m0 ≠ m1 := by omega
  have l0 : ¬ 48 < (bs a0).size := by omega
  have l1 : ¬ 48 < (bs a1).size := by omega
  have q0 : a0.length ≤ 48 := by rw [bs_size] at l0; omega
  have q1 : a1.length ≤ 48 := by rw [bs_size] at l1; omega
  clear hg
  have hf : (sec m1 a1).length = 64 := sec_len m1 a1 q1
  have s1 := seal_yes m1 a1 n1 hm1 q1
  have f1 := hd_sec a1 hm1
  have f2 := tl_sec a1 hm1 q1
  generalize sec m1 a1 = f at hf s1 f1 f2
  have hz : zeroL [AV.ex (.int .u8 0)] 64 = bytesA (List.replicate 64 0) := rfl
  have hk : c % 65 ≤ 64 := by omega
  by_cases h0 : m0 = 0
  · have ho : (List.replicate 64 (0 : UInt8)).length = 64 := by simp
    have o1 : hdM (List.replicate 64 0) = m0 := by rw [h0]; exact (by rw [hdM, List.take_replicate]; exact tell_zeros _)
    have o2 : tlM (List.replicate 64 0) = m0 := by rw [h0]; exact (by rw [tlM, List.drop_replicate]; exact tell_zeros _)
    generalize List.replicate 64 (0 : UInt8) = o at hz ho o1 o2
    have ht := torn_tells hf ho f1 f2 o1 o2 n1 hne hk
    have hr := raw_torn (c := c) hf ho
    have hra := raw_room (c := c) hf ho
    have hl := torn_len (k := c % 65) hf ho
    have hO := open_ok (torn f o (c % 65))
    generalize torn f o (c % 65) = t at ht hr hl hO
    have hbt : (bs t).size = 64 := by rw [bs_size]; exact hl
    have hbo : (bs o).size = 64 := by rw [bs_size]; exact ho
    have hbf : (bs f).size = 64 := by rw [bs_size]; exact hf
    generalize opn t = r at ht hO
    obtain ⟨m, p, g⟩ := r
    dsimp only at ht hO
    rcases ht with ⟨rfl, e1, e2⟩ | ⟨rfl, e1⟩ | ⟨rfl, e1, e2⟩
    · exact torn_4z m0 m1 m a0 a1 o f p o t c hne n1 l0 l1 hbo hbf hz ho hc hr hra hbt s1 h0 rfl hO e1 e2
    · exact torn_6z m0 m1 m a0 a1 o f p o t c hne n1 l0 l1 hbo hbf hz ho hc hr hra hbt s1 h0 rfl hO
    · have hq : ((bs p).toList == ((bs t).extract (8 : Int).toNat (56 : Int).toNat).toList) = true := by
        rw [bs_cut, e1]; exact beq_self_eq_true _
      rcases e2 with ⟨rfl, e3⟩ | ⟨rfl, e3⟩
      · exact torn_oz m m1 m a0 a1 o f p o t c hne n1 l0 l1 hbo hbf hz ho hc hr hra hbt hq s1 h0 rfl hO e3
      · exact torn_fz m0 m m a0 a1 o f p o t c hne n1 l0 l1 hbo hbf hz ho hc hr hra hbt hq s1 h0 rfl hO e3
  · have ho : (sec m0 a0).length = 64 := sec_len m0 a0 q0
    have s0 := seal_yes m0 a0 h0 hm0 q0
    have o1 := hd_sec a0 hm0
    have o2 := tl_sec a0 hm0 q0
    generalize sec m0 a0 = o at ho s0 o1 o2
    have ht := torn_tells hf ho f1 f2 o1 o2 n1 hne hk
    have hr := raw_torn (c := c) hf ho
    have hra := raw_room (c := c) hf ho
    have hl := torn_len (k := c % 65) hf ho
    have hO := open_ok (torn f o (c % 65))
    generalize torn f o (c % 65) = t at ht hr hl hO
    have hbt : (bs t).size = 64 := by rw [bs_size]; exact hl
    have hbo : (bs o).size = 64 := by rw [bs_size]; exact ho
    have hbf : (bs f).size = 64 := by rw [bs_size]; exact hf
    have hz2 : (List.replicate 64 (0 : UInt8)).length = 64 := by simp
    generalize List.replicate 64 (0 : UInt8) = z at hz hz2
    generalize opn t = r at ht hO
    obtain ⟨m, p, g⟩ := r
    dsimp only at ht hO
    rcases ht with ⟨rfl, e1, e2⟩ | ⟨rfl, e1⟩ | ⟨rfl, e1, e2⟩
    · exact torn_4s m0 m1 m a0 a1 o f p z t c hne n1 l0 l1 hbo hbf hz hz2 hc hr hra hbt s1 h0 s0 hO e1 e2
    · exact absurd e1 h0
    · have hq : ((bs p).toList == ((bs t).extract (8 : Int).toNat (56 : Int).toNat).toList) = true := by
        rw [bs_cut, e1]; exact beq_self_eq_true _
      rcases e2 with ⟨rfl, e3⟩ | ⟨rfl, e3⟩
      · exact torn_os m m1 m a0 a1 o f p z t c hne n1 l0 l1 hbo hbf hz hz2 hc hr hra hbt hq s1 h0 s0 hO e3
      · exact torn_fs m0 m m a0 a1 o f p z t c hne n1 l0 l1 hbo hbf hz hz2 hc hr hra hbt hq s1 h0 s0 hO e3
theorem cells_uu {cs : Array Value} (h : CellsOk [.int .u64, .int .u64] cs.toList) : ∃ a b : Nat, a < 18446744073709551616 ∧ b < 18446744073709551616 ∧ cs = #[.int .u64 a, .int .u64 b] := by
  obtain ⟨v0, r0, e0, ⟨k0, rfl, hk0⟩, hr0⟩ := h.cons_
  obtain ⟨v1, r1, e1, ⟨k1, rfl, hk1⟩, hr1⟩ := hr0.cons_
  have e2 := hr1.empty_
  subst e2 e1
  have b0 := bounds_u64 hk0
  have b1 := bounds_u64 hk1
  refine ⟨k0.toNat, k1.toNat, by omega, by omega, ?_⟩
  rw [Int.toNat_of_nonneg b0.1, Int.toNat_of_nonneg b1.1]
  apply Array.ext'
  rw [e0]
theorem cells_ss {cs : Array Value} (h : CellsOk [.str, .str] cs.toList) : ∃ a b : List UInt8, cs = #[.string (bs a), .string (bs b)] := by
  obtain ⟨v0, r0, e0, ⟨t0, rfl, ht0⟩, hr0⟩ := h.cons_
  obtain ⟨v1, r1, e1, ⟨t1, rfl, ht1⟩, hr1⟩ := hr0.cons_
  have e2 := hr1.empty_
  subst e2 e1
  refine ⟨t0, t1, ?_⟩
  apply Array.ext'
  rw [e0]
theorem stampTorn_walk (a b : Array Value) (c : UInt8) (w : World) (ha : CellsOk [.int .u64, .int .u64] a.toList) (hb : CellsOk [.str, .str] b.toList) :
    Calls Try.prog 5 #[.agg a, .agg b, .int .u8 (c.toNat : Int)] w fun e w' => e = .returned (.bool true) ∧ Below w.heap.size w w' := by
  obtain ⟨m0, m1, h0, h1, rfl⟩ := cells_uu ha
  obtain ⟨a0, a1, rfl⟩ := cells_ss hb
  refine calls_at (avs := [mks m0 m1, txts a0 a1, .ex (.int .u8 c.toNat)]) (torn_all m0 m1 a0 a1 c.toNat h0 h1 c.toNat_lt) w (fun _ _ => False) (fun _ _ h => h.elim) _ rfl fun j hj => ?_
  match j, hj with
  | 0, _ => exact .ex _ _
  | 1, _ => exact .ex _ _
  | 2, _ => exact .ex _ _
end Go.Proofs.Ytjfkfldlmhbnkaa.Av
