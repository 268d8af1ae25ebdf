/- root: the law on a torn root holds of all roots and cuts. No conditions but that numbers have their bits. -/
import Derived.Test.YtjfkfldlmhbnkaaRoot11
namespace Go.Proofs.Ytjfkfldlmhbnkaa.Av
open Go Go.RowKit
set_option linter.unusedVariables false
set_option linter.unusedSimpArgs false
set_option maxRecDepth 100000

theorem tell_zeros16 : ∀ n, Quill.tell (List.replicate n 0) = 0
  | 0 => rfl
  | n + 1 => by
    have := tell_zeros16 n
    simp [Quill.tell, List.replicate_succ] at this ⊢
    first | exact this | omega
theorem rawR_torn {f o : List UInt8} {c : Nat} (hf : f.length = 64) (ho : o.length = 64) : rawR f (bs o) c = bs (torn f o (c % 65)) := by
  show (bs f).extract (0 : Int).toNat ((c : Int) % 65).toNat ++ (bs o).extract ((c : Int) % 65).toNat ((bs o).size : Int).toNat = _
  have e1 : ((c : Int) % 65).toNat = c % 65 := by omega
  have e2 : (0 : Int).toNat = 0 := rfl
  have e3 : ((bs o).size : Int).toNat = 64 := by rw [bs_size, ho]; rfl
  rw [e1, e2, e3, bs_cut, bs_cut, bs_add, torn, List.drop_zero, Nat.sub_zero, List.take_of_length_le (l := o.drop (c % 65)) (by rw [List.length_drop]; omega)]
theorem rawR_room {f o : List UInt8} {c : Nat} (hf : f.length = 64) (ho : o.length = 64) : ((bs f).extract (0 : Int).toNat ((c : Int) % 65).toNat).size + ((bs o).extract ((c : Int) % 65).toNat ((bs o).size : Int).toNat).size ≤ 9223372036854775807 := by
  rw [bs_cut, bs_cut, bs_size, bs_size, List.length_take, List.length_take, List.length_drop, List.length_drop]; omega
theorem opn_no {s : List UInt8} (h : (opn s).2.2 ≠ 0) : NoR s := by
  intro g a z u h1 h2 h3
  rw [h3, opn_root h1] at h
  exact h rfl
/-- what stands ahead: blank, or the sector of a root of a smaller generation -/
def Under (o : List UInt8) (g : Nat) : Prop := o = List.replicate 64 0 ∨ ∃ a z u : Nat, OkR ((g - 1 : Nat) : Int) a z ∧ u < 4294967296 ∧ o = rootS (g - 1) a z u
/-- of a torn sector: it is the one behind, whole; or else no root, or that of a smaller generation -/
theorem torn_root {g a z u k : Nat} {o : List UInt8} (h : OkR ((g + 1 : Nat) : Int) a z) (hu : u < 4294967296) (hg : 1 ≤ g) (hk : k ≤ 64) (ho : Under o g) :
    torn (rootS (g + 1) a z u) o k = rootS (g + 1) a z u ∨ torn (rootS (g + 1) a z u) o k ≠ rootS (g + 1) a z u ∧ (NoR (torn (rootS (g + 1) a z u) o k) ∨ ∃ a' z' u' : Nat, OkR ((g - 1 : Nat) : Int) a' z' ∧ u' < 4294967296 ∧ torn (rootS (g + 1) a z u) o k = rootS (g - 1) a' z' u') := by
  have hn := h.nat
  have hf := root_len (g := g + 1) (a := a) (z := z) (u := u)
  have q1 := sealed9 a z u
  have f1 : hdM (rootS (g + 1) a z u) = (g + 1) * 1048576 + 1 := hd_sec _ (by omega)
  have f2 : tlM (rootS (g + 1) a z u) = (g + 1) * 1048576 + 1 := tl_sec _ (by omega) (by omega)
  have fo := opn_root (u := u) h
  have key : ∃ m0, o.length = 64 ∧ hdM o = m0 ∧ tlM o = m0 ∧ m0 < (g + 1) * 1048576 + 1 ∧ (o = List.replicate 64 0 ∧ m0 = 0 ∨ ∃ a' z' u' : Nat, OkR ((g - 1 : Nat) : Int) a' z' ∧ u' < 4294967296 ∧ o = rootS (g - 1) a' z' u') := by
    rcases ho with rfl | ⟨a', z', u', k1, k2, rfl⟩
    · refine ⟨0, by simp, ?_, ?_, by omega, .inl ⟨rfl, rfl⟩⟩
      · rw [hdM, List.take_replicate]; exact tell_zeros16 _
      · rw [tlM, List.drop_replicate]; exact tell_zeros16 _
    · have k3 := k1.nat
      have q2 := sealed9 a' z' u'
      exact ⟨(g - 1) * 1048576 + 1, root_len, hd_sec _ (by omega), tl_sec _ (by omega) (by omega), by omega, .inr ⟨a', z', u', k1, k2, rfl⟩⟩
  obtain ⟨m0, hol, o1, o2, hlt, ho⟩ := key
  have ht := torn_tells hf hol f1 f2 o1 o2 (by omega) (by omega) hk
  rcases ht with ⟨e1, _, e2⟩ | ⟨e1, _⟩ | ⟨e1, _, ⟨e2, e3⟩ | ⟨_, e3⟩⟩
  · exact .inr ⟨e2, .inl (opn_no (by rw [e1]; decide))⟩
  · refine .inr ⟨fun he => ?_, .inl (opn_no (by rw [e1]; decide))⟩
    rw [he, fo] at e1
    have e1 : (0 : Int) = 6 := e1
    exact absurd e1 (by decide)
  · refine .inr ⟨fun he => ?_, ?_⟩
    · rw [he, fo] at e2
      dsimp only at e2
      omega
    · rcases ho with ⟨rfl, h0⟩ | ⟨a', z', u', k1, k2, k3⟩
      · exfalso
        rcases hs : opn (torn (rootS (g + 1) a z u) (List.replicate 64 0) k) with ⟨m, p, e⟩
        rw [hs] at e1 e2
        have e1 : e = 0 := e1
        have e2 : m = m0 := e2
        subst e1
        have := (opn_parts hs).2.2.1
        omega
      · exact .inr ⟨a', z', u', k1, k2, by rw [e3, k3]⟩
  · exact .inl e3
/-- the newer one of a root and a torn one behind it, in both orders -/
theorem pick_torn {g a z u a1 z1 u1 k : Nat} {o : List UInt8} (h : OkR g a z) (hu : u < 4294967296) (h1 : OkR ((g + 1 : Nat) : Int) a1 z1) (hu1 : u1 < 4294967296) (hk : k ≤ 64) (ho : Under o g) :
    (torn (rootS (g + 1) a1 z1 u1) o k = rootS (g + 1) a1 z1 u1 ∧ SP 40 [T (torn (rootS (g + 1) a1 z1 u1) o k), T (rootS g a z u)] (.tup [rt ((g : Int) + 1) a1 z1 u1, Z 0, Z 0]) ∧ SP 40 [T (rootS g a z u), T (torn (rootS (g + 1) a1 z1 u1) o k)] (.tup [rt ((g : Int) + 1) a1 z1 u1, Z 1, Z 0])) ∨
    (torn (rootS (g + 1) a1 z1 u1) o k ≠ rootS (g + 1) a1 z1 u1 ∧ SP 40 [T (torn (rootS (g + 1) a1 z1 u1) o k), T (rootS g a z u)] (.tup [rt g a z u, Z 1, Z 0]) ∧ SP 40 [T (rootS g a z u), T (torn (rootS (g + 1) a1 z1 u1) o k)] (.tup [rt g a z u, Z 0, Z 0])) := by
  have hn := h.nat
  have hs := rootopen_yes h hu
  rcases torn_root (u := u1) h1 hu1 hn.1 hk ho with he | ⟨hne, hcase⟩
  · refine .inl ⟨he, ?_, ?_⟩
    · rw [he]
      exact pick_le _ _ _ _ _ _ _ _ _ _ _ _ rfl rfl (by omega) (by omega) (rootopen_yes h1 hu1) hs
    · rw [he]
      exact pick_gt _ _ _ _ _ _ _ _ _ _ _ _ rfl rfl (by omega) (by omega) hs (rootopen_yes h1 hu1)
  · refine .inr ⟨hne, ?_⟩
    rcases hcase with hno | ⟨a', z', u', k1, k2, k3⟩
    · exact ⟨pick_ny _ _ _ _ _ _ _ _ _ _ _ _ (er_ne _) rfl (by omega) (rootopen_no hno) hs, pick_yn _ _ _ _ _ _ _ _ _ _ _ _ rfl (er_ne _) (by omega) hs (rootopen_no hno)⟩
    · have ho' := rootopen_yes k1 k2
      have hn' := k1.nat
      rw [k3]
      exact ⟨pick_gt _ _ _ _ _ _ _ _ _ _ _ _ rfl rfl (by omega) (by omega) ho' hs, pick_le _ _ _ _ _ _ _ _ _ _ _ _ rfl rfl (by omega) (by omega) hs ho'⟩
end Go.Proofs.Ytjfkfldlmhbnkaa.Av
