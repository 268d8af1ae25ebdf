/- tree: compared, put, joined, split, walked. No conditions but that sizes stay far below what memory holds. -/
import Derived.Test.YtbaedepmogkkeaaGreatTree4
namespace Go.Proofs.YtbaedepmogkkeaaGreat.Av
set_option maxHeartbeats 1000000
open Go Go.RowKit Tre
set_option linter.unusedVariables false
set_option linter.unusedSimpArgs false
set_option maxRecDepth 100000

/-- the test that one text is less than another one, as the machine has it -/
abbrev ltB (a b : Key) : Bool := Op.bytesLess (bs a).toList (bs b).toList
theorem ltB_eq (a b : Key) : ltB a b = lt a b := by show Op.bytesLess _ _ = _; rw [bsl_, bsl_]; rfl
abbrev gtB (a b : Key) : Bool := !(Op.bytesLess (bs a).toList (bs b).toList || ((bs a).toList == (bs b).toList))
theorem gtB_eq (a b : Key) : gtB a b = lt b a := by
  show (!(Op.bytesLess _ _ || _)) = _
  rw [bsl_, bsl_]
  show (!(lt a b || (a == b))) = _
  cases h : lt a b with
  | true => rw [lt_asymm h]; rfl
  | false =>
    by_cases e : a = b
    · subst e; rw [lt_irr]; simp
    · cases h2 : lt b a with
      | true => simp [e]
      | false => exact absurd (lt_tri h h2) e
theorem nan_ok (a : Key) : SP 193 [T a] (B false) := by
  have h : (!((bs a).toList == (bs a).toList)) = false := by simp
  rw [← h]
  refine S_ Tryz.func193 (by kernel_rfl) rfl (Nat.le_of_ble_eq_true rfl) ?_
  show avc Tryz.prog SP _ _ _ _ _ _
  dsimp only [avc, startS, Array.toList, Tryz.f193]
  exact Av.W
theorem cmp_lt {a b : Key} (h : lt a b = true) : SP 144 [T a, T b] (Z (-1)) := by
  have n1 := nan_ok a
  have n2 := nan_ok b
  have h1 : ltB a b = true := by rw [ltB_eq]; exact h
  refine S_ Tryz.func144 (by kernel_rfl) rfl (Nat.le_of_ble_eq_true rfl) ?_
  show avc Tryz.prog SP _ _ _ _ _ _
  dsimp only [avc, startS, Array.toList, Tryz.f144]
  exact Av.W
theorem cmp_gt {a b : Key} (h : lt b a = true) : SP 144 [T a, T b] (Z 1) := by
  have n1 := nan_ok a
  have n2 := nan_ok b
  have h1 : ltB a b = false := by rw [ltB_eq]; exact lt_asymm h
  have h2 : gtB a b = true := by rw [gtB_eq]; exact h
  refine S_ Tryz.func144 (by kernel_rfl) rfl (Nat.le_of_ble_eq_true rfl) ?_
  show avc Tryz.prog SP _ _ _ _ _ _
  dsimp only [avc, startS, Array.toList, Tryz.f144]
  exact Av.W
theorem cmp_eq (a : Key) : SP 144 [T a, T a] (Z 0) := by
  have n1 := nan_ok a
  have h1 : ltB a a = false := by rw [ltB_eq]; exact lt_irr a
  have h2 : gtB a a = false := by rw [gtB_eq]; exact lt_irr a
  refine S_ Tryz.func144 (by kernel_rfl) rfl (Nat.le_of_ble_eq_true rfl) ?_
  show avc Tryz.prog SP _ _ _ _ _ _
  dsimp only [avc, startS, Array.toList, Tryz.f144]
  exact Av.W
theorem made_nil {k v : Key} (hk : k.length ≤ 1000000000) (hv : v.length ≤ 1000000000) : SP 174 [.ex (.pointer none), T k, T v, .ex (.pointer none)] (ndA (.node .nil k v .nil)) := by
  refine Sound.weak (made_ok (l := .nil) (r := .nil) (k := k) (v := v) (by decide) (by decide) hk hv) rfl fun w F j h1 h2 x hx => ?_
  match j, h1 with
  | 0, _ => have := hx.ex_inv; subst this; exact .pt0 _ _
  | 1, _ => exact hx
  | 2, _ => exact hx
  | 3, _ => have := hx.ex_inv; subst this; exact .pt0 _ _
/-- the tree has room for one more -/
structure More (t : Tr) (k v : Key) : Prop where
  c : t.cn + 1 ≤ 1000000000
  w : t.wt + 4 + (k.length : Int) + (v.length : Int) ≤ 1000000000
theorem put_ok {key val : Key} : ∀ (t : Tr), More t key val → SP 123 [ndA t, T key, T val] (ndA (Tr.put key val t))
  | .nil, h => by
    have hw := h.w
    simp only [Tr.wt] at hw
    have m := made_nil (k := key) (v := val) (by omega) (by omega)
    refine S_ Tryz.func123 (by kernel_rfl) rfl (Nat.le_of_ble_eq_true rfl) ?_
    show avc Tryz.prog SP _ _ _ _ _ _
    dsimp only [avc, startS, Array.toList, Tryz.f123]
    repeat' ((try conv => whnf) <;> first | refine Av.hm_ ?_ | refine Av.w1 ?_ | refine Av.w2 ?_ | refine Av.w3 ?_ | refine Av.w4 ?_ | refine Av.nle rfl ?_ | refine Av.q1 ?_ | refine Av.q2 ?_ | refine Av.q3 ?_ | refine Av.q4 ?_ | refine Av.inr_ (by omega) (by omega) ?_ | refine ⟨_, m, ?_⟩ | refine ⟨[], [0,1,3,7,0,0,63,0,128,384,896,0,2048,6144,14336,0,32768,98304,229376,524287,1048575,2097151], Eq.refl true, ?_⟩ | refine ⟨[], [0,1,3,7,0,16,48,112,0,256,768,1792,0,4096,12288,28672,0,0,258048,524287,1048575,2097151], Eq.refl true, ?_⟩ | refine ⟨[], [0,1,3,7,0,0,0,64,192,448,1023,2047], Av.len_ok rfl (by kernel_rfl), ?_⟩ | exact True.intro | refine Av.eqt_ (by kernel_rfl) ?_ | refine ⟨rfl, ?_⟩ | refine ⟨⟨Nat.le_of_ble_eq_true rfl, rfl⟩, ?_⟩ | refine ⟨⟨rfl, rfl⟩, ?_⟩ | refine ⟨⟨rfl, rfl, rfl⟩, ?_⟩ | exact ⟨rfl, rfl, rfl⟩ | exact ⟨rfl, rfl⟩ | ((first | refine br_lt ?_ ?_ | refine br_lt_ ?_ ?_ | refine br_le ?_ ?_ | refine br_le_ ?_ ?_ | refine br_eq ?_ ?_ | refine br_eq_ ?_ ?_ | refine br_seq ?_ ?_ | refine br_seq_ ?_ ?_) <;> intro hBr <;> first | (exfalso; omega) | (exfalso; contradiction) | (exfalso; exact hBr rfl) | skip) | refine br_not ?_ | refine br_not_ ?_ | refine br_and ?_ | refine br_and_ ?_ | refine Av.asm_ (by omega) ?_ | refine ⟨_, wrap_i64 (by omega), ?_⟩ | refine ⟨_, wrap_u64 (by omega) (by omega), ?_⟩ | refine ⟨_, wrap_u8 (by omega) (by omega), ?_⟩ | refine ⟨_, wrap_u32 (by omega) (by omega), ?_⟩ | refine ⟨_, wrap_u16 (by omega) (by omega), ?_⟩ | refine ⟨_, rfl, ?_⟩ | exact rfl)
  | .node l k v r, h => by
    have hc := h.c
    have hw := h.w
    simp only [Tr.cn, Tr.wt] at hc hw
    have c1 := Tr.cn_pos l
    have c2 := Tr.cn_pos r
    have w1 := Tr.wt_pos l
    have w2 := Tr.wt_pos r
    by_cases h1 : lt key k = true
    · have s := Tr.put_sizes (k := key) (v := val) (t := l)
      have cm := cmp_lt h1
      have ih := put_ok (key := key) (val := val) l ⟨by omega, by omega⟩
      have e : Tr.put key val (.node l k v r) = Tr.level (.node (Tr.put key val l) k v r) := if_pos h1
      have f : Fits (Tr.put key val l) k v r := ⟨by omega, by omega⟩
      have m := f.made
      have lv := level_ok f
      rw [e]
      refine S_ Tryz.func123 (by kernel_rfl) rfl (Nat.le_of_ble_eq_true rfl) ?_
      show avc Tryz.prog SP _ _ _ _ _ _
      dsimp only [avc, startS, Array.toList, Tryz.f123]
      repeat' ((try conv => whnf) <;> first | refine Av.hm_ ?_ | refine Av.w1 ?_ | refine Av.w2 ?_ | refine Av.w3 ?_ | refine Av.w4 ?_ | refine Av.nle rfl ?_ | refine Av.q1 ?_ | refine Av.q2 ?_ | refine Av.q3 ?_ | refine Av.q4 ?_ | refine Av.inr_ (by omega) (by omega) ?_ | refine ⟨_, cm, ?_⟩ | refine ⟨_, ih, ?_⟩ | refine ⟨_, m, ?_⟩ | refine ⟨_, lv, ?_⟩ | refine ⟨[], [0,1,3,7,0,0,63,0,128,384,896,0,2048,6144,14336,0,32768,98304,229376,524287,1048575,2097151], Eq.refl true, ?_⟩ | refine ⟨[], [0,1,3,7,0,16,48,112,0,256,768,1792,0,4096,12288,28672,0,0,258048,524287,1048575,2097151], Eq.refl true, ?_⟩ | refine ⟨[], [0,1,3,7,0,0,0,64,192,448,1023,2047], Av.len_ok rfl (by kernel_rfl), ?_⟩ | exact True.intro | refine Av.eqt_ (by kernel_rfl) ?_ | refine ⟨rfl, ?_⟩ | refine ⟨⟨Nat.le_of_ble_eq_true rfl, rfl⟩, ?_⟩ | refine ⟨⟨rfl, rfl⟩, ?_⟩ | refine ⟨⟨rfl, rfl, rfl⟩, ?_⟩ | exact ⟨rfl, rfl, rfl⟩ | exact ⟨rfl, rfl⟩ | ((first | refine br_lt ?_ ?_ | refine br_lt_ ?_ ?_ | refine br_le ?_ ?_ | refine br_le_ ?_ ?_ | refine br_eq ?_ ?_ | refine br_eq_ ?_ ?_ | refine br_seq ?_ ?_ | refine br_seq_ ?_ ?_) <;> intro hBr <;> first | (exfalso; omega) | (exfalso; contradiction) | (exfalso; exact hBr rfl) | skip) | refine br_not ?_ | refine br_not_ ?_ | refine br_and ?_ | refine br_and_ ?_ | refine Av.asm_ (by omega) ?_ | refine ⟨_, wrap_i64 (by omega), ?_⟩ | refine ⟨_, wrap_u64 (by omega) (by omega), ?_⟩ | refine ⟨_, wrap_u8 (by omega) (by omega), ?_⟩ | refine ⟨_, wrap_u32 (by omega) (by omega), ?_⟩ | refine ⟨_, wrap_u16 (by omega) (by omega), ?_⟩ | refine ⟨_, rfl, ?_⟩ | exact rfl)
    · by_cases h2 : lt k key = true
      · have s := Tr.put_sizes (k := key) (v := val) (t := r)
        have cm := cmp_gt h2
        have ih := put_ok (key := key) (val := val) r ⟨by omega, by omega⟩
        have e : Tr.put key val (.node l k v r) = Tr.level (.node l k v (Tr.put key val r)) := (if_neg h1).trans (if_pos h2)
        have f : Fits l k v (Tr.put key val r) := ⟨by omega, by omega⟩
        have m := f.made
        have lv := level_ok f
        rw [e]
        refine S_ Tryz.func123 (by kernel_rfl) rfl (Nat.le_of_ble_eq_true rfl) ?_
        show avc Tryz.prog SP _ _ _ _ _ _
        dsimp only [avc, startS, Array.toList, Tryz.f123]
        repeat' ((try conv => whnf) <;> first | refine Av.hm_ ?_ | refine Av.w1 ?_ | refine Av.w2 ?_ | refine Av.w3 ?_ | refine Av.w4 ?_ | refine Av.nle rfl ?_ | refine Av.q1 ?_ | refine Av.q2 ?_ | refine Av.q3 ?_ | refine Av.q4 ?_ | refine Av.inr_ (by omega) (by omega) ?_ | refine ⟨_, cm, ?_⟩ | refine ⟨_, ih, ?_⟩ | refine ⟨_, m, ?_⟩ | refine ⟨_, lv, ?_⟩ | refine ⟨[], [0,1,3,7,0,0,63,0,128,384,896,0,2048,6144,14336,0,32768,98304,229376,524287,1048575,2097151], Eq.refl true, ?_⟩ | refine ⟨[], [0,1,3,7,0,16,48,112,0,256,768,1792,0,4096,12288,28672,0,0,258048,524287,1048575,2097151], Eq.refl true, ?_⟩ | refine ⟨[], [0,1,3,7,0,0,0,64,192,448,1023,2047], Av.len_ok rfl (by kernel_rfl), ?_⟩ | exact True.intro | refine Av.eqt_ (by kernel_rfl) ?_ | refine ⟨rfl, ?_⟩ | refine ⟨⟨Nat.le_of_ble_eq_true rfl, rfl⟩, ?_⟩ | refine ⟨⟨rfl, rfl⟩, ?_⟩ | refine ⟨⟨rfl, rfl, rfl⟩, ?_⟩ | exact ⟨rfl, rfl, rfl⟩ | exact ⟨rfl, rfl⟩ | ((first | refine br_lt ?_ ?_ | refine br_lt_ ?_ ?_ | refine br_le ?_ ?_ | refine br_le_ ?_ ?_ | refine br_eq ?_ ?_ | refine br_eq_ ?_ ?_ | refine br_seq ?_ ?_ | refine br_seq_ ?_ ?_) <;> intro hBr <;> first | (exfalso; omega) | (exfalso; contradiction) | (exfalso; exact hBr rfl) | skip) | refine br_not ?_ | refine br_not_ ?_ | refine br_and ?_ | refine br_and_ ?_ | refine Av.asm_ (by omega) ?_ | refine ⟨_, wrap_i64 (by omega), ?_⟩ | refine ⟨_, wrap_u64 (by omega) (by omega), ?_⟩ | refine ⟨_, wrap_u8 (by omega) (by omega), ?_⟩ | refine ⟨_, wrap_u32 (by omega) (by omega), ?_⟩ | refine ⟨_, wrap_u16 (by omega) (by omega), ?_⟩ | refine ⟨_, rfl, ?_⟩ | exact rfl)
      · have ek : key = k := lt_tri (by simpa using h1) (by simpa using h2)
        subst ek
        have e : Tr.put key val (.node l key v r) = .node l key val r := (if_neg h1).trans (if_neg h2)
        have cm := cmp_eq key
        have m := (Fits.mk (l := l) (k := key) (v := val) (r := r) (by omega) (by omega)).made
        rw [e]
        refine S_ Tryz.func123 (by kernel_rfl) rfl (Nat.le_of_ble_eq_true rfl) ?_
        show avc Tryz.prog SP _ _ _ _ _ _
        dsimp only [avc, startS, Array.toList, Tryz.f123]
        repeat' ((try conv => whnf) <;> first | refine Av.hm_ ?_ | refine Av.w1 ?_ | refine Av.w2 ?_ | refine Av.w3 ?_ | refine Av.w4 ?_ | refine Av.nle rfl ?_ | refine Av.q1 ?_ | refine Av.q2 ?_ | refine Av.q3 ?_ | refine Av.q4 ?_ | refine Av.inr_ (by omega) (by omega) ?_ | refine ⟨_, cm, ?_⟩ | refine ⟨_, m, ?_⟩ | refine ⟨[], [0,1,3,7,0,0,63,0,128,384,896,0,2048,6144,14336,0,32768,98304,229376,524287,1048575,2097151], Eq.refl true, ?_⟩ | refine ⟨[], [0,1,3,7,0,16,48,112,0,256,768,1792,0,4096,12288,28672,0,0,258048,524287,1048575,2097151], Eq.refl true, ?_⟩ | refine ⟨[], [0,1,3,7,0,0,0,64,192,448,1023,2047], Av.len_ok rfl (by kernel_rfl), ?_⟩ | exact True.intro | refine Av.eqt_ (by kernel_rfl) ?_ | refine ⟨rfl, ?_⟩ | refine ⟨⟨Nat.le_of_ble_eq_true rfl, rfl⟩, ?_⟩ | refine ⟨⟨rfl, rfl⟩, ?_⟩ | refine ⟨⟨rfl, rfl, rfl⟩, ?_⟩ | exact ⟨rfl, rfl, rfl⟩ | exact ⟨rfl, rfl⟩ | ((first | refine br_lt ?_ ?_ | refine br_lt_ ?_ ?_ | refine br_le ?_ ?_ | refine br_le_ ?_ ?_ | refine br_eq ?_ ?_ | refine br_eq_ ?_ ?_ | refine br_seq ?_ ?_ | refine br_seq_ ?_ ?_) <;> intro hBr <;> first | (exfalso; omega) | (exfalso; contradiction) | (exfalso; exact hBr rfl) | skip) | refine br_not ?_ | refine br_not_ ?_ | refine br_and ?_ | refine br_and_ ?_ | refine Av.asm_ (by omega) ?_ | refine ⟨_, wrap_i64 (by omega), ?_⟩ | refine ⟨_, wrap_u64 (by omega) (by omega), ?_⟩ | refine ⟨_, wrap_u8 (by omega) (by omega), ?_⟩ | refine ⟨_, wrap_u32 (by omega) (by omega), ?_⟩ | refine ⟨_, wrap_u16 (by omega) (by omega), ?_⟩ | refine ⟨_, rfl, ?_⟩ | exact rfl)
theorem join_left {ll lr r : Tr} {lk lv k v : Key} (h : (Tr.node ll lk lv lr).hh > r.hh + 1) : Tr.join (.node ll lk lv lr) k v r = Tr.level (.node ll lk lv (Tr.join lr k v r)) := by
  rw [Tr.join.eq_def]
  cases r with
  | nil => exact if_pos h
  | node a b c d => exact if_pos h
theorem join_right {l rl rr : Tr} {rk rv k v : Key} (h1 : ¬ l.hh > (Tr.node rl rk rv rr).hh + 1) (h : (Tr.node rl rk rv rr).hh > l.hh + 1) : Tr.join l k v (.node rl rk rv rr) = Tr.level (.node (Tr.join l k v rl) rk rv rr) := by
  rw [Tr.join.eq_def]
  cases l with
  | nil => exact if_pos h
  | node a b c d => exact (if_neg h1).trans (if_pos h)
theorem join_mid {l r : Tr} {k v : Key} (h1 : ¬ l.hh > r.hh + 1) (h2 : ¬ r.hh > l.hh + 1) : Tr.join l k v r = .node l k v r := by
  rw [Tr.join.eq_def]
  cases l with
  | nil =>
    cases r with
    | nil => rfl
    | node a b c d => exact if_neg h2
  | node a b c d =>
    cases r with
    | nil => exact if_neg h1
    | node e f g i => exact (if_neg h1).trans (if_neg h2)
theorem join_ok {k v : Key} : ∀ (n : Nat) (l r : Tr), l.sz + r.sz ≤ n → Fits l k v r → l.cn + r.cn ≤ 900000000 → l.wt + r.wt + (k.length : Int) + (v.length : Int) ≤ 900000000 → SP 204 [ndA l, T k, T v, ndA r] (ndA (Tr.join l k v r))
  | n, l, r, hn, h, hc, hw => by
    have t1 := tall_ok l
    have t2 := tall_ok r
    have h1 := Tr.hh_pos l
    have h2 := Tr.hh_pos r
    have h3 := Tr.hh_le_cn l
    have h4 := Tr.hh_le_cn r
    have c1 := Tr.cn_pos l
    have c2 := Tr.cn_pos r
    have w1 := Tr.wt_pos l
    have w2 := Tr.wt_pos r
    by_cases d1 : l.hh > r.hh + 1
    · obtain ⟨ll, lk, lv, lr, rfl⟩ := Tr.pos_node (t := l) (by omega)
      have q1 := Tr.cn_pos ll
      have q2 := Tr.cn_pos lr
      have q3 := Tr.wt_pos ll
      have q4 := Tr.wt_pos lr
      rw [join_left d1]
      have hc0 := hc
      simp only [Tr.cn, Tr.wt] at hc hw
      cases n with
      | zero => simp [Tr.sz] at hn
      | succ n =>
        have ih := join_ok (k := k) (v := v) n lr r (by simp [Tr.sz] at hn ⊢; omega) ⟨by omega, by omega⟩ (by omega) (by omega)
        have f : Fits ll lk lv (Tr.join lr k v r) := ⟨by rw [Tr.cn_join]; omega, by rw [Tr.wt_join]; omega⟩
        have m := f.made
        have lw := level_ok f
        refine S_ Tryz.func204 (by kernel_rfl) rfl (Nat.le_of_ble_eq_true rfl) ?_
        show avc Tryz.prog SP _ _ _ _ _ _
        dsimp only [avc, startS, Array.toList, Tryz.f204]
        repeat' ((try conv => whnf) <;> first | refine Av.hm_ ?_ | refine Av.w1 ?_ | refine Av.w2 ?_ | refine Av.w3 ?_ | refine Av.w4 ?_ | refine Av.nle rfl ?_ | refine Av.q1 ?_ | refine Av.q2 ?_ | refine Av.q3 ?_ | refine Av.q4 ?_ | refine Av.inr_ (by omega) (by omega) ?_ | refine ⟨_, t1, ?_⟩ | refine ⟨_, t2, ?_⟩ | refine ⟨_, ih, ?_⟩ | refine ⟨_, m, ?_⟩ | refine ⟨_, lw, ?_⟩ | refine ⟨[], [0,1,3,7,0,16,48,112,0,256,768,1792,0,4096,12288,28672,0,0,0,520192,1048575,2097151,4194303], Eq.refl true, ?_⟩ | refine ⟨[], [0,0,0,0,8,24,56,127,0,256,768,1792,0,4096,12288,28672,0,65536,196608,458752,1048575,2097151,4194303], Eq.refl true, ?_⟩ | exact True.intro | refine Av.eqt_ (by kernel_rfl) ?_ | refine ⟨rfl, ?_⟩ | refine ⟨⟨Nat.le_of_ble_eq_true rfl, rfl⟩, ?_⟩ | refine ⟨⟨rfl, rfl⟩, ?_⟩ | refine ⟨⟨rfl, rfl, rfl⟩, ?_⟩ | exact ⟨rfl, rfl, rfl⟩ | exact ⟨rfl, rfl⟩ | ((first | refine br_lt ?_ ?_ | refine br_lt_ ?_ ?_ | refine br_le ?_ ?_ | refine br_le_ ?_ ?_ | refine br_eq ?_ ?_ | refine br_eq_ ?_ ?_ | refine br_seq ?_ ?_ | refine br_seq_ ?_ ?_) <;> intro hBr <;> first | (exfalso; omega) | (exfalso; contradiction) | (exfalso; exact hBr rfl) | skip) | refine br_not ?_ | refine br_not_ ?_ | refine br_and ?_ | refine br_and_ ?_ | refine Av.asm_ (by omega) ?_ | refine ⟨_, wrap_i64 (by omega), ?_⟩ | refine ⟨_, wrap_u64 (by omega) (by omega), ?_⟩ | refine ⟨_, wrap_u8 (by omega) (by omega), ?_⟩ | refine ⟨_, wrap_u32 (by omega) (by omega), ?_⟩ | refine ⟨_, wrap_u16 (by omega) (by omega), ?_⟩ | refine ⟨_, rfl, ?_⟩ | exact rfl)
    · by_cases d2 : r.hh > l.hh + 1
      · obtain ⟨rl, rk, rv, rr, rfl⟩ := Tr.pos_node (t := r) (by omega)
        have q1 := Tr.cn_pos rl
        have q2 := Tr.cn_pos rr
        have q3 := Tr.wt_pos rl
        have q4 := Tr.wt_pos rr
        rw [join_right d1 d2]
        have hc0 := hc
        simp only [Tr.cn, Tr.wt] at hc hw
        cases n with
        | zero => simp [Tr.sz] at hn
        | succ n =>
          have ih := join_ok (k := k) (v := v) n l rl (by simp [Tr.sz] at hn ⊢; omega) ⟨by omega, by omega⟩ (by omega) (by omega)
          have f : Fits (Tr.join l k v rl) rk rv rr := ⟨by rw [Tr.cn_join]; omega, by rw [Tr.wt_join]; omega⟩
          have m := f.made
          have lw := level_ok f
          refine S_ Tryz.func204 (by kernel_rfl) rfl (Nat.le_of_ble_eq_true rfl) ?_
          show avc Tryz.prog SP _ _ _ _ _ _
          dsimp only [avc, startS, Array.toList, Tryz.f204]
          repeat' ((try conv => whnf) <;> first | refine Av.hm_ ?_ | refine Av.w1 ?_ | refine Av.w2 ?_ | refine Av.w3 ?_ | refine Av.w4 ?_ | refine Av.nle rfl ?_ | refine Av.q1 ?_ | refine Av.q2 ?_ | refine Av.q3 ?_ | refine Av.q4 ?_ | refine Av.inr_ (by omega) (by omega) ?_ | refine ⟨_, t1, ?_⟩ | refine ⟨_, t2, ?_⟩ | refine ⟨_, ih, ?_⟩ | refine ⟨_, m, ?_⟩ | refine ⟨_, lw, ?_⟩ | refine ⟨[], [0,1,3,7,0,16,48,112,0,256,768,1792,0,4096,12288,28672,0,0,0,520192,1048575,2097151,4194303], Eq.refl true, ?_⟩ | refine ⟨[], [0,0,0,0,8,24,56,127,0,256,768,1792,0,4096,12288,28672,0,65536,196608,458752,1048575,2097151,4194303], Eq.refl true, ?_⟩ | exact True.intro | refine Av.eqt_ (by kernel_rfl) ?_ | refine ⟨rfl, ?_⟩ | refine ⟨⟨Nat.le_of_ble_eq_true rfl, rfl⟩, ?_⟩ | refine ⟨⟨rfl, rfl⟩, ?_⟩ | refine ⟨⟨rfl, rfl, rfl⟩, ?_⟩ | exact ⟨rfl, rfl, rfl⟩ | exact ⟨rfl, rfl⟩ | ((first | refine br_lt ?_ ?_ | refine br_lt_ ?_ ?_ | refine br_le ?_ ?_ | refine br_le_ ?_ ?_ | refine br_eq ?_ ?_ | refine br_eq_ ?_ ?_ | refine br_seq ?_ ?_ | refine br_seq_ ?_ ?_) <;> intro hBr <;> first | (exfalso; omega) | (exfalso; contradiction) | (exfalso; exact hBr rfl) | skip) | refine br_not ?_ | refine br_not_ ?_ | refine br_and ?_ | refine br_and_ ?_ | refine Av.asm_ (by omega) ?_ | refine ⟨_, wrap_i64 (by omega), ?_⟩ | refine ⟨_, wrap_u64 (by omega) (by omega), ?_⟩ | refine ⟨_, wrap_u8 (by omega) (by omega), ?_⟩ | refine ⟨_, wrap_u32 (by omega) (by omega), ?_⟩ | refine ⟨_, wrap_u16 (by omega) (by omega), ?_⟩ | refine ⟨_, rfl, ?_⟩ | exact rfl)
      · rw [join_mid d1 d2]
        have m := h.made
        refine S_ Tryz.func204 (by kernel_rfl) rfl (Nat.le_of_ble_eq_true rfl) ?_
        show avc Tryz.prog SP _ _ _ _ _ _
        dsimp only [avc, startS, Array.toList, Tryz.f204]
        repeat' ((try conv => whnf) <;> first | refine Av.hm_ ?_ | refine Av.w1 ?_ | refine Av.w2 ?_ | refine Av.w3 ?_ | refine Av.w4 ?_ | refine Av.nle rfl ?_ | refine Av.q1 ?_ | refine Av.q2 ?_ | refine Av.q3 ?_ | refine Av.q4 ?_ | refine Av.inr_ (by omega) (by omega) ?_ | refine ⟨_, t1, ?_⟩ | refine ⟨_, t2, ?_⟩ | refine ⟨_, m, ?_⟩ | refine ⟨[], [0,1,3,7,0,16,48,112,0,256,768,1792,0,4096,12288,28672,0,0,0,520192,1048575,2097151,4194303], Eq.refl true, ?_⟩ | refine ⟨[], [0,0,0,0,8,24,56,127,0,256,768,1792,0,4096,12288,28672,0,65536,196608,458752,1048575,2097151,4194303], Eq.refl true, ?_⟩ | exact True.intro | refine Av.eqt_ (by kernel_rfl) ?_ | refine ⟨rfl, ?_⟩ | refine ⟨⟨Nat.le_of_ble_eq_true rfl, rfl⟩, ?_⟩ | refine ⟨⟨rfl, rfl⟩, ?_⟩ | refine ⟨⟨rfl, rfl, rfl⟩, ?_⟩ | exact ⟨rfl, rfl, rfl⟩ | exact ⟨rfl, rfl⟩ | ((first | refine br_lt ?_ ?_ | refine br_lt_ ?_ ?_ | refine br_le ?_ ?_ | refine br_le_ ?_ ?_ | refine br_eq ?_ ?_ | refine br_eq_ ?_ ?_ | refine br_seq ?_ ?_ | refine br_seq_ ?_ ?_) <;> intro hBr <;> first | (exfalso; omega) | (exfalso; contradiction) | (exfalso; exact hBr rfl) | skip) | refine br_not ?_ | refine br_not_ ?_ | refine br_and ?_ | refine br_and_ ?_ | refine Av.asm_ (by omega) ?_ | refine ⟨_, wrap_i64 (by omega), ?_⟩ | refine ⟨_, wrap_u64 (by omega) (by omega), ?_⟩ | refine ⟨_, wrap_u8 (by omega) (by omega), ?_⟩ | refine ⟨_, wrap_u32 (by omega) (by omega), ?_⟩ | refine ⟨_, wrap_u16 (by omega) (by omega), ?_⟩ | refine ⟨_, rfl, ?_⟩ | exact rfl)
/-- neither too many keys nor too many bytes -/
structure Big (t : Tr) : Prop where
  c : t.cn ≤ 400000000
  w : t.wt ≤ 400000000
theorem join_yes {l r : Tr} {k v : Key} (hc : l.cn + r.cn ≤ 400000000) (hw : l.wt + r.wt + (k.length : Int) + (v.length : Int) ≤ 400000000) : SP 204 [ndA l, T k, T v, ndA r] (ndA (Tr.join l k v r)) :=
  join_ok _ l r (Nat.le_refl _) ⟨by omega, by omega⟩ (by omega) (by omega)
theorem first_ok : ∀ (t : Tr), t ≠ .nil → Big t → SP 165 [ndA t] (.tup [T (Tr.first t).1, T (Tr.first t).2.1, ndA (Tr.first t).2.2])
  | .nil, h, _ => absurd rfl h
  | .node .nil k v r, _, _ => by
    refine S_ Tryz.func165 (by kernel_rfl) rfl (Nat.le_of_ble_eq_true rfl) ?_
    show avc Tryz.prog SP _ _ _ _ _ _
    dsimp only [avc, startS, Array.toList, Tryz.f165]
    have hW0 : Av.Mk 15 [0,1,3,7,0,16,48,112,0,256,768,1792,15,4351,16383] := ⟨⟩
    have hW1 : Av.Mk 20 [0,0,0,0,8,24,56,0,128,384,896,0,2048,6144,14336,32764,65532,131069,262143,524287] := ⟨⟩
    exact Av.W
  | .node (.node a b c d) k v r, _, h => by
    have hc := h.c
    have hw := h.w
    have c2 := Tr.cn_pos r
    have w2 := Tr.wt_pos r
    have w3 := Tr.wt_pos (.node a b c d)
    have c3 := Tr.cn_pos (.node a b c d)
    rw [Tr.cn] at hc
    rw [Tr.wt] at hw
    have ih := first_ok (.node a b c d) (by simp) ⟨by omega, by omega⟩
    have s := Tr.first_sizes (t := .node a b c d) (by simp)
    have f : Fits (Tr.first (.node a b c d)).2.2 k v r := ⟨by omega, by omega⟩
    have m := f.made
    have lw := level_ok f
    show SP _ _ (.tup [T (Tr.first (.node a b c d)).1, T (Tr.first (.node a b c d)).2.1, ndA (Tr.level (.node (Tr.first (.node a b c d)).2.2 k v r))])
    refine S_ Tryz.func165 (by kernel_rfl) rfl (Nat.le_of_ble_eq_true rfl) ?_
    show avc Tryz.prog SP _ _ _ _ _ _
    dsimp only [avc, startS, Array.toList, Tryz.f165]
    have hW2 : Av.Mk 15 [0,1,3,7,0,16,48,112,0,256,768,1792,15,4351,16383] := ⟨⟩
    have hW3 : Av.Mk 20 [0,0,0,0,8,24,56,0,128,384,896,0,2048,6144,14336,32764,65532,131069,262143,524287] := ⟨⟩
    exact Av.W
theorem both_ok {l r : Tr} (h1 : Big l) (h2 : Big r) (hc : l.cn + r.cn ≤ 400000000) (hw : l.wt + r.wt ≤ 400000000) : SP 166 [ndA l, ndA r] (ndA (Tr.both l r)) := by
  cases r with
  | nil =>
    refine S_ Tryz.func166 (by kernel_rfl) rfl (Nat.le_of_ble_eq_true rfl) ?_
    show avc Tryz.prog SP _ _ _ _ _ _
    dsimp only [avc, startS, Array.toList, Tryz.f166]
    exact Av.W
  | node a b c d =>
    have f := first_ok (.node a b c d) (by simp) h2
    have s := Tr.first_sizes (t := .node a b c d) (by simp)
    have j := join_yes (l := l) (r := (Tr.first (.node a b c d)).2.2) (k := (Tr.first (.node a b c d)).1) (v := (Tr.first (.node a b c d)).2.1) (by omega) (by omega)
    show SP _ _ (ndA (Tr.join l (Tr.first (.node a b c d)).1 (Tr.first (.node a b c d)).2.1 (Tr.first (.node a b c d)).2.2))
    refine S_ Tryz.func166 (by kernel_rfl) rfl (Nat.le_of_ble_eq_true rfl) ?_
    show avc Tryz.prog SP _ _ _ _ _ _
    dsimp only [avc, startS, Array.toList, Tryz.f166]
    exact Av.W
theorem split_ok {key : Key} : ∀ (t : Tr), Big t → SP 164 [ndA t, T key] (.tup [ndA (Tr.split key t).1, ndA (Tr.split key t).2])
  | .nil, _ => by
    refine S_ Tryz.func164 (by kernel_rfl) rfl (Nat.le_of_ble_eq_true rfl) ?_
    show avc Tryz.prog SP _ _ _ _ _ _
    dsimp only [avc, startS, Array.toList, Tryz.f164]
    repeat' ((try conv => whnf) <;> first | refine Av.hm_ ?_ | refine Av.w1 ?_ | refine Av.w2 ?_ | refine Av.w3 ?_ | refine Av.w4 ?_ | refine Av.nle rfl ?_ | refine Av.q1 ?_ | refine Av.q2 ?_ | refine Av.q3 ?_ | refine Av.q4 ?_ | refine Av.inr_ (by omega) (by omega) ?_ | refine ⟨[], [0,0,0,4,12,28,0,64,192,448,0,1024,3072,7168,16382,32767,65535], Eq.refl true, ?_⟩ | refine ⟨[], [0,1,3,7,0,16,48,112,0,256,768,1792,0,8191,0,16383,65535], Eq.refl true, ?_⟩ | exact True.intro | refine Av.eqt_ (by kernel_rfl) ?_ | refine ⟨rfl, ?_⟩ | refine ⟨⟨Nat.le_of_ble_eq_true rfl, rfl⟩, ?_⟩ | refine ⟨⟨rfl, rfl⟩, ?_⟩ | refine ⟨⟨rfl, rfl, rfl⟩, ?_⟩ | exact ⟨rfl, rfl, rfl⟩ | exact ⟨rfl, rfl⟩ | ((first | refine br_lt ?_ ?_ | refine br_lt_ ?_ ?_ | refine br_le ?_ ?_ | refine br_le_ ?_ ?_ | refine br_eq ?_ ?_ | refine br_eq_ ?_ ?_ | refine br_seq ?_ ?_ | refine br_seq_ ?_ ?_) <;> intro hBr <;> first | (exfalso; omega) | (exfalso; contradiction) | (exfalso; exact hBr rfl) | skip) | refine br_not ?_ | refine br_not_ ?_ | refine br_and ?_ | refine br_and_ ?_ | refine Av.asm_ (by omega) ?_ | refine ⟨_, wrap_i64 (by omega), ?_⟩ | refine ⟨_, wrap_u64 (by omega) (by omega), ?_⟩ | refine ⟨_, wrap_u8 (by omega) (by omega), ?_⟩ | refine ⟨_, wrap_u32 (by omega) (by omega), ?_⟩ | refine ⟨_, wrap_u16 (by omega) (by omega), ?_⟩ | refine ⟨_, rfl, ?_⟩ | exact rfl)
  | .node l k v r, h => by
    have hc := h.c
    have hw := h.w
    simp only [Tr.cn, Tr.wt] at hc hw
    have c1 := Tr.cn_pos l
    have c2 := Tr.cn_pos r
    have w1 := Tr.wt_pos l
    have w2 := Tr.wt_pos r
    by_cases h1 : lt k key = true
    · have b1 : ltB k key = true := by rw [ltB_eq]; exact h1
      have ih := split_ok (key := key) r ⟨by omega, by omega⟩
      have s := Tr.split_sizes (key := key) (t := r)
      have p1 := Tr.cn_pos (Tr.split key r).2
      have p2 := Tr.wt_pos (Tr.split key r).2
      have j := join_yes (l := l) (r := (Tr.split key r).1) (k := k) (v := v) (by omega) (by omega)
      have e : Tr.split key (.node l k v r) = (Tr.join l k v (Tr.split key r).1, (Tr.split key r).2) := if_pos h1
      rw [e]
      refine S_ Tryz.func164 (by kernel_rfl) rfl (Nat.le_of_ble_eq_true rfl) ?_
      show avc Tryz.prog SP _ _ _ _ _ _
      dsimp only [avc, startS, Array.toList, Tryz.f164]
      repeat' ((try conv => whnf) <;> first | refine Av.hm_ ?_ | refine Av.w1 ?_ | refine Av.w2 ?_ | refine Av.w3 ?_ | refine Av.w4 ?_ | refine Av.nle rfl ?_ | refine Av.q1 ?_ | refine Av.q2 ?_ | refine Av.q3 ?_ | refine Av.q4 ?_ | refine Av.inr_ (by omega) (by omega) ?_ | (refine br_t b1 ?_) | refine ⟨_, ih, ?_⟩ | refine ⟨_, j, ?_⟩ | refine ⟨[], [0,0,0,4,12,28,0,64,192,448,0,1024,3072,7168,16382,32767,65535], Eq.refl true, ?_⟩ | refine ⟨[], [0,1,3,7,0,16,48,112,0,256,768,1792,0,8191,0,16383,65535], Eq.refl true, ?_⟩ | exact True.intro | refine Av.eqt_ (by kernel_rfl) ?_ | refine ⟨rfl, ?_⟩ | refine ⟨⟨Nat.le_of_ble_eq_true rfl, rfl⟩, ?_⟩ | refine ⟨⟨rfl, rfl⟩, ?_⟩ | refine ⟨⟨rfl, rfl, rfl⟩, ?_⟩ | exact ⟨rfl, rfl, rfl⟩ | exact ⟨rfl, rfl⟩ | ((first | refine br_lt ?_ ?_ | refine br_lt_ ?_ ?_ | refine br_le ?_ ?_ | refine br_le_ ?_ ?_ | refine br_eq ?_ ?_ | refine br_eq_ ?_ ?_ | refine br_seq ?_ ?_ | refine br_seq_ ?_ ?_) <;> intro hBr <;> first | (exfalso; omega) | (exfalso; contradiction) | (exfalso; exact hBr rfl) | skip) | refine br_not ?_ | refine br_not_ ?_ | refine br_and ?_ | refine br_and_ ?_ | refine Av.asm_ (by omega) ?_ | refine ⟨_, wrap_i64 (by omega), ?_⟩ | refine ⟨_, wrap_u64 (by omega) (by omega), ?_⟩ | refine ⟨_, wrap_u8 (by omega) (by omega), ?_⟩ | refine ⟨_, wrap_u32 (by omega) (by omega), ?_⟩ | refine ⟨_, wrap_u16 (by omega) (by omega), ?_⟩ | refine ⟨_, rfl, ?_⟩ | exact rfl)
    · have b1 : ltB k key = false := by rw [ltB_eq]; simpa using h1
      have ih := split_ok (key := key) l ⟨by omega, by omega⟩
      have s := Tr.split_sizes (key := key) (t := l)
      have p1 := Tr.cn_pos (Tr.split key l).1
      have p2 := Tr.wt_pos (Tr.split key l).1
      have j := join_yes (l := (Tr.split key l).2) (r := r) (k := k) (v := v) (by omega) (by omega)
      have e : Tr.split key (.node l k v r) = ((Tr.split key l).1, Tr.join (Tr.split key l).2 k v r) := if_neg h1
      rw [e]
      refine S_ Tryz.func164 (by kernel_rfl) rfl (Nat.le_of_ble_eq_true rfl) ?_
      show avc Tryz.prog SP _ _ _ _ _ _
      dsimp only [avc, startS, Array.toList, Tryz.f164]
      repeat' ((try conv => whnf) <;> first | refine Av.hm_ ?_ | refine Av.w1 ?_ | refine Av.w2 ?_ | refine Av.w3 ?_ | refine Av.w4 ?_ | refine Av.nle rfl ?_ | refine Av.q1 ?_ | refine Av.q2 ?_ | refine Av.q3 ?_ | refine Av.q4 ?_ | refine Av.inr_ (by omega) (by omega) ?_ | (refine br_f b1 ?_) | refine ⟨_, ih, ?_⟩ | refine ⟨_, j, ?_⟩ | refine ⟨[], [0,0,0,4,12,28,0,64,192,448,0,1024,3072,7168,16382,32767,65535], Eq.refl true, ?_⟩ | refine ⟨[], [0,1,3,7,0,16,48,112,0,256,768,1792,0,8191,0,16383,65535], Eq.refl true, ?_⟩ | exact True.intro | refine Av.eqt_ (by kernel_rfl) ?_ | refine ⟨rfl, ?_⟩ | refine ⟨⟨Nat.le_of_ble_eq_true rfl, rfl⟩, ?_⟩ | refine ⟨⟨rfl, rfl⟩, ?_⟩ | refine ⟨⟨rfl, rfl, rfl⟩, ?_⟩ | exact ⟨rfl, rfl, rfl⟩ | exact ⟨rfl, rfl⟩ | ((first | refine br_lt ?_ ?_ | refine br_lt_ ?_ ?_ | refine br_le ?_ ?_ | refine br_le_ ?_ ?_ | refine br_eq ?_ ?_ | refine br_eq_ ?_ ?_ | refine br_seq ?_ ?_ | refine br_seq_ ?_ ?_) <;> intro hBr <;> first | (exfalso; omega) | (exfalso; contradiction) | (exfalso; exact hBr rfl) | skip) | refine br_not ?_ | refine br_not_ ?_ | refine br_and ?_ | refine br_and_ ?_ | refine Av.asm_ (by omega) ?_ | refine ⟨_, wrap_i64 (by omega), ?_⟩ | refine ⟨_, wrap_u64 (by omega) (by omega), ?_⟩ | refine ⟨_, wrap_u8 (by omega) (by omega), ?_⟩ | refine ⟨_, wrap_u32 (by omega) (by omega), ?_⟩ | refine ⟨_, wrap_u16 (by omega) (by omega), ?_⟩ | refine ⟨_, rfl, ?_⟩ | exact rfl)
end Go.Proofs.YtbaedepmogkkeaaGreat.Av
