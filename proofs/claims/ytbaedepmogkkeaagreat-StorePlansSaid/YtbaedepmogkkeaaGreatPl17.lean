/- What the claim stands on, Pl17: contracts of functions and plain facts. No conditions. -/
import Derived.Test.YtbaedepmogkkeaaGreatPl14
import Derived.Test.YtbaedepmogkkeaaGreatChecked
import Derived.Test.YtbaedepmogkkeaaGreatPl4
import Derived.Test.YtbaedepmogkkeaaGreatPl15
namespace Go.Proofs.YtbaedepmogkkeaaGreat.Av
open Go Go.RowKit
set_option linter.unusedVariables false
set_option maxRecDepth 100000
set_option linter.unusedSimpArgs false
abbrev Z (n : Int) : AV := .ex (.int .i64 n)
abbrev U (n : Int) : AV := .ex (.int .u64 n)
abbrev B (b : Bool) : AV := .ex (.bool b)
abbrev T (l : List UInt8) : AV := .ex (.string (bs l))
abbrev nilA : AV := .ex (.slice none 0 0)
abbrev SP := Sound Tryz.prog
theorem mixed : Tryz.prog.follows .mixedOrders = true := by kernel_rfl
theorem enters {f : FuncId} {fn : Func} (hf : Tryz.prog.funcs[f]? = some fn) (hn : (fn.name == "runtime.NumGoroutine") = false) (hb : fn.body.isNone = false) (xs : Array Value) (w : World) : (callFunc f xs).run Tryz.prog w = .ok (.enter f xs) w := by
 have h1 : ¬ fn.name = "runtime.NumGoroutine" := by simpa using hn
 have h2 : ¬ fn.body = none := by intro e; rw [e] at hb; cases hb
 simp [callFunc, hf, h1, h2]
theorem S_ {f : FuncId} {fn : Func} {args : List AV} {r : AV} (hf : Tryz.prog.funcs[f]? = some fn) (hn : (fn.name == "runtime.NumGoroutine") = false) (hb : fn.body.isNone = false) (hle : args.length ≤ fn.ntmps) (hk : abody Tryz.prog SP fn args r) : SP f args r :=
 sound_of mixed hf (enters hf hn hb) hle hk
abbrev SM := SoundM Tryz.prog
theorem SM_ {f : FuncId} {fn : Func} {args : List AV} {bs : List ABlk} {n : Nat} {rargs : List AV} {r : AV} {bs' : List ABlk} (hf : Tryz.prog.funcs[f]? = some fn) (hn : (fn.name == "runtime.NumGoroutine") = false) (hb : fn.body.isNone = false) (hle : args.length ≤ fn.ntmps) (hn2 : n ≤ args.length)
  (hk : abodyM Tryz.prog SP fn args bs n rargs r bs') : SM f args bs rargs r bs' :=
 sound_ofM mixed hf (enters hf hn hb) hle hn2 hk
theorem sound_ex {f : FuncId} {fn : Func} {vs : List Value} {v : Value} (hf : Tryz.prog.funcs[f]? = some fn) (hn : (fn.name == "runtime.NumGoroutine") = false) (hb : fn.body.isNone = false)
  (h : ∀ w, Calls Tryz.prog f vs.toArray w fun e w' => e = .returned v ∧ Below w.heap.size w w') : SP f (vs.map .ex) (.ex v) := by
 refine ⟨enters hf hn hb, fun w F xs hs hr hF => ?_⟩
 have : xs = vs.toArray := by
  apply Array.ext'
  apply List.ext_getElem?
  intro j
  by_cases hj : j < vs.length
  ·have h1 := hr j (by simpa using hj)
   simp only [List.getElem_map] at h1
   have h2 := h1.ex_inv
   have hj2 : j < xs.size := by rw [hs]; simpa using hj
   simp [hj2] at h2
   simp [hj2, hj, h2]
  ·rw [List.getElem?_eq_none (by simp [hs]; omega), List.getElem?_eq_none (by simp; omega)]
 rw [this]
 refine (h w).mono ?_
 rintro e w' ⟨rfl, hb⟩
 exact ⟨v, F, rfl, hb, fun _ _ h => h, fun _ _ h => .inl h, .ex _ _⟩
theorem bs_size (l : List UInt8) : (bs l).size = l.length := by simp [bs, ByteArray.size]
theorem bs_cut (t : List UInt8) (a b : Nat) : (bs t).extract a b = bs ((t.drop a).take (b - a)) := by
 apply ByteArray.ext
 apply Array.ext'
 simp [bs, ByteArray.data_extract]
theorem bs_add (a b : List UInt8) : bs a ++ bs b = bs (a ++ b) := by
 apply ByteArray.ext
 simp [bs, ByteArray.data_append]
theorem room_s {k : Nat} (hk : k ≤ 1000000000000) : room k (bytesT Tryz.prog 9) := by
 rw [show bytesT Tryz.prog 9 = 16 by kernel_rfl]; unfold room; omega
theorem one_T (l : List UInt8) : ∀ v ∈ [T l], one1 v = true := by
 intro v hv; rw [List.mem_singleton] at hv; subst hv; rfl
theorem one_S (s : ByteArray) : ∀ v ∈ [AV.ex (.string s)], one1 v = true := by
 intro v hv; rw [List.mem_singleton] at hv; subst hv; rfl
theorem len_ok {ops : Array Oper} {ms : List Nat} (h : Nat.beq ops.size ms.length = true) (h2 : drawOk ops ms = true) : drawOk ops ms = true := h2
theorem br_lt {a b : Int} {p q : Prop} (h1 : a < b → p) (h2 : ¬ a < b → q) : (decide (a < b) = true → p) ∧ (decide (a < b) = false → q) :=
 ⟨fun h => h1 (of_decide_eq_true h), fun h => h2 (of_decide_eq_false h)⟩
theorem br_lt_ {a b : Int} {p q : Prop} (h1 : ¬ a < b → p) (h2 : a < b → q) : (decide (a < b) = false → p) ∧ (decide (a < b) = true → q) :=
 ⟨fun h => h1 (of_decide_eq_false h), fun h => h2 (of_decide_eq_true h)⟩
theorem br_le {a b : Int} {p q : Prop} (h1 : a ≤ b → p) (h2 : ¬ a ≤ b → q) : (decide (a ≤ b) = true → p) ∧ (decide (a ≤ b) = false → q) :=
 ⟨fun h => h1 (of_decide_eq_true h), fun h => h2 (of_decide_eq_false h)⟩
theorem br_le_ {a b : Int} {p q : Prop} (h1 : ¬ a ≤ b → p) (h2 : a ≤ b → q) : (decide (a ≤ b) = false → p) ∧ (decide (a ≤ b) = true → q) :=
 ⟨fun h => h1 (of_decide_eq_false h), fun h => h2 (of_decide_eq_true h)⟩
theorem br_eq {a b : Int} {p q : Prop} (h1 : a = b → p) (h2 : ¬ a = b → q) : ((a == b) = true → p) ∧ ((a == b) = false → q) :=
 ⟨fun h => h1 (by simpa using h), fun h => h2 (by simpa using h)⟩
theorem br_eq_ {a b : Int} {p q : Prop} (h1 : ¬ a = b → p) (h2 : a = b → q) : ((a == b) = false → p) ∧ ((a == b) = true → q) :=
 ⟨fun h => h1 (by simpa using h), fun h => h2 (by simpa using h)⟩
theorem br_not {x : Bool} {p q : Prop} (h : (x = false → p) ∧ (x = true → q)) : ((!x) = true → p) ∧ ((!x) = false → q) :=
 ⟨fun e => h.1 (by simpa using e), fun e => h.2 (by simpa using e)⟩
theorem br_not_ {x : Bool} {p q : Prop} (h : (x = true → p) ∧ (x = false → q)) : ((!x) = false → p) ∧ ((!x) = true → q) :=
 ⟨fun e => h.1 (by simpa using e), fun e => h.2 (by simpa using e)⟩
theorem br_and {x y : Bool} {p q : Prop} (h : (x = true → ((y = true → p) ∧ (y = false → q))) ∧ (x = false → q)) : ((x && y) = true → p) ∧ ((x && y) = false → q) := by
 cases x <;> cases y <;> simp_all
theorem br_and_ {x y : Bool} {p q : Prop} (h : (x = true → ((y = false → p) ∧ (y = true → q))) ∧ (x = false → p)) : ((x && y) = false → p) ∧ ((x && y) = true → q) := by
 cases x <;> cases y <;> simp_all
theorem bsl_ (l : List UInt8) : (bs l).toList = l := by simp [bs, ByteArray.toList_eq]
theorem br_seq {a b : List UInt8} {p q : Prop} (h1 : a = b → p) (h2 : ¬ a = b → q) : (((bs a).toList == (bs b).toList) = true → p) ∧ (((bs a).toList == (bs b).toList) = false → q) := by
 rw [bsl_, bsl_]
 exact ⟨fun h => h1 (by simpa using h), fun h => h2 (by simpa using h)⟩
theorem br_seq_ {a b : List UInt8} {p q : Prop} (h1 : ¬ a = b → p) (h2 : a = b → q) : (((bs a).toList == (bs b).toList) = false → p) ∧ (((bs a).toList == (bs b).toList) = true → q) := by
 rw [bsl_, bsl_]
 exact ⟨fun h => h1 (by simpa using h), fun h => h2 (by simpa using h)⟩
theorem br_t {X : Bool} {p q : Prop} (h : X = true) (k : p) : (X = true → p) ∧ (X = false → q) := ⟨fun _ => k, fun e => Bool.noConfusion (h.symm.trans e)⟩
theorem br_f {X : Bool} {p q : Prop} (h : X = false) (k : q) : (X = true → p) ∧ (X = false → q) := ⟨fun e => Bool.noConfusion (h.symm.trans e), fun _ => k⟩
theorem br_tr {X : Bool} {p q : Prop} (h : X = true) (k : q) : (X = false → p) ∧ (X = true → q) := ⟨fun e => Bool.noConfusion (h.symm.trans e), fun _ => k⟩
theorem br_fr {X : Bool} {p q : Prop} (h : X = false) (k : p) : (X = false → p) ∧ (X = true → q) := ⟨fun _ => k, fun e => Bool.noConfusion (h.symm.trans e)⟩
theorem wrap_u8 {n : Int} (h0 : 0 ≤ n) (h1 : n < 256) : IntKind.u8.wrap n = n := by
 have : IntKind.u8.wrap n = n % 256 := by simp [IntKind.wrap, IntKind.bits, IntKind.signed]
 rw [this]; omega
theorem wrap_u16 {n : Int} (h0 : 0 ≤ n) (h1 : n < 65536) : IntKind.u16.wrap n = n := by
 have : IntKind.u16.wrap n = n % 65536 := by simp [IntKind.wrap, IntKind.bits, IntKind.signed]
 rw [this]; omega
theorem wrap_u32 {n : Int} (h0 : 0 ≤ n) (h1 : n < 4294967296) : IntKind.u32.wrap n = n := by
 have : IntKind.u32.wrap n = n % 4294967296 := by simp [IntKind.wrap, IntKind.bits, IntKind.signed]
 rw [this]; omega
theorem wrap_u64 {n : Int} (h0 : 0 ≤ n) (h1 : n < 18446744073709551616) : IntKind.u64.wrap n = n := wrap_u n h0 h1
theorem wrap_i64 {n : Int} (h : -9223372036854775808 ≤ n ∧ n ≤ 9223372036854775807) : IntKind.i64.wrap n = n := wrap_in h
/-! the steps of a walk, with short names -/
theorem w1 {p q : Prop} (h : p) : (true = true → p) ∧ (true = false → q) := ⟨fun _ => h, fun e => Bool.noConfusion e⟩
theorem w2 {p q : Prop} (h : q) : (false = true → p) ∧ (false = false → q) := ⟨fun e => Bool.noConfusion e, fun _ => h⟩
theorem w3 {p q : Prop} (h : q) : (true = false → p) ∧ (true = true → q) := ⟨fun e => Bool.noConfusion e, fun _ => h⟩
theorem w4 {p q : Prop} (h : p) : (false = false → p) ∧ (false = true → q) := ⟨fun _ => h, fun e => Bool.noConfusion e⟩
theorem nle {a b : Nat} {p : Prop} (h : Nat.ble a b = true) (k : p) : a ≤ b ∧ p := ⟨Nat.le_of_ble_eq_true h, k⟩
theorem q1 {α : Type} [BEq α] [LawfulBEq α] {a : α} {p q : Prop} (h : p) : ((a == a) = true → p) ∧ ((a == a) = false → q) := ⟨fun _ => h, fun e => Bool.noConfusion ((beq_self_eq_true a).symm.trans e)⟩
theorem q2 {α : Type} [BEq α] [LawfulBEq α] {a : α} {p q : Prop} (h : q) : ((a != a) = true → p) ∧ ((a != a) = false → q) := ⟨fun e => Bool.noConfusion ((bne_self_eq_false a).symm.trans e), fun _ => h⟩
theorem q3 {α : Type} [BEq α] [LawfulBEq α] {a : α} {p q : Prop} (h : q) : ((a == a) = false → p) ∧ ((a == a) = true → q) := ⟨fun e => Bool.noConfusion ((beq_self_eq_true a).symm.trans e), fun _ => h⟩
theorem q4 {α : Type} [BEq α] [LawfulBEq α] {a : α} {p q : Prop} (h : p) : ((a != a) = false → p) ∧ ((a != a) = true → q) := ⟨fun _ => h, fun e => Bool.noConfusion ((bne_self_eq_false a).symm.trans e)⟩
theorem inr_ {n : Int} {p : Prop} (h0 : -9223372036854775808 ≤ n) (h1 : n ≤ 9223372036854775807) (k : p) : inR n ∧ p := ⟨⟨h0, h1⟩, k⟩
theorem eqt_ {P : Program} {t : TypeId} {p : Prop} (h : eqT P t = true) (k : p) : eqT P t = true ∧ p := ⟨h, k⟩
theorem asm_ {a p : Prop} (h : a) (k : p) : a ∧ p := ⟨h, k⟩
theorem hm_ {p : Prop} (h : p) : Hold p := ⟨h⟩
structure Mk (n : Nat) (l : List Nat) : Prop where
theorem mk_ {ops : Array Oper} {ms : List Nat} (h : Mk ops.size ms) (h2 : drawOk ops ms = true) : drawOk ops ms = true := h2
structure FzF : Prop where
theorem fzf_ {k : Bool → Prop} (h : FzF) (hk : k false) : ∃ b : Bool, k b := ⟨false, hk⟩
theorem W {p : Prop} (h : p := by
 repeat' ((try conv => whnf) <;> first
  | refine Av.hm_ ?_ | refine Av.w1 ?_ | refine Av.w2 ?_ | refine Av.w3 ?_ | refine Av.w4 ?_ | refine Av.nle rfl ?_
  | refine Av.q1 ?_ | refine Av.q2 ?_ | refine Av.q3 ?_ | refine Av.q4 ?_ | refine Av.inr_ (by omega) (by omega) ?_
  | refine ⟨_, by assumption, ?_⟩ | refine ⟨_, _, _, by assumption, ?_⟩ | refine ⟨[], _, Av.mk_ (by assumption) (by kernel_rfl), ?_⟩
  | refine Av.fzf_ (by assumption) ?_ | refine ⟨true, ?_⟩ | exact True.intro | refine Av.eqt_ (by kernel_rfl) ?_ | refine ⟨rfl, ?_⟩ | exact Av.asm_ (by assumption) (by assumption) | refine Av.asm_ (by assumption) ?_
  | refine ⟨⟨Nat.le_of_ble_eq_true rfl, rfl⟩, ?_⟩ | refine ⟨⟨rfl, rfl⟩, ?_⟩ | refine ⟨⟨rfl, rfl, rfl⟩, ?_⟩ | exact ⟨rfl, rfl, rfl⟩ | exact ⟨rfl, rfl⟩
  | refine Av.br_t (by assumption) ?_ | refine Av.br_f (by assumption) ?_ | refine Av.br_tr (by assumption) ?_ | refine Av.br_fr (by assumption) ?_
  | ((first | refine Av.br_lt ?_ ?_ | refine Av.br_lt_ ?_ ?_ | refine Av.br_le ?_ ?_ | refine Av.br_le_ ?_ ?_ | refine Av.br_eq ?_ ?_ | refine Av.br_eq_ ?_ ?_ | refine Av.br_seq ?_ ?_ | refine Av.br_seq_ ?_ ?_) <;> intro hBr <;> first | (exfalso; omega) | (exfalso; contradiction) | (exfalso; exact hBr rfl) | skip)
  | refine Av.br_not ?_ | refine Av.br_not_ ?_ | refine Av.br_and ?_ | refine Av.br_and_ ?_ | refine Av.asm_ (by omega) ?_
  | refine ⟨_, Av.wrap_i64 (by omega), ?_⟩ | refine ⟨_, Av.wrap_u64 (by omega) (by omega), ?_⟩ | refine ⟨_, Av.wrap_u8 (by omega) (by omega), ?_⟩ | refine ⟨_, Av.wrap_u32 (by omega) (by omega), ?_⟩ | refine ⟨_, Av.wrap_u16 (by omega) (by omega), ?_⟩
  | refine ⟨_, rfl, ?_⟩ | exact rfl | assumption)) : p := h
theorem Wk {p q : Prop} (k : q) (h : Hold q → p := by
 intro hWk
 repeat' ((try conv => whnf) <;> first
  | refine Av.hm_ ?_ | refine Av.w1 ?_ | refine Av.w2 ?_ | refine Av.w3 ?_ | refine Av.w4 ?_ | refine Av.nle rfl ?_
  | refine Av.q1 ?_ | refine Av.q2 ?_ | refine Av.q3 ?_ | refine Av.q4 ?_ | refine Av.inr_ (by omega) (by omega) ?_
  | refine ⟨_, by assumption, ?_⟩ | refine ⟨_, _, _, by assumption, ?_⟩ | refine ⟨[], _, Av.mk_ (by assumption) (by kernel_rfl), ?_⟩
  | refine Av.fzf_ (by assumption) ?_ | refine ⟨true, ?_⟩ | exact True.intro | refine Av.eqt_ (by kernel_rfl) ?_ | refine ⟨rfl, ?_⟩ | exact Av.asm_ (by assumption) (by assumption) | refine Av.asm_ (by assumption) ?_
  | refine ⟨⟨Nat.le_of_ble_eq_true rfl, rfl⟩, ?_⟩ | refine ⟨⟨rfl, rfl⟩, ?_⟩ | refine ⟨⟨rfl, rfl, rfl⟩, ?_⟩ | exact ⟨rfl, rfl, rfl⟩ | exact ⟨rfl, rfl⟩
  | refine Av.br_t (by assumption) ?_ | refine Av.br_f (by assumption) ?_ | refine Av.br_tr (by assumption) ?_ | refine Av.br_fr (by assumption) ?_
  | ((first | refine Av.br_lt ?_ ?_ | refine Av.br_lt_ ?_ ?_ | refine Av.br_le ?_ ?_ | refine Av.br_le_ ?_ ?_ | refine Av.br_eq ?_ ?_ | refine Av.br_eq_ ?_ ?_ | refine Av.br_seq ?_ ?_ | refine Av.br_seq_ ?_ ?_) <;> intro hBr <;> first | (exfalso; omega) | (exfalso; contradiction) | (exfalso; exact hBr rfl) | skip)
  | refine Av.br_not ?_ | refine Av.br_not_ ?_ | refine Av.br_and ?_ | refine Av.br_and_ ?_ | refine Av.asm_ (by omega) ?_
  | refine ⟨_, Av.wrap_i64 (by omega), ?_⟩ | refine ⟨_, Av.wrap_u64 (by omega) (by omega), ?_⟩ | refine ⟨_, Av.wrap_u8 (by omega) (by omega), ?_⟩ | refine ⟨_, Av.wrap_u32 (by omega) (by omega), ?_⟩ | refine ⟨_, Av.wrap_u16 (by omega) (by omega), ?_⟩
  | refine ⟨_, rfl, ?_⟩ | exact rfl | assumption)
 exact Hold.out hWk) : p := h ⟨k⟩
theorem Va {p q : Prop} (k : q) (h : q → p := by intro hq; first | exact Av.hm_ hq | exact Av.w1 hq | exact Av.w2 hq | exact Av.w3 hq | exact Av.w4 hq | exact Av.nle rfl hq | exact Av.q1 hq | exact Av.q2 hq | exact Av.q3 hq | exact Av.q4 hq | exact Av.inr_ (by omega) (by omega) hq | fail) : p := h k
theorem Vb {p q : Prop} (k : q) (h : q → p := by intro hq; first | exact Av.eqt_ (by kernel_rfl) hq | exact ⟨rfl, hq⟩ | exact ⟨⟨Nat.le_of_ble_eq_true rfl, rfl⟩, hq⟩ | exact ⟨⟨rfl, rfl⟩, hq⟩ | exact ⟨⟨rfl, rfl, rfl⟩, hq⟩ | fail) : p := h k
theorem Vc {p q1 q2 : Prop} (k1 : q1) (k2 : q2) (h : q1 → q2 → p := by intro h1 h2; first | exact Av.br_lt h1 h2 | exact Av.br_lt_ h1 h2 | exact Av.br_le h1 h2 | exact Av.br_le_ h1 h2 | exact Av.br_eq h1 h2 | exact Av.br_eq_ h1 h2 | exact Av.br_seq h1 h2 | exact Av.br_seq_ h1 h2 | fail) : p := h k1 k2
theorem Vd {p q : Prop} (k : q) (h : q → p := by intro hq; first | exact Av.br_not hq | exact Av.br_not_ hq | exact Av.br_and hq | exact Av.br_and_ hq | exact Av.asm_ (by omega) hq | exact ⟨_, Av.wrap_i64 (by omega), hq⟩ | exact ⟨_, Av.wrap_u64 (by omega) (by omega), hq⟩ | exact ⟨_, Av.wrap_u8 (by omega) (by omega), hq⟩ | exact ⟨_, Av.wrap_u32 (by omega) (by omega), hq⟩ | exact ⟨_, Av.wrap_u16 (by omega) (by omega), hq⟩ | exact ⟨_, rfl, hq⟩ | fail) : p := h k
end Go.Proofs.YtbaedepmogkkeaaGreat.Av
namespace Go.Proofs.YtbaedepmogkkeaaGreat.Av
set_option maxHeartbeats 1000000
open Go Go.RowKit Tre
set_option linter.unusedVariables false
set_option linter.unusedSimpArgs false
set_option maxRecDepth 100000
theorem Sound.weak {P : Program} {f : FuncId} {xs xs' : List AV} {r : AV} (h : Sound P f xs r) (hl : xs'.length = xs.length) (hr : ∀ (w : World) (F : Nat → Nat → Prop) (j : Nat) (h1 : j < xs.length) (h2 : j < xs'.length) (x : Value), Rep w p0 c0 F noD xs'[j] x → Rep w p0 c0 F noD xs[j] x) : Sound P f xs' r :=
 ⟨h.1, fun w F us hs hx hF => h.2 w F us (hs.trans hl) (fun j hj => hr w F j hj (by omega) _ (hx j (by omega))) hF⟩
def isN : Tr → Bool
 | .nil => false
 | .node .. => true
def ndC : Tr → List AV
 | .nil => []
 | .node l k v r => [T k, T v, .pt (isN l) (ndC l), .pt (isN r) (ndC r), Z (Tr.hh (.node l k v r)), Z (Tr.cn (.node l k v r)), Z (Tr.wt (.node l k v r))]
abbrev ndA (t : Tr) : AV := .pt (isN t) (ndC t)
abbrev trA (t : Tr) : AV := .agg [ndA t]
theorem tall_ok (t : Tr) : SP 206 [ndA t] (Z t.hh) := by
 cases t with
 | nil =>
  refine S_ Tryz.func206 (by kernel_rfl) rfl (Nat.le_of_ble_eq_true rfl) ?_
  show avc Tryz.prog SP _ _ _ _ _ _
  dsimp only [avc, startS, Array.toList, Tryz.f206]
  exact Av.W
 | node l k v r =>
  refine S_ Tryz.func206 (by kernel_rfl) rfl (Nat.le_of_ble_eq_true rfl) ?_
  show avc Tryz.prog SP _ _ _ _ _ _
  dsimp only [avc, startS, Array.toList, Tryz.f206]
  exact Av.W
theorem count_nd (t : Tr) : SP 97 [ndA t] (Z t.cn) := by
 cases t with
 | nil =>
  refine S_ Tryz.func97 (by kernel_rfl) rfl (Nat.le_of_ble_eq_true rfl) ?_
  show avc Tryz.prog SP _ _ _ _ _ _
  dsimp only [avc, startS, Array.toList, Tryz.f97]
  exact Av.W
 | node l k v r =>
  refine S_ Tryz.func97 (by kernel_rfl) rfl (Nat.le_of_ble_eq_true rfl) ?_
  show avc Tryz.prog SP _ _ _ _ _ _
  dsimp only [avc, startS, Array.toList, Tryz.f97]
  exact Av.W
theorem weight_nd (t : Tr) : SP 138 [ndA t] (Z t.wt) := by
 cases t with
 | nil =>
  refine S_ Tryz.func138 (by kernel_rfl) rfl (Nat.le_of_ble_eq_true rfl) ?_
  show avc Tryz.prog SP _ _ _ _ _ _
  dsimp only [avc, startS, Array.toList, Tryz.f138]
  exact Av.W
 | node l k v r =>
  refine S_ Tryz.func138 (by kernel_rfl) rfl (Nat.le_of_ble_eq_true rfl) ?_
  show avc Tryz.prog SP _ _ _ _ _ _
  dsimp only [avc, startS, Array.toList, Tryz.f138]
  exact Av.W
theorem made_ok {l r : Tr} {k v : Key} (hc : l.cn + r.cn ≤ 1000000000) (hw : l.wt + r.wt ≤ 1000000000000) (hk : k.length ≤ 1000000000) (hv : v.length ≤ 1000000000) : SP 174 [ndA l, T k, T v, ndA r] (ndA (.node l k v r)) := by
 have c1 := Tr.cn_pos l
 have c2 := Tr.cn_pos r
 have w1 := Tr.wt_pos l
 have w2 := Tr.wt_pos r
 have h1 := Tr.hh_pos l
 have h2 := Tr.hh_pos r
 have h3 := Tr.hh_le_cn l
 have h4 := Tr.hh_le_cn r
 have hk2 : (bs k).size ≤ 1000000000 := by rw [bs_size]; exact hk
 have hv2 : (bs v).size ≤ 1000000000 := by rw [bs_size]; exact hv
 have t1 := tall_ok l
 have t2 := tall_ok r
 have n1 := count_nd l
 have n2 := count_nd r
 have m1 := weight_nd l
 have m2 := weight_nd r
 refine S_ Tryz.func174 (by kernel_rfl) rfl (Nat.le_of_ble_eq_true rfl) ?_
 show avc Tryz.prog SP _ _ _ _ _ _
 dsimp only [avc, startS, Array.toList, Tryz.f174]
 exact Av.W
structure Fits (l : Tr) (k v : Key) (r : Tr) : Prop where
 c : l.cn + r.cn ≤ 1000000000
 w : l.wt + r.wt + (k.length : Int) + (v.length : Int) ≤ 1000000000
theorem Fits.made {l r : Tr} {k v : Key} (h : Fits l k v r) : SP 174 [ndA l, T k, T v, ndA r] (ndA (.node l k v r)) := by
 have w1 := Tr.wt_pos l
 have w2 := Tr.wt_pos r
 have := h.w
 exact made_ok h.c (by omega) (by omega) (by omega)
theorem turnLeft_ok {l rl rr : Tr} {k v rk rv : Key} (h : Fits l k v (.node rl rk rv rr)) : SP 207 [ndA (.node l k v (.node rl rk rv rr))] (ndA (.node (.node l k v rl) rk rv rr)) := by
 have hc := h.c
 have hw := h.w
 have p1 := Tr.cn_pos rl
 have p2 := Tr.cn_pos rr
 have p3 := Tr.wt_pos rl
 have p4 := Tr.wt_pos rr
 simp only [Tr.cn, Tr.wt] at hc hw
 have m1 := (Fits.mk (l := l) (k := k) (v := v) (r := rl) (by omega) (by omega)).made
 have m2 := (Fits.mk (l := .node l k v rl) (k := rk) (v := rv) (r := rr) (by simp only [Tr.cn]; omega) (by simp only [Tr.wt]; omega)).made
 refine S_ Tryz.func207 (by kernel_rfl) rfl (Nat.le_of_ble_eq_true rfl) ?_
 show avc Tryz.prog SP _ _ _ _ _ _
 dsimp only [avc, startS, Array.toList, Tryz.f207]
 have hW0 : Av.Mk 31 [0,1,3,7,0,16,48,112,0,256,768,1792,0,4096,12288,28672,65535,0,131072,393216,917504,0,2097152,6291456,14680064,0,33554432,100663296,234881024,536870911,1073741823] := ⟨⟩
 exact Av.W
theorem turnRight_ok {ll lr r : Tr} {k v lk lv : Key} (h : Fits (.node ll lk lv lr) k v r) : SP 208 [ndA (.node (.node ll lk lv lr) k v r)] (ndA (.node ll lk lv (.node lr k v r))) := by
 have hc := h.c
 have hw := h.w
 have p1 := Tr.cn_pos ll
 have p2 := Tr.cn_pos lr
 have p3 := Tr.wt_pos ll
 have p4 := Tr.wt_pos lr
 simp only [Tr.cn, Tr.wt] at hc hw
 have m1 := (Fits.mk (l := lr) (k := k) (v := v) (r := r) (by omega) (by omega)).made
 have m2 := (Fits.mk (l := ll) (k := lk) (v := lv) (r := .node lr k v r) (by simp only [Tr.cn]; omega) (by simp only [Tr.wt]; omega)).made
 refine S_ Tryz.func208 (by kernel_rfl) rfl (Nat.le_of_ble_eq_true rfl) ?_
 show avc Tryz.prog SP _ _ _ _ _ _
 dsimp only [avc, startS, Array.toList, Tryz.f208]
 have hW1 : Av.Mk 31 [0,1,3,7,0,16,48,112,0,256,768,1792,0,4096,12288,28672,0,65536,196608,458752,0,1048576,3145728,7340032,0,16777216,50331648,117440512,268431360,536870911,1073741823] := ⟨⟩
 exact Av.W
theorem level_ok {l r : Tr} {k v : Key} (h : Fits l k v r) : SP 175 [ndA (.node l k v r)] (ndA (Tr.level (.node l k v r))) := by
 have h1 := Tr.hh_pos l
 have h2 := Tr.hh_pos r
 have h3 := Tr.hh_le_cn l
 have h4 := Tr.hh_le_cn r
 have hc := h.c
 have hw := h.w
 have t1 := tall_ok l
 have t2 := tall_ok r
 by_cases d1 : l.hh - r.hh > 1
 ·obtain ⟨ll, lk, lv, lr, rfl⟩ := Tr.pos_node (t := l) (by omega)
  have t3 := tall_ok ll
  have t4 := tall_ok lr
  have q1 := Tr.hh_pos ll
  have q2 := Tr.hh_pos lr
  have q3 := Tr.cn_pos ll
  have q4 := Tr.cn_pos lr
  have q5 := Tr.wt_pos ll
  have q6 := Tr.wt_pos lr
  have q7 := Tr.cn_pos r
  have q8 := Tr.wt_pos r
  by_cases d2 : ll.hh < lr.hh
  ·obtain ⟨a, b, c, d, rfl⟩ := Tr.pos_node (t := lr) (by omega)
   have e : Tr.level (.node (.node ll lk lv (.node a b c d)) k v r) = .node (.node ll lk lv a) b c (.node d k v r) := (if_pos d1).trans ((if_pos d2).trans rfl)
   rw [e]
   have z1 := Tr.cn_pos a
   have z2 := Tr.cn_pos d
   have z3 := Tr.wt_pos a
   have z4 := Tr.wt_pos d
   have c1 := turnLeft_ok (l := ll) (k := lk) (v := lv) (rl := a) (rk := b) (rv := c) (rr := d) ⟨by simp only [Tr.cn] at hc ⊢; omega, by simp only [Tr.wt] at hw ⊢; omega⟩
   have c2 := (Fits.mk (l := .node (.node ll lk lv a) b c d) (k := k) (v := v) (r := r) (by simp only [Tr.cn] at hc ⊢; omega) (by simp only [Tr.wt] at hw ⊢; omega)).made
   have c3 := turnRight_ok (ll := .node ll lk lv a) (lk := b) (lv := c) (lr := d) (k := k) (v := v) (r := r) ⟨by simp only [Tr.cn] at hc ⊢; omega, by simp only [Tr.wt] at hw ⊢; omega⟩
   refine S_ Tryz.func175 (by kernel_rfl) rfl (Nat.le_of_ble_eq_true rfl) ?_
   show avc Tryz.prog SP _ _ _ _ _ _
   dsimp only [avc, startS, Array.toList, Tryz.f175]
   repeat' ((try conv => whnf) <;> first | refine Av.Va ?_ | refine ⟨_, t1, ?_⟩ | refine ⟨_, t2, ?_⟩ | refine ⟨_, t3, ?_⟩ | refine ⟨_, t4, ?_⟩ | refine ⟨_, c1, ?_⟩ | refine ⟨_, c2, ?_⟩ | refine ⟨_, c3, ?_⟩ | refine ⟨[], [0,1,3,7,15,31,63,127,0,256,768,1792,3840,7936,16128,32767,65535], Av.len_ok rfl (by kernel_rfl), ?_⟩ | refine ⟨[], [0,1,3,7,15,0,32,96,224,0,512,1536,3584,0,8192,24576,57344,131071,262143], Eq.refl true, ?_⟩ | refine ⟨[], [0,1,3,7,0,16,48,112,0,256,768,1792,0,4096,12288,28672,61440,131071,262143], Eq.refl true, ?_⟩ | refine ⟨[], [0,1,3,7,15,0,32,96,224,511,1023,2047], Av.len_ok rfl (by kernel_rfl), ?_⟩ | exact True.intro | refine Av.Vb ?_ | exact ⟨rfl, rfl, rfl⟩ | exact ⟨rfl, rfl⟩ | (refine Av.Vc ?_ ?_ <;> intro hBr <;> first | (exfalso; omega) | (exfalso; contradiction) | (exfalso; exact hBr rfl) | skip) | refine Av.Vd ?_ | exact rfl)
  ·have e : Tr.level (.node (.node ll lk lv lr) k v r) = .node ll lk lv (.node lr k v r) := (if_pos d1).trans ((if_neg d2).trans rfl)
   rw [e]
   have c3 := turnRight_ok h
   refine S_ Tryz.func175 (by kernel_rfl) rfl (Nat.le_of_ble_eq_true rfl) ?_
   show avc Tryz.prog SP _ _ _ _ _ _
   dsimp only [avc, startS, Array.toList, Tryz.f175]
   repeat' ((try conv => whnf) <;> first | refine Av.Va ?_ | refine ⟨_, t1, ?_⟩ | refine ⟨_, t2, ?_⟩ | refine ⟨_, t3, ?_⟩ | refine ⟨_, t4, ?_⟩ | refine ⟨_, c3, ?_⟩ | refine ⟨[], [0,1,3,7,15,31,63,127,0,256,768,1792,3840,7936,16128,32767,65535], Av.len_ok rfl (by kernel_rfl), ?_⟩ | refine ⟨[], [0,1,3,7,15,0,32,96,224,0,512,1536,3584,0,8192,24576,57344,131071,262143], Eq.refl true, ?_⟩ | refine ⟨[], [0,1,3,7,0,16,48,112,0,256,768,1792,0,4096,12288,28672,61440,131071,262143], Eq.refl true, ?_⟩ | refine ⟨[], [0,1,3,7,15,0,32,96,224,511,1023,2047], Av.len_ok rfl (by kernel_rfl), ?_⟩ | exact True.intro | refine Av.Vb ?_ | exact ⟨rfl, rfl, rfl⟩ | exact ⟨rfl, rfl⟩ | (refine Av.Vc ?_ ?_ <;> intro hBr <;> first | (exfalso; omega) | (exfalso; contradiction) | (exfalso; exact hBr rfl) | skip) | refine Av.Vd ?_ | exact rfl)
 ·by_cases d3 : l.hh - r.hh < -1
  ·obtain ⟨rl, rk, rv, rr, rfl⟩ := Tr.pos_node (t := r) (by omega)
   have t3 := tall_ok rl
   have t4 := tall_ok rr
   have q1 := Tr.hh_pos rl
   have q2 := Tr.hh_pos rr
   have q3 := Tr.cn_pos rl
   have q4 := Tr.cn_pos rr
   have q5 := Tr.wt_pos rl
   have q6 := Tr.wt_pos rr
   have q7 := Tr.cn_pos l
   have q8 := Tr.wt_pos l
   by_cases d2 : rr.hh < rl.hh
   ·obtain ⟨a, b, c, d, rfl⟩ := Tr.pos_node (t := rl) (by omega)
    have e : Tr.level (.node l k v (.node (.node a b c d) rk rv rr)) = .node (.node l k v a) b c (.node d rk rv rr) := (if_neg d1).trans ((if_pos d3).trans ((if_pos d2).trans rfl))
    rw [e]
    have z1 := Tr.cn_pos a
    have z2 := Tr.cn_pos d
    have z3 := Tr.wt_pos a
    have z4 := Tr.wt_pos d
    have c1 := turnRight_ok (ll := a) (lk := b) (lv := c) (lr := d) (k := rk) (v := rv) (r := rr) ⟨by simp only [Tr.cn] at hc ⊢; omega, by simp only [Tr.wt] at hw ⊢; omega⟩
    have c2 := (Fits.mk (l := l) (k := k) (v := v) (r := .node a b c (.node d rk rv rr)) (by simp only [Tr.cn] at hc ⊢; omega) (by simp only [Tr.wt] at hw ⊢; omega)).made
    have c3 := turnLeft_ok (l := l) (k := k) (v := v) (rl := a) (rk := b) (rv := c) (rr := .node d rk rv rr) ⟨by simp only [Tr.cn] at hc ⊢; omega, by simp only [Tr.wt] at hw ⊢; omega⟩
    refine S_ Tryz.func175 (by kernel_rfl) rfl (Nat.le_of_ble_eq_true rfl) ?_
    show avc Tryz.prog SP _ _ _ _ _ _
    dsimp only [avc, startS, Array.toList, Tryz.f175]
    repeat' ((try conv => whnf) <;> first | refine Av.Va ?_ | refine ⟨_, t1, ?_⟩ | refine ⟨_, t2, ?_⟩ | refine ⟨_, t3, ?_⟩ | refine ⟨_, t4, ?_⟩ | refine ⟨_, c1, ?_⟩ | refine ⟨_, c2, ?_⟩ | refine ⟨_, c3, ?_⟩ | refine ⟨[], [0,1,3,7,15,31,63,127,0,256,768,1792,3840,7936,16128,32767,65535], Av.len_ok rfl (by kernel_rfl), ?_⟩ | refine ⟨[], [0,1,3,7,15,0,32,96,224,0,512,1536,3584,0,8192,24576,57344,131071,262143], Eq.refl true, ?_⟩ | refine ⟨[], [0,1,3,7,0,16,48,112,0,256,768,1792,0,4096,12288,28672,61440,131071,262143], Eq.refl true, ?_⟩ | refine ⟨[], [0,1,3,7,15,0,32,96,224,511,1023,2047], Av.len_ok rfl (by kernel_rfl), ?_⟩ | exact True.intro | refine Av.Vb ?_ | exact ⟨rfl, rfl, rfl⟩ | exact ⟨rfl, rfl⟩ | (refine Av.Vc ?_ ?_ <;> intro hBr <;> first | (exfalso; omega) | (exfalso; contradiction) | (exfalso; exact hBr rfl) | skip) | refine Av.Vd ?_ | exact rfl)
   ·have e : Tr.level (.node l k v (.node rl rk rv rr)) = .node (.node l k v rl) rk rv rr := (if_neg d1).trans ((if_pos d3).trans ((if_neg d2).trans rfl))
    rw [e]
    have c3 := turnLeft_ok h
    refine S_ Tryz.func175 (by kernel_rfl) rfl (Nat.le_of_ble_eq_true rfl) ?_
    show avc Tryz.prog SP _ _ _ _ _ _
    dsimp only [avc, startS, Array.toList, Tryz.f175]
    repeat' ((try conv => whnf) <;> first | refine Av.Va ?_ | refine ⟨_, t1, ?_⟩ | refine ⟨_, t2, ?_⟩ | refine ⟨_, t3, ?_⟩ | refine ⟨_, t4, ?_⟩ | refine ⟨_, c3, ?_⟩ | refine ⟨[], [0,1,3,7,15,31,63,127,0,256,768,1792,3840,7936,16128,32767,65535], Av.len_ok rfl (by kernel_rfl), ?_⟩ | refine ⟨[], [0,1,3,7,15,0,32,96,224,0,512,1536,3584,0,8192,24576,57344,131071,262143], Eq.refl true, ?_⟩ | refine ⟨[], [0,1,3,7,0,16,48,112,0,256,768,1792,0,4096,12288,28672,61440,131071,262143], Eq.refl true, ?_⟩ | refine ⟨[], [0,1,3,7,15,0,32,96,224,511,1023,2047], Av.len_ok rfl (by kernel_rfl), ?_⟩ | exact True.intro | refine Av.Vb ?_ | exact ⟨rfl, rfl, rfl⟩ | exact ⟨rfl, rfl⟩ | (refine Av.Vc ?_ ?_ <;> intro hBr <;> first | (exfalso; omega) | (exfalso; contradiction) | (exfalso; exact hBr rfl) | skip) | refine Av.Vd ?_ | exact rfl)
  ·have e : Tr.level (.node l k v r) = .node l k v r := (if_neg d1).trans (if_neg d3)
   rw [e]
   refine S_ Tryz.func175 (by kernel_rfl) rfl (Nat.le_of_ble_eq_true rfl) ?_
   show avc Tryz.prog SP _ _ _ _ _ _
   dsimp only [avc, startS, Array.toList, Tryz.f175]
   repeat' ((try conv => whnf) <;> first | refine Av.Va ?_ | refine ⟨_, t1, ?_⟩ | refine ⟨_, t2, ?_⟩ | refine ⟨[], [0,1,3,7,15,31,63,127,0,256,768,1792,3840,7936,16128,32767,65535], Av.len_ok rfl (by kernel_rfl), ?_⟩ | refine ⟨[], [0,1,3,7,15,0,32,96,224,0,512,1536,3584,0,8192,24576,57344,131071,262143], Eq.refl true, ?_⟩ | refine ⟨[], [0,1,3,7,0,16,48,112,0,256,768,1792,0,4096,12288,28672,61440,131071,262143], Eq.refl true, ?_⟩ | refine ⟨[], [0,1,3,7,15,0,32,96,224,511,1023,2047], Av.len_ok rfl (by kernel_rfl), ?_⟩ | exact True.intro | refine Av.Vb ?_ | exact ⟨rfl, rfl, rfl⟩ | exact ⟨rfl, rfl⟩ | (refine Av.Vc ?_ ?_ <;> intro hBr <;> first | (exfalso; omega) | (exfalso; contradiction) | (exfalso; exact hBr rfl) | skip) | refine Av.Vd ?_ | exact rfl)
end Go.Proofs.YtbaedepmogkkeaaGreat.Av
