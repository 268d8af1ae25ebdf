/- Tests that are not decided, brought into plain form: for the walks by the abstract machine. No program's law is stated here. No conditions. -/
import Derived.Test.YtbaedepmogkkeaaGreatCore
namespace Go.Proofs.YtbaedepmogkkeaaGreat.Av
open Go Go.RowKit
set_option linter.unusedVariables false
set_option maxRecDepth 100000
set_option linter.unusedSimpArgs false

theorem len_ok {ops : Array Oper} {ms : List Nat} (h : Nat.beq ops.size ms.length = true) (h2 : drawOk ops ms = true) : drawOk ops ms = true := h2
theorem br_lt {a b : Int} {p q : Prop} (h1 : a < b → p) (h2 : ¬ a < b → q) : (decide (a < b) = true → p) ∧ (decide (a < b) = false → q) :=
  ⟨fun h => h1 (of_decide_eq_true h), fun h => h2 (of_decide_eq_false h)⟩
theorem br_lt_ {a b : Int} {p q : Prop} (h1 : ¬ a < b → p) (h2 : a < b → q) : (decide (a < b) = false → p) ∧ (decide (a < b) = true → q) :=
  ⟨fun h => h1 (of_decide_eq_false h), fun h => h2 (of_decide_eq_true h)⟩
theorem br_le {a b : Int} {p q : Prop} (h1 : a ≤ b → p) (h2 : ¬ a ≤ b → q) : (decide (a ≤ b) = true → p) ∧ (decide (a ≤ b) = false → q) :=
  ⟨fun h => h1 (of_decide_eq_true h), fun h => h2 (of_decide_eq_false h)⟩
theorem br_le_ {a b : Int} {p q : Prop} (h1 : ¬ a ≤ b → p) (h2 : a ≤ b → q) : (decide (a ≤ b) = false → p) ∧ (decide (a ≤ b) = true → q) :=
  ⟨fun h => h1 (of_decide_eq_false h), fun h => h2 (of_decide_eq_true h)⟩
theorem br_eq {a b : Int} {p q : Prop} (h1 : a = b → p) (h2 : ¬ a = b → q) : ((a == b) = true → p) ∧ ((a == b) = false → q) :=
  ⟨fun h => h1 (by simpa using h), fun h => h2 (by simpa using h)⟩
theorem br_eq_ {a b : Int} {p q : Prop} (h1 : ¬ a = b → p) (h2 : a = b → q) : ((a == b) = false → p) ∧ ((a == b) = true → q) :=
  ⟨fun h => h1 (by simpa using h), fun h => h2 (by simpa using h)⟩
theorem br_not {x : Bool} {p q : Prop} (h : (x = false → p) ∧ (x = true → q)) : ((!x) = true → p) ∧ ((!x) = false → q) :=
  ⟨fun e => h.1 (by simpa using e), fun e => h.2 (by simpa using e)⟩
theorem br_not_ {x : Bool} {p q : Prop} (h : (x = true → p) ∧ (x = false → q)) : ((!x) = false → p) ∧ ((!x) = true → q) :=
  ⟨fun e => h.1 (by simpa using e), fun e => h.2 (by simpa using e)⟩
theorem br_and {x y : Bool} {p q : Prop} (h : (x = true → ((y = true → p) ∧ (y = false → q))) ∧ (x = false → q)) : ((x && y) = true → p) ∧ ((x && y) = false → q) := by
  cases x <;> cases y <;> simp_all
theorem br_and_ {x y : Bool} {p q : Prop} (h : (x = true → ((y = false → p) ∧ (y = true → q))) ∧ (x = false → p)) : ((x && y) = false → p) ∧ ((x && y) = true → q) := by
  cases x <;> cases y <;> simp_all
theorem bsl_ (l : List UInt8) : (bs l).toList = l := by simp [bs, ByteArray.toList_eq]
theorem br_seq {a b : List UInt8} {p q : Prop} (h1 : a = b → p) (h2 : ¬ a = b → q) : (((bs a).toList == (bs b).toList) = true → p) ∧ (((bs a).toList == (bs b).toList) = false → q) := by
  rw [bsl_, bsl_]
  exact ⟨fun h => h1 (by simpa using h), fun h => h2 (by simpa using h)⟩
theorem br_seq_ {a b : List UInt8} {p q : Prop} (h1 : ¬ a = b → p) (h2 : a = b → q) : (((bs a).toList == (bs b).toList) = false → p) ∧ (((bs a).toList == (bs b).toList) = true → q) := by
  rw [bsl_, bsl_]
  exact ⟨fun h => h1 (by simpa using h), fun h => h2 (by simpa using h)⟩
theorem br_bool {x : Bool} {p q : Prop} (h1 : x = true → p) (h2 : x = false → q) : (x = true → p) ∧ (x = false → q) := ⟨h1, h2⟩
theorem br_bool_ {x : Bool} {p q : Prop} (h1 : x = false → p) (h2 : x = true → q) : (x = false → p) ∧ (x = true → q) := ⟨h1, h2⟩

theorem br_beqb {x y : Bool} {p q : Prop} (h : x = y) (h1 : p) : ((x == y) = true → p) ∧ ((x == y) = false → q) :=
  ⟨fun _ => h1, fun e => by subst h; simp at e⟩
theorem br_t {X : Bool} {p q : Prop} (h : X = true) (k : p) : (X = true → p) ∧ (X = false → q) := ⟨fun _ => k, fun e => Bool.noConfusion (h.symm.trans e)⟩
theorem br_f {X : Bool} {p q : Prop} (h : X = false) (k : q) : (X = true → p) ∧ (X = false → q) := ⟨fun e => Bool.noConfusion (h.symm.trans e), fun _ => k⟩
theorem br_tr {X : Bool} {p q : Prop} (h : X = true) (k : q) : (X = false → p) ∧ (X = true → q) := ⟨fun e => Bool.noConfusion (h.symm.trans e), fun _ => k⟩
theorem br_fr {X : Bool} {p q : Prop} (h : X = false) (k : p) : (X = false → p) ∧ (X = true → q) := ⟨fun _ => k, fun e => Bool.noConfusion (h.symm.trans e)⟩

theorem wrap_u8 {n : Int} (h0 : 0 ≤ n) (h1 : n < 256) : IntKind.u8.wrap n = n := by
  have : IntKind.u8.wrap n = n % 256 := by simp [IntKind.wrap, IntKind.bits, IntKind.signed]
  rw [this]; omega
theorem wrap_u16 {n : Int} (h0 : 0 ≤ n) (h1 : n < 65536) : IntKind.u16.wrap n = n := by
  have : IntKind.u16.wrap n = n % 65536 := by simp [IntKind.wrap, IntKind.bits, IntKind.signed]
  rw [this]; omega
theorem wrap_u32 {n : Int} (h0 : 0 ≤ n) (h1 : n < 4294967296) : IntKind.u32.wrap n = n := by
  have : IntKind.u32.wrap n = n % 4294967296 := by simp [IntKind.wrap, IntKind.bits, IntKind.signed]
  rw [this]; omega
theorem wrap_u64 {n : Int} (h0 : 0 ≤ n) (h1 : n < 18446744073709551616) : IntKind.u64.wrap n = n := wrap_u n h0 h1
theorem wrap_i64 {n : Int} (h : -9223372036854775808 ≤ n ∧ n ≤ 9223372036854775807) : IntKind.i64.wrap n = n := wrap_in h
/-! the steps of a walk, with short names -/
theorem w1 {p q : Prop} (h : p) : (true = true → p) ∧ (true = false → q) := ⟨fun _ => h, fun e => Bool.noConfusion e⟩
theorem w2 {p q : Prop} (h : q) : (false = true → p) ∧ (false = false → q) := ⟨fun e => Bool.noConfusion e, fun _ => h⟩
theorem w3 {p q : Prop} (h : q) : (true = false → p) ∧ (true = true → q) := ⟨fun e => Bool.noConfusion e, fun _ => h⟩
theorem w4 {p q : Prop} (h : p) : (false = false → p) ∧ (false = true → q) := ⟨fun _ => h, fun e => Bool.noConfusion e⟩
theorem nle {a b : Nat} {p : Prop} (h : Nat.ble a b = true) (k : p) : a ≤ b ∧ p := ⟨Nat.le_of_ble_eq_true h, k⟩
theorem q1 {α : Type} [BEq α] [LawfulBEq α] {a : α} {p q : Prop} (h : p) : ((a == a) = true → p) ∧ ((a == a) = false → q) := ⟨fun _ => h, fun e => Bool.noConfusion ((beq_self_eq_true a).symm.trans e)⟩
theorem q2 {α : Type} [BEq α] [LawfulBEq α] {a : α} {p q : Prop} (h : q) : ((a != a) = true → p) ∧ ((a != a) = false → q) := ⟨fun e => Bool.noConfusion ((bne_self_eq_false a).symm.trans e), fun _ => h⟩
theorem q3 {α : Type} [BEq α] [LawfulBEq α] {a : α} {p q : Prop} (h : q) : ((a == a) = false → p) ∧ ((a == a) = true → q) := ⟨fun e => Bool.noConfusion ((beq_self_eq_true a).symm.trans e), fun _ => h⟩
theorem q4 {α : Type} [BEq α] [LawfulBEq α] {a : α} {p q : Prop} (h : p) : ((a != a) = false → p) ∧ ((a != a) = true → q) := ⟨fun _ => h, fun e => Bool.noConfusion ((bne_self_eq_false a).symm.trans e)⟩
theorem inr_ {n : Int} {p : Prop} (h0 : -9223372036854775808 ≤ n) (h1 : n ≤ 9223372036854775807) (k : p) : inR n ∧ p := ⟨⟨h0, h1⟩, k⟩
theorem eqt_ {P : Program} {t : TypeId} {p : Prop} (h : eqT P t = true) (k : p) : eqT P t = true ∧ p := ⟨h, k⟩
theorem asm_ {a p : Prop} (h : a) (k : p) : a ∧ p := ⟨h, k⟩
theorem hm_ {p : Prop} (h : p) : Hold p := ⟨h⟩
/-- the masks of a region of n operations -/
structure Mk (n : Nat) (l : List Nat) : Prop where
theorem mk_ {ops : Array Oper} {ms : List Nat} (h : Mk ops.size ms) (h2 : drawOk ops ms = true) : drawOk ops ms = true := h2
/-- rows that are built are not frozen at once -/
structure FzF : Prop where
theorem fzf_ {k : Bool → Prop} (h : FzF) (hk : k false) : ∃ b : Bool, k b := ⟨false, hk⟩
/-- a walk to its end, by what is told in the context -/
theorem W {p : Prop} (h : p := by
  repeat' ((try conv => whnf) <;> first
    | refine Av.hm_ ?_ | refine Av.w1 ?_ | refine Av.w2 ?_ | refine Av.w3 ?_ | refine Av.w4 ?_ | refine Av.nle rfl ?_
    | refine Av.q1 ?_ | refine Av.q2 ?_ | refine Av.q3 ?_ | refine Av.q4 ?_ | refine Av.inr_ (by omega) (by omega) ?_
    | refine ⟨_, by assumption, ?_⟩ | refine ⟨_, _, _, by assumption, ?_⟩ | refine ⟨[], _, Av.mk_ (by assumption) (by kernel_rfl), ?_⟩
    | refine Av.fzf_ (by assumption) ?_ | refine ⟨true, ?_⟩ | exact True.intro | refine Av.eqt_ (by kernel_rfl) ?_ | refine ⟨rfl, ?_⟩ | exact Av.asm_ (by assumption) (by assumption) | refine Av.asm_ (by assumption) ?_
    | refine ⟨⟨Nat.le_of_ble_eq_true rfl, rfl⟩, ?_⟩ | refine ⟨⟨rfl, rfl⟩, ?_⟩ | refine ⟨⟨rfl, rfl, rfl⟩, ?_⟩ | exact ⟨rfl, rfl, rfl⟩ | exact ⟨rfl, rfl⟩
    | refine Av.br_t (by assumption) ?_ | refine Av.br_f (by assumption) ?_ | refine Av.br_tr (by assumption) ?_ | refine Av.br_fr (by assumption) ?_
    | ((first | refine Av.br_lt ?_ ?_ | refine Av.br_lt_ ?_ ?_ | refine Av.br_le ?_ ?_ | refine Av.br_le_ ?_ ?_ | refine Av.br_eq ?_ ?_ | refine Av.br_eq_ ?_ ?_ | refine Av.br_seq ?_ ?_ | refine Av.br_seq_ ?_ ?_) <;> intro hBr <;> first | (exfalso; omega) | (exfalso; contradiction) | (exfalso; exact hBr rfl) | skip)
    | refine Av.br_not ?_ | refine Av.br_not_ ?_ | refine Av.br_and ?_ | refine Av.br_and_ ?_ | refine Av.asm_ (by omega) ?_
    | refine ⟨_, Av.wrap_i64 (by omega), ?_⟩ | refine ⟨_, Av.wrap_u64 (by omega) (by omega), ?_⟩ | refine ⟨_, Av.wrap_u8 (by omega) (by omega), ?_⟩ | refine ⟨_, Av.wrap_u32 (by omega) (by omega), ?_⟩ | refine ⟨_, Av.wrap_u16 (by omega) (by omega), ?_⟩
    | refine ⟨_, rfl, ?_⟩ | exact rfl | assumption)) : p := h
/-- a walk as far as it goes: one goal is left -/
theorem Wk {p q : Prop} (k : q) (h : Hold q → p := by
  intro hWk
  repeat' ((try conv => whnf) <;> first
    | refine Av.hm_ ?_ | refine Av.w1 ?_ | refine Av.w2 ?_ | refine Av.w3 ?_ | refine Av.w4 ?_ | refine Av.nle rfl ?_
    | refine Av.q1 ?_ | refine Av.q2 ?_ | refine Av.q3 ?_ | refine Av.q4 ?_ | refine Av.inr_ (by omega) (by omega) ?_
    | refine ⟨_, by assumption, ?_⟩ | refine ⟨_, _, _, by assumption, ?_⟩ | refine ⟨[], _, Av.mk_ (by assumption) (by kernel_rfl), ?_⟩
    | refine Av.fzf_ (by assumption) ?_ | refine ⟨true, ?_⟩ | exact True.intro | refine Av.eqt_ (by kernel_rfl) ?_ | refine ⟨rfl, ?_⟩ | exact Av.asm_ (by assumption) (by assumption) | refine Av.asm_ (by assumption) ?_
    | refine ⟨⟨Nat.le_of_ble_eq_true rfl, rfl⟩, ?_⟩ | refine ⟨⟨rfl, rfl⟩, ?_⟩ | refine ⟨⟨rfl, rfl, rfl⟩, ?_⟩ | exact ⟨rfl, rfl, rfl⟩ | exact ⟨rfl, rfl⟩
    | refine Av.br_t (by assumption) ?_ | refine Av.br_f (by assumption) ?_ | refine Av.br_tr (by assumption) ?_ | refine Av.br_fr (by assumption) ?_
    | ((first | refine Av.br_lt ?_ ?_ | refine Av.br_lt_ ?_ ?_ | refine Av.br_le ?_ ?_ | refine Av.br_le_ ?_ ?_ | refine Av.br_eq ?_ ?_ | refine Av.br_eq_ ?_ ?_ | refine Av.br_seq ?_ ?_ | refine Av.br_seq_ ?_ ?_) <;> intro hBr <;> first | (exfalso; omega) | (exfalso; contradiction) | (exfalso; exact hBr rfl) | skip)
    | refine Av.br_not ?_ | refine Av.br_not_ ?_ | refine Av.br_and ?_ | refine Av.br_and_ ?_ | refine Av.asm_ (by omega) ?_
    | refine ⟨_, Av.wrap_i64 (by omega), ?_⟩ | refine ⟨_, Av.wrap_u64 (by omega) (by omega), ?_⟩ | refine ⟨_, Av.wrap_u8 (by omega) (by omega), ?_⟩ | refine ⟨_, Av.wrap_u32 (by omega) (by omega), ?_⟩ | refine ⟨_, Av.wrap_u16 (by omega) (by omega), ?_⟩
    | refine ⟨_, rfl, ?_⟩ | exact rfl | assumption)
  exact Hold.out hWk) : p := h ⟨k⟩
end Go.Proofs.YtbaedepmogkkeaaGreat.Av
