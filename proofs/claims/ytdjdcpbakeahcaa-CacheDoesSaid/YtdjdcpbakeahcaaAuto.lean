/- Tests that are not decided, brought into plain form: for the walks by the abstract machine. No program's law is stated here. No conditions. -/
import Derived.Test.YtdjdcpbakeahcaaCore
namespace Go.Proofs.Ytdjdcpbakeahcaa.Av
open Go Go.RowKit
set_option linter.unusedVariables false
set_option maxRecDepth 100000
set_option linter.unusedSimpArgs false

theorem len_ok {ops : Array Oper} {ms : List Nat} (h : Nat.beq ops.size ms.length = true) (h2 : drawOk ops ms = true) : drawOk ops ms = true := h2
theorem br_lt {a b : Int} {p q : Prop} (h1 : a < b → p) (h2 : ¬ a < b → q) : (decide (a < b) = true → p) ∧ (decide (a < b) = false → q) :=
  ⟨fun h => h1 (of_decide_eq_true h), fun h => h2 (of_decide_eq_false h)⟩
theorem br_lt_ {a b : Int} {p q : Prop} (h1 : ¬ a < b → p) (h2 : a < b → q) : (decide (a < b) = false → p) ∧ (decide (a < b) = true → q) :=
  ⟨fun h => h1 (of_decide_eq_false h), fun h => h2 (of_decide_eq_true h)⟩
theorem br_le {a b : Int} {p q : Prop} (h1 : a ≤ b → p) (h2 : ¬ a ≤ b → q) : (decide (a ≤ b) = true → p) ∧ (decide (a ≤ b) = false → q) :=
  ⟨fun h => h1 (of_decide_eq_true h), fun h => h2 (of_decide_eq_false h)⟩
theorem br_le_ {a b : Int} {p q : Prop} (h1 : ¬ a ≤ b → p) (h2 : a ≤ b → q) : (decide (a ≤ b) = false → p) ∧ (decide (a ≤ b) = true → q) :=
  ⟨fun h => h1 (of_decide_eq_false h), fun h => h2 (of_decide_eq_true h)⟩
theorem br_eq {a b : Int} {p q : Prop} (h1 : a = b → p) (h2 : ¬ a = b → q) : ((a == b) = true → p) ∧ ((a == b) = false → q) :=
  ⟨fun h => h1 (by simpa using h), fun h => h2 (by simpa using h)⟩
theorem br_eq_ {a b : Int} {p q : Prop} (h1 : ¬ a = b → p) (h2 : a = b → q) : ((a == b) = false → p) ∧ ((a == b) = true → q) :=
  ⟨fun h => h1 (by simpa using h), fun h => h2 (by simpa using h)⟩
theorem br_not {x : Bool} {p q : Prop} (h : (x = false → p) ∧ (x = true → q)) : ((!x) = true → p) ∧ ((!x) = false → q) :=
  ⟨fun e => h.1 (by simpa using e), fun e => h.2 (by simpa using e)⟩
theorem br_not_ {x : Bool} {p q : Prop} (h : (x = true → p) ∧ (x = false → q)) : ((!x) = false → p) ∧ ((!x) = true → q) :=
  ⟨fun e => h.1 (by simpa using e), fun e => h.2 (by simpa using e)⟩
theorem br_and {x y : Bool} {p q : Prop} (h : (x = true → ((y = true → p) ∧ (y = false → q))) ∧ (x = false → q)) : ((x && y) = true → p) ∧ ((x && y) = false → q) := by
  cases x <;> cases y <;> simp_all
theorem br_and_ {x y : Bool} {p q : Prop} (h : (x = true → ((y = false → p) ∧ (y = true → q))) ∧ (x = false → p)) : ((x && y) = false → p) ∧ ((x && y) = true → q) := by
  cases x <;> cases y <;> simp_all
theorem bsl_ (l : List UInt8) : (bs l).toList = l := by simp [bs, ByteArray.toList_eq]
theorem br_seq {a b : List UInt8} {p q : Prop} (h1 : a = b → p) (h2 : ¬ a = b → q) : (((bs a).toList == (bs b).toList) = true → p) ∧ (((bs a).toList == (bs b).toList) = false → q) := by
  rw [bsl_, bsl_]
  exact ⟨fun h => h1 (by simpa using h), fun h => h2 (by simpa using h)⟩
theorem br_seq_ {a b : List UInt8} {p q : Prop} (h1 : ¬ a = b → p) (h2 : a = b → q) : (((bs a).toList == (bs b).toList) = false → p) ∧ (((bs a).toList == (bs b).toList) = true → q) := by
  rw [bsl_, bsl_]
  exact ⟨fun h => h1 (by simpa using h), fun h => h2 (by simpa using h)⟩
theorem br_bool {x : Bool} {p q : Prop} (h1 : x = true → p) (h2 : x = false → q) : (x = true → p) ∧ (x = false → q) := ⟨h1, h2⟩
theorem br_bool_ {x : Bool} {p q : Prop} (h1 : x = false → p) (h2 : x = true → q) : (x = false → p) ∧ (x = true → q) := ⟨h1, h2⟩

theorem br_beqb {x y : Bool} {p q : Prop} (h : x = y) (h1 : p) : ((x == y) = true → p) ∧ ((x == y) = false → q) :=
  ⟨fun _ => h1, fun e => by subst h; simp at e⟩
theorem br_t {X : Bool} {p q : Prop} (h : X = true) (k : p) : (X = true → p) ∧ (X = false → q) := ⟨fun _ => k, fun e => Bool.noConfusion (h.symm.trans e)⟩
theorem br_f {X : Bool} {p q : Prop} (h : X = false) (k : q) : (X = true → p) ∧ (X = false → q) := ⟨fun e => Bool.noConfusion (h.symm.trans e), fun _ => k⟩
theorem br_tr {X : Bool} {p q : Prop} (h : X = true) (k : q) : (X = false → p) ∧ (X = true → q) := ⟨fun e => Bool.noConfusion (h.symm.trans e), fun _ => k⟩
theorem br_fr {X : Bool} {p q : Prop} (h : X = false) (k : p) : (X = false → p) ∧ (X = true → q) := ⟨fun _ => k, fun e => Bool.noConfusion (h.symm.trans e)⟩

theorem wrap_u8 {n : Int} (h0 : 0 ≤ n) (h1 : n < 256) : IntKind.u8.wrap n = n := by
  have : IntKind.u8.wrap n = n % 256 := by simp [IntKind.wrap, IntKind.bits, IntKind.signed]
  rw [this]; omega
theorem wrap_u16 {n : Int} (h0 : 0 ≤ n) (h1 : n < 65536) : IntKind.u16.wrap n = n := by
  have : IntKind.u16.wrap n = n % 65536 := by simp [IntKind.wrap, IntKind.bits, IntKind.signed]
  rw [this]; omega
theorem wrap_u32 {n : Int} (h0 : 0 ≤ n) (h1 : n < 4294967296) : IntKind.u32.wrap n = n := by
  have : IntKind.u32.wrap n = n % 4294967296 := by simp [IntKind.wrap, IntKind.bits, IntKind.signed]
  rw [this]; omega
theorem wrap_u64 {n : Int} (h0 : 0 ≤ n) (h1 : n < 18446744073709551616) : IntKind.u64.wrap n = n := wrap_u n h0 h1
theorem wrap_i64 {n : Int} (h : -9223372036854775808 ≤ n ∧ n ≤ 9223372036854775807) : IntKind.i64.wrap n = n := wrap_in h
end Go.Proofs.Ytdjdcpbakeahcaa.Av
