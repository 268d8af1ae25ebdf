/- The abstract machine at the program: contracts, and how they are proved of a function's body. No program's law is stated here. No conditions. -/
import Derived.Test.YtbaedepmogkkeaaGreatMe
import Derived.Test.YtbaedepmogkkeaaGreatChecked
import Derived.Test.YtbaedepmogkkeaaGreatBase
namespace Go.Proofs.YtbaedepmogkkeaaGreat.Av
open Go Go.RowKit
set_option linter.unusedVariables false
set_option maxRecDepth 100000
set_option linter.unusedSimpArgs false

abbrev Z (n : Int) : AV := .ex (.int .i64 n)
abbrev U (n : Int) : AV := .ex (.int .u64 n)
abbrev B (b : Bool) : AV := .ex (.bool b)
abbrev T (l : List UInt8) : AV := .ex (.string (bs l))
abbrev nilA : AV := .ex (.slice none 0 0)
abbrev SP := Sound Tryz.prog
theorem mixed : Tryz.prog.follows .mixedOrders = true := by kernel_rfl
theorem enters {f : FuncId} {fn : Func} (hf : Tryz.prog.funcs[f]? = some fn) (hn : (fn.name == "runtime.NumGoroutine") = false) (hb : fn.body.isNone = false) (xs : Array Value) (w : World) : (callFunc f xs).run Tryz.prog w = .ok (.enter f xs) w := by
  have h1 : ¬ fn.name = "runtime.NumGoroutine" := by simpa using hn
  have h2 : ¬ fn.body = none := by intro e; rw [e] at hb; cases hb
  simp [callFunc, hf, h1, h2]
theorem S_ {f : FuncId} {fn : Func} {args : List AV} {r : AV} (hf : Tryz.prog.funcs[f]? = some fn) (hn : (fn.name == "runtime.NumGoroutine") = false) (hb : fn.body.isNone = false) (hle : args.length ≤ fn.ntmps) (hk : abody Tryz.prog SP fn args r) : SP f args r :=
  sound_of mixed hf (enters hf hn hb) hle hk
/-- a contract of a function that may write to what its arguments reach; its first n slots are never assigned -/
abbrev SM := SoundM Tryz.prog
theorem SM_ {f : FuncId} {fn : Func} {args : List AV} {bs : List ABlk} {n : Nat} {rargs : List AV} {r : AV} {bs' : List ABlk} (hf : Tryz.prog.funcs[f]? = some fn) (hn : (fn.name == "runtime.NumGoroutine") = false) (hb : fn.body.isNone = false) (hle : args.length ≤ fn.ntmps) (hn2 : n ≤ args.length)
    (hk : abodyM Tryz.prog SP fn args bs n rargs r bs') : SM f args bs rargs r bs' :=
  sound_ofM mixed hf (enters hf hn hb) hle hn2 hk
/-- a contract at values that are known whole -/
theorem sound_ex {f : FuncId} {fn : Func} {vs : List Value} {v : Value} (hf : Tryz.prog.funcs[f]? = some fn) (hn : (fn.name == "runtime.NumGoroutine") = false) (hb : fn.body.isNone = false)
    (h : ∀ w, Calls Tryz.prog f vs.toArray w fun e w' => e = .returned v ∧ Below w.heap.size w w') : SP f (vs.map .ex) (.ex v) := by
  refine ⟨enters hf hn hb, fun w F xs hs hr hF => ?_⟩
  have : xs = vs.toArray := by
    apply Array.ext'
    apply List.ext_getElem?
    intro j
    by_cases hj : j < vs.length
    · have h1 := hr j (by simpa using hj)
      simp only [List.getElem_map] at h1
      have h2 := h1.ex_inv
      have hj2 : j < xs.size := by rw [hs]; simpa using hj
      simp [hj2] at h2
      simp [hj2, hj, h2]
    · rw [List.getElem?_eq_none (by simp [hs]; omega), List.getElem?_eq_none (by simp; omega)]
  rw [this]
  refine (h w).mono ?_
  rintro e w' ⟨rfl, hb⟩
  exact ⟨v, F, rfl, hb, fun _ _ h => h, fun _ _ h => .inl h, .ex _ _⟩
theorem bs_size (l : List UInt8) : (bs l).size = l.length := by simp [bs, ByteArray.size]
theorem bs_cut (t : List UInt8) (a b : Nat) : (bs t).extract a b = bs ((t.drop a).take (b - a)) := by
  apply ByteArray.ext
  apply Array.ext'
  simp [bs, ByteArray.data_extract]
theorem bs_add (a b : List UInt8) : bs a ++ bs b = bs (a ++ b) := by
  apply ByteArray.ext
  simp [bs, ByteArray.data_append]
theorem room_s {k : Nat} (hk : k ≤ 1000000000000) : room k (bytesT Tryz.prog 9) := by
  rw [show bytesT Tryz.prog 9 = 16 by kernel_rfl]; unfold room; omega
theorem one_T (l : List UInt8) : ∀ v ∈ [T l], one1 v = true := by
  intro v hv; rw [List.mem_singleton] at hv; subst hv; rfl
theorem one_S (s : ByteArray) : ∀ v ∈ [AV.ex (.string s)], one1 v = true := by
  intro v hv; rw [List.mem_singleton] at hv; subst hv; rfl
end Go.Proofs.YtbaedepmogkkeaaGreat.Av
