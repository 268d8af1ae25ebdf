/- lru: what the operations on a map from texts come to. No program's law is stated here. No conditions. -/
import Derived.Test.YtdicpbecdhaphaaLru2
import Derived.WideMake
namespace Go.Proofs.Ytdicpbecdhaphaa.Av
open Go Go.RowKit
set_option linter.unusedVariables false
set_option linter.unusedSimpArgs false

/-- the same but for what was drawn -/
def Alike (w w' : World) : Prop := w'.heap = w.heap ∧ w'.os = w.os ∧ w'.tape = w.tape ∧ w'.output = w.output
theorem Alike.refl (w : World) : Alike w w := ⟨rfl, rfl, rfl, rfl⟩
def putMap (w : World) (r : Nat) (es : Array MapEntry) (clock : Nat) : World := { w with heap := w.heap.setIfInBounds r (.map es clock) }
section
variable {P : Program} (w : World) (mty kt et : TypeId) (r clock j : Nat) (s : ByteArray) (v : Value) (es : Array MapEntry)
theorem run_lookup_yes (hm : P.underlying mty = some (.map kt et)) (hk : P.underlying kt = some .string) (hb : w.heap[r]? = some (.map es clock)) (hf : Instr.findNow .string (.string s) es.toList 0 = some (some (j, v))) :
    (Instr.lookup mty (.map (some r)) (.string s) true).run P w = .ok (.tuple #[v, .bool true]) w := by
  have hc := fun e => MapKept.run_checkKey (P := P) (w := w) (k := .string s) hk (by simp [MapKept.IsKey]) e 9999
  simp [Instr.lookup, run_underlying hm, MapKept.run_getObj_map hb, hc, MapKept.run_findKey hk hf, Result.andThen]
theorem run_lookup_one (hm : P.underlying mty = some (.map kt et)) (hk : P.underlying kt = some .string) (hb : w.heap[r]? = some (.map es clock)) (hf : Instr.findNow .string (.string s) es.toList 0 = some (some (j, v))) :
    (Instr.lookup mty (.map (some r)) (.string s) false).run P w = .ok v w := by
  have hc := fun e => MapKept.run_checkKey (P := P) (w := w) (k := .string s) hk (by simp [MapKept.IsKey]) e 9999
  simp [Instr.lookup, run_underlying hm, MapKept.run_getObj_map hb, hc, MapKept.run_findKey hk hf, Result.andThen]
theorem run_lookup_no {z : Value} (hm : P.underlying mty = some (.map kt et)) (hk : P.underlying kt = some .string) (hz : (zeroValue et).run P w = .ok z w) (hb : w.heap[r]? = some (.map es clock)) (hf : Instr.findNow .string (.string s) es.toList 0 = some none) :
    (Instr.lookup mty (.map (some r)) (.string s) true).run P w = .ok (.tuple #[z, .bool false]) w := by
  have hc := fun e => MapKept.run_checkKey (P := P) (w := w) (k := .string s) hk (by simp [MapKept.IsKey]) e 9999
  simp [Instr.lookup, run_underlying hm, MapKept.run_getObj_map hb, hc, MapKept.run_findKey hk hf, Result.andThen, hz]
theorem run_mapUpdate_new (hm : P.underlying mty = some (.map kt et)) (hk : P.underlying kt = some .string) (hb : w.heap[r]? = some (.map es clock)) (hf : Instr.findNow .string (.string s) es.toList 0 = some none) :
    (Instr.mapUpdate mty (.map (some r)) (.string s) v).run P w = .ok () (putMap w r (es.push { key := .string s, val := v, born := clock }) (clock + 1)) := by
  have hc := fun e => MapKept.run_checkKey (P := P) (w := w) (k := .string s) hk (by simp [MapKept.IsKey]) e 9999
  simp [Instr.mapUpdate, run_underlying hm, MapKept.run_getObj_map hb, hc, MapKept.run_findKey hk hf, MapKept.run_setObj_map _ hb, Result.andThen, putMap]
theorem run_delete_yes (ty : TypeId) (hm : P.underlying mty = some (.map kt et)) (hk : P.underlying kt = some .string) (hb : w.heap[r]? = some (.map es clock)) (hf : Instr.findNow .string (.string s) es.toList 0 = some (some (j, v))) :
    (Builtin.delete_ #[mty, kt] ty #[.map (some r), .string s]).run P w = .ok (.tuple #[]) (putMap w r (es.eraseIdxIfInBounds j) clock) := by
  have hc := fun e => MapKept.run_checkKey (P := P) (w := w) (k := .string s) hk (by simp [MapKept.IsKey]) e 9999
  simp [Builtin.delete_, run_underlying hm, MapKept.run_getObj_map hb, hc, MapKept.run_findKey hk hf, MapKept.run_setObj_map _ hb, Result.andThen, putMap]
theorem run_len_map (mt ty : TypeId) (hm : P.underlying mt = some (.map kt et)) (hb : w.heap[r]? = some (.map es clock)) : (Builtin.len_ #[mt] ty #[.map (some r)]).run P w = .ok (.int .i64 es.size) w := by
  simp [Builtin.len_, run_underlying hm, MapKept.run_getObj_map hb, Result.andThen]; rfl
end
end Go.Proofs.Ytdicpbecdhaphaa.Av
