/- The abstract machine in the rounds of a range over a function: what is told of operations by the wide walk is true within a round; how a state is taken into a round and out of it. No program's law is stated here. No conditions. -/
import Derived.Test.YtdjdcpbakeahcaaMd
import Derived.RangeFuncNested
import Derived.RangeFuncLeaves
import Derived.RangeFuncCalls
import Derived.OrdersIn
import Derived.Sort.LoopGhostIn
import Derived.Deep.LoopGhost
import Derived.Scope
namespace Go.Proofs.Ytdjdcpbakeahcaa.Av
open Go Go.RowKit
set_option linter.unusedVariables false
set_option linter.unusedSimpArgs false

section

/-- the wide fence, in a round or in none -/
def wideR (r : Option Nat) : Fence := { Fence.wide with round := r }
def noDef (o : Oper) : Bool := match o.op with
  | .defer _ => false
  | _ => true
theorem noDef_spec {o : Oper} (h : noDef o = true) : ∀ c, o.op ≠ .defer c := by
  intro c e; unfold noDef at h; rw [e] at h; cases h
section
variable {P : Program} {a : Act} {w : World} {Q : Exit → Act → World → Prop} {r : Option Nat} {n : Nat} {ops : Array Oper}
theorem sem_in {o : Oper} (hd : r = none ∨ noDef o = true) : o.semAt (wideR r).round a.eval = execOp a.eval o := by
  rcases hd with rfl | hd
  · rfl
  · exact Oper.semAt_eq _ _ _ (noDef_spec hd)
theorem rows_in {F : Fence} (hF : F = wideR r) {row : String} {args : Array Value} {R : Value → World → Prop} (h : Rows P row args w R) : RowsIn F n P row args w R := by
  subst hF
  intro c cs _
  obtain ⟨v, w', h1, h2⟩ := h c cs
  exact ⟨v, w', h1, stepsIn_wide.2 h2⟩
theorem calls_in {f : FuncId} {args : Array Value} {R : Ending → World → Prop} (h : Calls P f args w R) : CallsIn (wideR r) n P f args w R :=
  (callsIn_wide.2 h : CallsIn Fence.wide n P f args w R)
theorem wp_in {o : Oper} {next : Act → World → Prop} (hd : r = none ∨ noDef o = true) (h : o.wp P a w next Q) : o.wpIn (wideR r) n P a w next Q := by
  refine ⟨fun _ _ => trivial, ?_⟩
  rw [sem_in hd]
  unfold Oper.wp at h
  generalize (execOp a.eval o).run P w = res at h
  have hdp : (wideR r).depth.isSome = true → 1 ≤ n := fun e => by cases e
  cases res with
  | ok x w' =>
    cases x <;> simp only [Oper.upon, Oper.uponIn] at h ⊢ <;>
      first
        | exact h
        | exact ⟨hdp, calls_in h⟩
        | exact ⟨hdp, rows_in rfl h⟩
  | halt x w' => cases x <;> simp only [Oper.upon, Oper.uponIn] at h ⊢ <;> exact h
theorem wpOps_in (hd : r = none ∨ ∀ (i : Nat) (o : Oper), ops[i]? = some o → noDef o = true) (hq : ¬ LetsOut Q) : ∀ (l : List Nat) {a : Act} {w : World}, wpOps P ops Q l a w → wpOpsIn (wideR r) n P ops Q l a w
  | [], a, w, h => h
  | i :: l, a, w, h => by
    simp only [wpOps] at h
    simp only [wpOpsIn]
    cases ho : ops[i]? with
    | none => simp only [ho] at h ⊢; exact wpOps_in hd hq l h
    | some o =>
      simp only [ho] at h ⊢
      by_cases hw : Region.wanted o (yielded ops a.tmps) = true
      · rw [if_pos hw] at h ⊢
        rcases h with h | h
        · exact Oper.wpIn_mono (fun a w => wpOps_in hd hq l) (wp_in (hd.imp id fun hd => hd i o ho) h)
        · exact absurd h.2 hq
      · rw [if_neg hw] at h ⊢
        exact ⟨fun _ _ => trivial, wpOps_in hd hq l h⟩
theorem wpAny_in (hd : r = none ∨ ∀ (i : Nat) (o : Oper), ops[i]? = some o → noDef o = true) (hq : ¬ LetsOut Q) {md : Region.Mode} : ∀ (fuel : Nat) (listed : Array Bool) {a : Act} {w : World}, wpAny P md ops Q fuel listed a w → wpAnyIn (wideR r) n P md ops Q fuel listed a w
  | 0, listed, a, w, h => h
  | fuel + 1, listed, a, w, h => by
    refine ⟨h.1, fun i hi => ?_⟩
    have h := h.2 i hi
    unfold wpOp at h
    unfold wpOpIn
    cases ho : ops[i]? with
    | none => simp only [ho] at h ⊢; exact wpAny_in hd hq fuel _ h
    | some o =>
      simp only [ho] at h ⊢
      by_cases hw : Region.wanted o (yielded ops a.tmps) = true
      · rw [if_pos hw] at h ⊢
        rcases h with h | h
        · exact Oper.wpIn_mono (fun a w => wpAny_in hd hq fuel _) (wp_in (hd.imp id fun hd => hd i o ho) h)
        · exact absurd h.2 hq
      · rw [if_neg hw] at h ⊢
        exact ⟨fun _ _ => trivial, wpAny_in hd hq fuel _ h⟩
/-- only the normal way out -/
def onlyN (Q : Exit → Act → World → Prop) : Exit → Act → World → Prop
  | .normal, a, w => Q .normal a w
  | _, _, _ => False
theorem onlyN_out : ¬ LetsOut (onlyN Q) := fun ⟨_, _, h⟩ => h
theorem onlyN_imp : ∀ (e : Exit) (a : Act) (w : World), onlyN Q e a w → Q e a w
  | .normal, _, _, h => h
end

/-! ### ranges over a function -/
/-- what the rounds keep: the cells that nobody writes -/
def KpF (F : Nat → Nat → Prop) (A B : World) : Prop := ∀ g j, F g j → B.cell? ⟨g, j, none⟩ = A.cell? ⟨g, j, none⟩
/-- Function f, with cs captured, ranged over, hands the items xs to the rounds, in this order, as far as they go on. -/
def SeqSound (P : Program) (f : FuncId) (cs : List AV) {ι : Type} (enc : ι → List Value) (xs : List ι) : Prop :=
  (∀ (ys : Array Value) (w : World), (callFunc f ys).run P w = .ok (.enter f ys) w) ∧
  ∀ (w : World) (F : Nat → Nat → Prop) (lb : Array Value) (n : Nat), lb.size = cs.length → (∀ j (h : j < cs.length), Rep w p0 c0 F noD cs[j] (lb.getD j undef)) → (∀ g j, F g j → g < w.heap.size) →
    SeqStopsK Fence.wide n P f lb (fun x : {x // x ∈ xs} => (enc x.1).toArray) (KpF F) (fun ys => ys.map (·.1) = xs) (fun pre => pre.map (·.1) <+: xs) xs.length w
/-- no defer, no range over a function, no jump but out of blocks -/
def plainC : Code → Bool
  | .skip => true
  | .label _ => true
  | .region _ ops _ => ops.toList.all noDef
  | .seq a b => plainC a && plainC b
  | .cond _ a b => plainC a && plainC b
  | .block _ c => plainC c
  | .loop c => plainC c
  | .exit _ => true
  | .ret => true
  | _ => false
theorem plain_region {id : Nat} {ops : Array Oper} {d : Bool} (h : plainC (.region id ops d) = true) : ∀ (i : Nat) (o : Oper), ops[i]? = some o → noDef o = true := by
  intro i o ho
  unfold plainC at h
  exact List.all_eq_true.1 h o (Array.mem_toList_iff.2 (Array.mem_of_getElem? ho))

/-- the mark of a range over a function that is over -/
def markD (D : Nat) : Deferred := { target := .collected D, args := #[] }
/-- A later beginning: nothing that may be written now might not be written ahead. -/
structure After (o : Ori) (F0 : Nat → Nat → Prop) (o' : Ori) (F0' : Nat → Nat → Prop) : Prop where
  mine : ∀ g, o'.mine g → o.mine g
  gh : o'.gh = o.gh
  held : ∀ w, Held o' w → Held o w
  sub : ∀ g j, F0 g j → F0' g j
  fr : ∀ g j, F0' g j → F0 g j ∨ o.mine g
  cell : ∀ g j, F0 g j → o'.w.cell? ⟨g, j, none⟩ = o.w.cell? ⟨g, j, none⟩
  ds : ∃ new : List Nat, o'.ds = new.map markD ++ o.ds ∧ new.Pairwise (· ≠ ·) ∧ ∀ D ∈ new, o.w.heap.size ≤ D ∧ o'.w.heap[D]? = some (.deferred (some [])) ∧ ¬ o'.mine D
theorem After.refl (o : Ori) (F0 : Nat → Nat → Prop) : After o F0 o F0 := ⟨fun _ h => h, rfl, fun _ h => h, fun _ _ h => h, fun _ _ h => .inl h, fun _ _ _ => rfl, [], rfl, .nil, fun _ h => by cases h⟩
theorem After.trans {o o1 o2 : Ori} {F0 F1 F2 : Nat → Nat → Prop} (h : After o F0 o1 F1) (k : After o1 F1 o2 F2) : After o F0 o2 F2 := by
  refine ⟨fun g hg => h.mine g (k.mine g hg), k.gh.trans h.gh, fun w hw => h.held w (k.held w hw), fun g j hj => k.sub g j (h.sub g j hj), fun g j hj => ?_, fun g j hj => (k.cell g j (h.sub g j hj)).trans (h.cell g j hj), ?_⟩
  · rcases k.fr g j hj with h1 | h1
    · exact h.fr g j h1
    · exact .inr (h.mine g h1)
  · obtain ⟨n1, e1, p1, d1⟩ := h.ds
    obtain ⟨n2, e2, p2, d2⟩ := k.ds
    refine ⟨n2 ++ n1, by rw [e2, e1, List.map_append, List.append_assoc], List.pairwise_append.2 ⟨p2, p1, fun x hx y hy e => ?_⟩, fun D hD => ?_⟩
    · subst e; exact (d1 x hy).2.2 (.inl (d2 x hx).1)
    · rcases List.mem_append.1 hD with hD | hD
      · exact ⟨Nat.le_trans (h.held _ (Held.refl o1)).size (d2 D hD).1, (d2 D hD).2⟩
      · obtain ⟨q1, q2, q3⟩ := d1 D hD
        exact ⟨q1, ((k.held _ (Held.refl o2)).block D q3).trans q2, fun hm => q3 (k.mine D hm)⟩
section
variable {P : Program} {w w' : World} {o o' : Ori} {D D' : Nat → Prop} {p p' : Nat → Option Nat} {c c' : Nat → Nat} {F F' F0 F0' : Nat → Nat → Prop} {m m' : Fr}
  {sl sl' : Sl} {heap : Hp} {a a' : Act}
/-- as seen from the first beginning -/
theorem After.rel (h : After o F0 o' F0') (hf : ∀ g j, F0 g j → g < o.w.heap.size) (hr : Rel P o' F0' m D p c F sl heap a w) : Rel P ⟨o.w, o.M, o.gh, o'.ds⟩ F0 m D p c F sl heap a w := by
  have hm : ∀ g, o'.mine g → (Ori.mk o.w o.M o.gh o'.ds).mine g := fun g hg => h.mine g hg
  have hh := h.held w hr.below
  refine ⟨hr.slots, hr.size, fun t ht => (hr.keep t ht).trans (by rw [h.gh]), hr.defers, hr.live, hr.inj, fun r b g h1 h2 => hm g (hr.own r b g h1 h2), fun g j hj => ⟨(hr.fr g j hj).1, ?_⟩, hr.fz, fun g j hj => hr.sub g j (h.sub g j hj), hf, ⟨hh.os, hh.tape, hh.output, hh.size, hh.block⟩, fun g j hj => (hr.cell g j (h.sub g j hj)).trans (h.cell g j hj),
    hr.ob.step (fun r b K h1 _ => ⟨h1, rfl⟩) (fun r b g h1 hp _ => .inr ⟨r, b, h1, hp⟩) (fun r b K g _ _ _ => ⟨rfl, fun _ _ => rfl⟩) (fun _ _ hj => .inl hj) (fun x hx => hm x hx) (Nat.le_refl _) hr.inj⟩
  rcases (hr.fr g j hj).2 with h1 | h1
  · exact h.fr g j h1
  · exact .inr (hm g h1)
def cellsAt (w : World) (g : Nat) : Prop := ∃ cs t fr, w.heap[g]? = some (.cells cs t fr)
theorem cells_of_some {g j : Nat} (h : (w.cell? ⟨g, j, none⟩).isSome = true) : cellsAt w g := by
  unfold World.cell? at h
  simp only at h
  split at h
  · rename_i cs t fr hh; exact ⟨cs, t, fr, hh⟩
  · cases h
/-- another beginning, here -/
def hereO (o : Ori) (w : World) (gh : Array Value) (ds : List Deferred) : Ori := ⟨w, fun g => o.mine g ∧ cellsAt w g, gh, ds⟩
theorem hereO_mine {gh : Array Value} {ds : List Deferred} (hs : o.w.heap.size ≤ w.heap.size) : ∀ g, (hereO o w gh ds).mine g → o.mine g := by
  rintro g (h | h)
  · exact .inl (Nat.le_trans hs h)
  · exact h.1
theorem hereO_not {gh : Array Value} {ds : List Deferred} {g : Nat} (hg : g < w.heap.size) (hc : ¬ cellsAt w g) : ¬ (hereO o w gh ds).mine g := by
  rintro (h | h)
  · exact Nat.not_le.2 hg h
  · exact hc h.2
theorem hereO_held {gh : Array Value} {ds : List Deferred} (hw : Held o w) (h : Held (hereO o w gh ds) w') : Held o w' :=
  ⟨h.os.trans hw.os, h.tape.trans hw.tape, h.output.trans hw.output, Nat.le_trans hw.size h.size, fun k hk => (h.block k (fun e => hk (hereO_mine hw.size k e))).trans (hw.block k hk)⟩
theorem ObOk.none {mine : Nat → Prop} {heap : Hp} (hno : ∀ r b, look heap r = some (some b) → isOb b = none) : ObOk mine w p F heap := fun r b K g h1 h2 => by rw [hno r b h1] at h2; cases h2
theorem Rel.here (hr : Rel P o F0 m D p c F sl heap a w) (hno : ∀ r b, look heap r = some (some b) → isOb b = none) (hs : ∀ t v, look sl' t = some v → Rep w p c F D v (a'.tmps.getD t undef)) (hn : a'.tmps.size = m'.n) {gh : Array Value} (hg : ∀ t, t < m'.keep → a'.tmps.getD t undef = gh.getD t undef) :
    Rel P (hereO o w gh a'.defers) F m' D p c F sl' heap a' w := by
  refine ⟨hs, hn, hg, rfl, hr.live, hr.inj, fun r b g h1 h2 => .inr ⟨hr.own r b g h1 h2, ?_⟩, fun g j hj => ⟨(hr.fr g j hj).1, .inl hj⟩, hr.fz, fun _ _ h => h, fun g j hj => (hr.fr g j hj).1, Held.refl _, fun _ _ _ => rfl, ObOk.none hno⟩
  have hB := (hr.live r b h1).2
  unfold BlkOk at hB
  rw [h2] at hB
  obtain ⟨us, t, fr, k1, _⟩ := hB
  exact ⟨us, t, fr, k1⟩
/-- back out of a round -/
theorem Rel.back {gh : Array Value} {ds : List Deferred} (hr : Rel P o F0 m D p c F sl heap a w) {h' : Hp} {sl2 : Sl} (h2 : Rel P (hereO o w gh ds) F m' D' p' c' F' sl2 h' a' w') (hs : ∀ t v, look sl' t = some v → Rep w' p' c' F' D' v (a.tmps.getD t undef)) :
    Rel P o F0 m D' p' c' F' sl' h' a w' := by
  have hm := hereO_mine (o := o) (w := w) (gh := gh) (ds := ds) hr.below.size
  refine ⟨hs, hr.size, hr.keep, hr.defers, h2.live, h2.inj, fun r b g k1 k2 => hm g (h2.own r b g k1 k2), fun g j hj => ⟨(h2.fr g j hj).1, ?_⟩, h2.fz, fun g j hj => h2.sub g j (hr.sub g j hj), hr.f0, hereO_held hr.below h2.below, fun g j hj => (h2.cell g j (hr.sub g j hj)).trans (hr.cell g j hj),
    h2.ob.step (fun r b K h1 _ => ⟨h1, rfl⟩) (fun r b g h1 hp _ => .inr ⟨r, b, h1, hp⟩) (fun r b K g _ _ _ => ⟨rfl, fun _ _ => rfl⟩) (fun _ _ hj => .inl hj) (fun x hx => hm x hx) (Nat.le_refl _) h2.inj⟩
  rcases (h2.fr g j hj).2 with k | k
  · exact (hr.fr g j k).2
  · exact .inr (hm g k)
/-- cells that are known are there -/
theorem Rep.shrink {v : AV} {x : Value} {G : Nat → Nat → Prop} (h : Rep w p c F D v x) : Rep w p c (fun g j => F g j ∧ (G g j ∨ (w.cell? ⟨g, j, none⟩).isSome = true)) D v x := by
  induction h with
  | ex D v => exact .ex _ v
  | unk D v => exact .unk _ v
  | ob D K v => exact .ob _ K v
  | ptr D r off g hd hp => exact .ptr _ r off g hd hp
  | sl D r n hd hn => exact .sl _ r n hd hn
  | vnil D => exact .vnil _
  | vs D n cs g o k u hk hc _ ih => exact .vs _ n cs g o k u hk (fun j hj => ⟨⟨(hc j hj).1, .inr (by rw [(hc j hj).2]; rfl)⟩, (hc j hj).2⟩) fun j h => ih j h
  | fnil D => exact .fnil _
  | vf D n cs g o u hc _ ih => exact .vf _ n cs g o u (fun j hj => ⟨⟨(hc j hj).1, .inr (by rw [(hc j hj).2]; rfl)⟩, (hc j hj).2⟩) fun j h => ih j h
  | clo D f cs us hs _ ih => exact .clo _ f cs us hs fun j h => ih j h
  | pt0 D cs => exact .pt0 _ cs
  | pt1 D cs g o u hc _ ih => exact .pt1 _ cs g o u (fun j hj => ⟨⟨(hc j hj).1, .inr (by rw [(hc j hj).2]; rfl)⟩, (hc j hj).2⟩) fun j h => ih j h
  | vp D cs off g o u hc _ ih => exact .vp _ cs off g o u (fun j hj => ⟨⟨(hc j hj).1, .inr (by rw [(hc j hj).2]; rfl)⟩, (hc j hj).2⟩) fun j h => ih j h
  | vq D cs off g o u hc _ ih => exact .vq _ cs off g o u (fun j hj => ⟨⟨(hc j hj).1, .inr (by rw [(hc j hj).2]; rfl)⟩, (hc j hj).2⟩) fun j h => ih j h
  | agg D cs us hs _ ih => exact .agg _ cs us hs fun j h => ih j h
  | tup D cs us hs _ ih => exact .tup _ cs us hs fun j h => ih j h
theorem BlkOk.shrink {r : Nat} {b : ABlk} {G : Nat → Nat → Prop} (h : BlkOk P w D p c F r b) : BlkOk P w D p c (fun g j => F g j ∧ (G g j ∨ (w.cell? ⟨g, j, none⟩).isSome = true)) r b := by
  unfold BlkOk at *
  split at h
  · exact h
  · obtain ⟨us, t, fr, k1, k2, k3, k4, k5⟩ := h
    exact ⟨us, t, fr, k1, k2, k3, fun j hj => (k4 j hj).shrink, k5⟩
theorem Rel.shrink {G : Nat → Nat → Prop} (hr : Rel P o F0 m D p c F sl heap a w) (hG : ∀ g j, F0 g j → G g j) : Rel P o F0 m D p c (fun g j => F g j ∧ (G g j ∨ (w.cell? ⟨g, j, none⟩).isSome = true)) sl heap a w :=
  ⟨fun t v ht => (hr.slots t v ht).shrink, hr.size, hr.keep, hr.defers, fun r b hb => ⟨(hr.live r b hb).1, (hr.live r b hb).2.shrink⟩, hr.inj, hr.own, fun g j hj => hr.fr g j hj.1, fun r b g j h1 h2 h3 => hr.fz r b g j h1 h2 h3.1,
    fun g j hj => ⟨hr.sub g j hj, .inl (hG g j hj)⟩, hr.f0, hr.below, hr.cell,
    hr.ob.step (fun r b K h1 _ => ⟨h1, rfl⟩) (fun r b g h1 hp _ => .inr ⟨r, b, h1, hp⟩) (fun r b K g _ _ _ => ⟨rfl, fun _ _ => rfl⟩) (fun _ _ hj => .inl hj.1) (fun _ hx => hx) (Nat.le_refl _) hr.inj⟩
/-- a block that is no cells turns -/
theorem Rel.rowTurn {row : Option Nat} {L : Nat} (hr : Rel P o F0 m D p c F sl heap a w) (hnf : ∀ r b K g, look heap r = some (some b) → isOb b = some K → p r = some g → ∀ x, K.fp w g x → some x ≠ row) (hg : w.grownBy w' row) (hrow : ∀ r, row = some r → L ≤ r ∧ ∃ ob : Obj, w.heap[r]? = some ob ∧ ob.isCells = false) (hL : o.w.heap.size ≤ L)
    (hF : ∀ g j, F g j → g < L ∨ (w.cell? ⟨g, j, none⟩).isSome = true) : Rel P o F0 m D p c F sl heap a w' ∧ (∀ g j, F g j → w'.cell? ⟨g, j, none⟩ = w.cell? ⟨g, j, none⟩) := by
  have hnc : ∀ g, cellsAt w g → some g ≠ row := by
    rintro g ⟨cs, t, fr, hc⟩ e
    obtain ⟨_, ob, ho, hn⟩ := hrow g e.symm
    rw [hc] at ho; cases ho; cases hn
  have hne : ∀ g j, F g j → some g ≠ row := fun g j hj => by
    rcases hF g j hj with h | h
    · intro e; have := (hrow g e.symm).1; omega
    · exact hnc g (cells_of_some h)
  have hcell : ∀ g j, F g j → w'.cell? ⟨g, j, none⟩ = w.cell? ⟨g, j, none⟩ := fun g j hj => World.cell?_of_block (w := w) (a := ⟨g, j, none⟩) (hg.block g (hr.fr g j hj).1 (hne g j hj))
  have e : Ext w D p c F w' D p c F := ⟨fun r h => ⟨h, rfl, rfl⟩, fun _ _ h => h, hcell⟩
  refine ⟨hr.upd e (fun r b hb => ⟨(hr.live r b hb).1, (hr.live r b hb).2.mono (hr.live r b hb).1 e fun g hgp => ?_⟩) hr.inj hr.own (fun g j hj => ⟨Nat.lt_of_lt_of_le (hr.fr g j hj).1 hg.size, (hr.fr g j hj).2⟩) hr.fz
    ⟨hg.os.trans hr.below.os, hg.tape.trans hr.below.tape, hg.output.trans hr.below.output, Nat.le_trans hr.below.size hg.size, fun k hk => ?_⟩ ?_, hcell⟩
  · have hB := (hr.live r b hb).2
    have hlt := hB.lt hgp
    unfold BlkOk at hB
    rw [hgp] at hB
    obtain ⟨us, t, fr, k1, _⟩ := hB
    exact hg.block g hlt (hnc g ⟨us, t, fr, k1⟩)
  · have hk1 : k < o.w.heap.size := Nat.lt_of_not_le fun e => hk (.inl e)
    exact (hg.block k (Nat.lt_of_lt_of_le hk1 hr.below.size) (fun e => by have := (hrow k e.symm).1; omega)).trans (hr.below.block k hk)
  · refine hr.ob.step (fun r b K h1 _ => ⟨h1, rfl⟩) (fun r b g h1 hp _ => .inr ⟨r, b, h1, hp⟩) (fun r b K g h1 hK hp => ⟨?_, fun x hx => hg.block x ((hr.ob r b K g h1 hK hp).2 x hx).2.1 (hnf r b K g h1 hK hp x hx)⟩) (fun _ _ hj => .inl hj) (fun _ hx => hx) hg.size hr.inj
    have hB := (hr.live r b h1).2
    have hlt := hB.lt hp
    unfold BlkOk at hB
    rw [hp] at hB
    obtain ⟨us, t, fr, k1, _⟩ := hB
    exact hg.block g hlt (hnc g ⟨us, t, fr, k1⟩)
/-- the marks are taken, one behind the other -/
def shut : List Nat → World → World
  | [], w => w
  | D :: l, w => shut l (w.putObj D (.deferred none))
theorem Rel.shut : ∀ (new : List Nat) {w : World} {F : Nat → Nat → Prop}, Rel P o F0 m D p c F sl heap a w → new.Pairwise (· ≠ ·) → (∀ d ∈ new, o.w.heap.size ≤ d ∧ w.heap[d]? = some (.deferred (some []))) → ∃ F', Rel P o F0 m D p c F' sl heap a (shut new w)
  | [], w, F, hr, _, _ => ⟨F, hr⟩
  | d :: new, w, F, hr, hp, hd => by
    obtain ⟨h1, h2⟩ := hd d (List.mem_cons_self ..)
    have hp' := List.pairwise_cons.1 hp
    obtain ⟨k1, _⟩ := (hr.shrink (G := F0) fun _ _ h => h).rowTurn (fun r b K g k1 k2 k3 x k4 e => by injection e with e; subst e; exact K.nd w g x _ (hr.ob r b K g k1 k2 k3).1 k4 h2) (grownBy_putObj' w d (.deferred none)) (L := o.w.heap.size) (fun r e => by cases e; exact ⟨h1, _, h2, rfl⟩) (Nat.le_refl _) (fun g j hj => hj.2.imp (hr.f0 g j) id)
    exact Rel.shut new k1 hp'.2 fun d' hd' => ⟨(hd d' (List.mem_cons_of_mem _ hd')).1, (World.putObj_heap_other (by exact fun e => hp'.1 d' hd' e.symm)).trans (hd d' (List.mem_cons_of_mem _ hd')).2⟩
theorem leaves_marks {fn : Func} {tmps : Array Value} {R : Ending → World → Prop} : ∀ (new : List Nat) {w : World}, new.Pairwise (· ≠ ·) → (∀ d ∈ new, w.heap[d]? = some (.deferred (some []))) →
    (∃ v, (results fn tmps).run P (shut new w) = .ok v (shut new w) ∧ R (.returned v) (shut new w)) → LeavesInM Fence.wide 9 P fn tmps R (new.map markD) .returning w
  | [], w, _, _, h => h
  | d :: new, w, hp, hd, h => by
    have hp' := List.pairwise_cons.1 hp
    refine ⟨by simp, .inl ⟨d, _, rfl, run_takeDeferred (hd d (List.mem_cons_self ..)), leaves_marks new hp'.2 (fun d' hd' => ?_) h⟩⟩
    exact (World.putObj_heap_other (by exact fun e => hp'.1 d' hd' e.symm)).trans (hd d' (List.mem_cons_of_mem _ hd'))
end
end
section

inductive AX where
  | norm
  | exit (id : Nat)
  | ret

/-! ### the state at a loop's head, brought into one form -/
def liveV (acc : List Nat) (sl : Sl) : List Nat → List AV
  | [] => []
  | t :: l => renV acc (slotOf sl t) :: liveV acc sl l
/-- a struct's cell: nil slices are slices that are read, nil pointers are such as may be nil -/
def thawC : Value → AV
  | .slice none 0 0 => .vs 0 []
  | .pointer none => .pt false []
  | v => .ex v
/-- nil slices become rows of the call's own (some e), or slices that are read (none) -/
def thaw : List (Nat × Option TypeId) → Sl → Hp → Nat → (Sl → Hp → Nat → Prop) → Prop
  | [], sl, h, nx, k => k sl h nx
  | (t, e) :: l, sl, h, nx, k => match slotOf sl t with
    | .ex (.slice none 0 0) => match e with
      | some e => thaw l ((t, .sl nx 0) :: sl) ((nx, some ⟨[], some e, false, true⟩) :: h) (nx + 1) k
      | none => thaw l ((t, .vs 0 []) :: sl) h nx k
    | .ex (.pointer none) => thaw l ((t, .pt false []) :: sl) h nx k
    | .ex (.agg us) => forceCs (us.toList.map thawC) fun cs => thaw l ((t, .agg cs) :: sl) h nx k
    | _ => thaw l sl h nx k
def canonK (live : List Nat) (th : List (Nat × Option TypeId)) (sl : Sl) (h : Hp) (nx : Nat) (k : List AV → List ABlk → Prop) : Prop :=
  thaw th sl h nx fun sl h nx => forceL (collect h 40 (idsLive sl live) []) fun acc => match nodupN acc, Nat.beq (liveB acc h acc).length acc.length with
    | true, true => forceCs (liveV acc sl live) fun vs => forceBs (liveB acc h acc) fun bs => k vs bs
    | _, _ => False
/-- nothing is hidden -/
def anyOb : List ABlk → Bool
  | [] => false
  | ⟨_, some _, _, _⟩ :: l => anyOb l
  | ⟨[.ob _], none, _, _⟩ :: _ => true
  | ⟨_, none, _, _⟩ :: l => anyOb l
def noOb (bs : List ABlk) (k : Prop) : Prop := match anyOb bs with
  | true => False
  | false => k
theorem anyOb_no : ∀ {bs : List ABlk}, anyOb bs = false → ∀ b ∈ bs, isOb b = none
  | [], _, b, hb => by cases hb
  | ⟨cs, some e, fz, pu⟩ :: l, h, b, hb => by
    rcases List.mem_cons.1 hb with rfl | hb
    · exact isOb_el (by simp)
    · exact anyOb_no (by simpa [anyOb] using h) b hb
  | ⟨cs, none, fz, pu⟩ :: l, h, b, hb => by
    by_cases hK : ∃ K, cs = [.ob K]
    · obtain ⟨K, rfl⟩ := hK
      cases h
    · have e : anyOb (⟨cs, none, fz, pu⟩ :: l) = anyOb l := by
        cases cs with
        | nil => rfl
        | cons v cs => cases cs with
          | cons u cs => cases v <;> rfl
          | nil => cases v with
            | ob K => exact absurd ⟨K, rfl⟩ hK
            | _ => rfl
      rw [e] at h
      rcases List.mem_cons.1 hb with rfl | hb
      · exact isOb_no fun K hc => hK ⟨K, hc⟩
      · exact anyOb_no h b hb
theorem noOb_spec {bs : List ABlk} {k : Prop} (h : noOb bs k) : (∀ b ∈ bs, isOb b = none) ∧ k := by
  unfold noOb at h
  cases e : anyOb bs with
  | true => rw [e] at h; exact h.elim
  | false => rw [e] at h; exact ⟨anyOb_no e, h⟩
def zipS : List Nat → List AV → Sl
  | t :: l, v :: vs => (t, v) :: zipS l vs
  | _, _ => []
/-- the slots of a round that are known at its beginning -/
def exS : List Nat → List Value → Sl
  | t :: l, v :: vs => (t, .ex v) :: exS l vs
  | _, _ => []
def zipEx (sl : Sl) : List Nat → Sl → Sl
  | [], k => k
  | t :: l, k => match slotOf sl t with
    | .ex v => (t, .ex v) :: zipEx sl l k
    | _ => zipEx sl l k
def allLt (k : Nat) : List Nat → Bool
  | [] => true
  | t :: l => Nat.blt t k && allLt k l
def allGe (k n : Nat) : List Nat → Bool
  | [] => true
  | t :: l => Nat.ble k t && Nat.blt t n && allGe k n l
section
variable (P : Program) (Snd : FuncId → List AV → AV → Prop)
abbrev QA := AX → Sl → Hp → Nat → Prop
def avc : Fr → Code → Sl → Hp → Nat → QA → Prop
  | m, .skip, sl, h, nx, Q => Q .norm sl h nx
  | m, .region _ ops draw, sl, h, nx, Q => match draw with
    | false => Hold (aops P Snd ops m ops.toList sl h nx fun sl h nx => Hold (Q .norm sl h nx))
    | true => Hold (aregD P Snd ops m sl h nx fun sl h nx => Hold (Q .norm sl h nx))
  | m, .seq a b, sl, h, nx, Q => avc m a sl h nx fun e sl h nx => match e with
    | .norm => avc m b sl h nx Q
    | .exit i => Q (.exit i) sl h nx
    | .ret => Q .ret sl h nx
  | m, .cond c a b, sl, h, nx, Q => match ev sl c with
    | .ex (.bool c) => (c = true → avc m a sl h nx Q) ∧ (c = false → avc m b sl h nx Q)
    | _ => False
  | m, .block id c, sl, h, nx, Q => avc m c sl h nx fun e sl h nx => match e with
    | .norm => Q .norm sl h nx
    | .exit i => match Nat.beq i id with
      | true => Q .norm sl h nx
      | false => Q (.exit i) sl h nx
    | .ret => Q .ret sl h nx
  | m, .scope c, sl, h, nx, Q => avc m c sl h nx Q
  | m, .loop c, sl, h, nx, Q => ∃ (live : List Nat) (th : List (Nat × Option TypeId)) (I : List AV → List ABlk → Prop) (μ : List AV → List ABlk → Nat),
      canonK live th sl h nx I ∧ ∀ vs bs, I vs bs → avc m c (zipS live vs) (zipB 0 bs) bs.length fun e sl h nx => match e with
        | .norm => canonK live th sl h nx fun vs' bs' => I vs' bs' ∧ μ vs' bs' < μ vs bs
        | .exit i => Q (.exit i) sl h nx
        | .ret => Q .ret sl h nx
  | m, .rangeFunc g ps assign body, sl, h, nx, Q => ∃ (ι : Type) (enc : ι → List Value) (xs : List ι) (f : FuncId) (cs : List AV) (live : List Nat) (th : List (Nat × Option TypeId)) (kp : Nat) (av : List Nat) (I : List ι → List AV → List ABlk → Prop),
      ev sl g = .clo f cs ∧ SeqSound P f cs enc xs ∧ (∀ x, (enc x).length = ps.size) ∧ Nat.ble m.keep kp = true ∧ allLt kp live = true ∧ allGe kp m.n ps.toList = true ∧ nodupN ps.toList = true ∧ plainC assign = true ∧ plainC body = true ∧ canonK live th sl h nx (fun vs bs => noOb bs (I [] vs bs)) ∧
      (∀ x, x ∈ xs → avc ⟨m.n, kp⟩ assign (exS ps.toList (enc x)) [] 0 fun e sl1 h1 nx1 => match e with
        | .norm => ∀ pre vs bs, (∀ y, y ∈ pre → y ∈ xs) → pre.length < xs.length → I pre vs bs → avc ⟨m.n, kp⟩ body (zipEx sl1 av (zipS live vs)) (zipB 0 bs) bs.length fun e sl2 h2 nx2 => match e with
          | .norm => canonK live th sl2 h2 nx2 fun vs bs => noOb bs (I (pre ++ [x]) vs bs)
          | .exit i => canonK live th sl2 h2 nx2 fun vs bs => noOb bs (pre ++ [x] <+: xs → Q (.exit i) (zipS live vs) (zipB 0 bs) bs.length)
          | .ret => canonK live th sl2 h2 nx2 fun vs bs => noOb bs (pre ++ [x] <+: xs → Q .ret (zipS live vs) (zipB 0 bs) bs.length)
        | .exit _ => False
        | .ret => False) ∧
      ∀ vs bs, I xs vs bs → Q .norm (zipS live vs) (zipB 0 bs) bs.length
  | m, .label _, sl, h, nx, Q => Q .norm sl h nx
  | m, .exit id, sl, h, nx, Q => Q (.exit id) sl h nx
  | m, .ret, sl, h, nx, Q => Q .ret sl h nx
  | _, _, _, _, _, _ => False

def startS : Nat → List AV → Sl
  | _, [] => []
  | i, v :: l => (i, v) :: startS (i + 1) l
/-- a result, out of its variable -/
def resV (sl : Sl) (h : Hp) : ResultVar → (AV → Prop) → Prop
  | .tmp t, k => k (slotOf sl t)
  | .cell a ty, k => match slotOf sl a with
    | .ptr r off => match blkOf h r with
      | some ⟨cs, none, _, _⟩ => loadA P ty cs off k
      | _ => False
    | _ => False
/-- a value that is handed back, told as r -/
def give (h : Hp) (v r : AV) : Prop := match r with
  | .own e n ds => match v with
    | .sl q k => match blkOf h q with
      | some ⟨cs, some e', _, true⟩ => e = e' ∧ n = k ∧ ds = cs
      | _ => False
    | .ex (.slice none 0 0) => n = 0 ∧ ds = []
    | _ => False
  | .vs n ds => match v with
    | .ex (.slice none 0 0) => n = 0 ∧ ds = []
    | v => match packV h v with
      | some (v', _) => v' = .vs n ds
      | none => False
  | .pt b cs => match v with
    | .pt b' cs' => b' = b ∧ cs' = cs
    | .ex (.pointer none) => b = false
    | v => match packV h v with
      | some (.vp cs' 0, _) => b = true ∧ cs' = cs
      | _ => False
  | r => match packV h v with
    | some (v', _) => v' = r
    | none => False
def noOwn : AV → Bool
  | .own _ _ _ => false
  | _ => true
def noOwnL : List AV → Bool
  | [] => true
  | v :: l => noOwn v && noOwnL l
/-- one at most is handed over -/
def oneOwn : List AV → Bool
  | [] => true
  | v :: l => match noOwn v with
    | true => oneOwn l
    | false => noOwnL l
def giveL (sl : Sl) (h : Hp) : List ResultVar → List AV → Prop
  | [], [] => True
  | x :: l, r :: rs => (resV P sl h x fun v => give h v r) ∧ giveL sl h l rs
  | _, _ => False
def aret (fn : Func) (sl : Sl) (h : Hp) (r : AV) : Prop := match fn.results.toList with
  | [x] => resV P sl h x fun v => give h v r
  | l => match r with
    | .tup rs => match oneOwn rs with
      | true => giveL P sl h l rs
      | false => False
    | _ => False
/-- all results, out of their variables -/
def resLK (sl : Sl) (h : Hp) : List ResultVar → (List AV → Prop) → Prop
  | [], k => k []
  | x :: l, k => resV P sl h x fun v => resLK sl h l fun vs => k (v :: vs)
def packR : List AV → AV
  | [x] => x
  | l => .tup l
def slotsN (sl : Sl) : Nat → Nat → List AV
  | _, 0 => []
  | i, n + 1 => slotOf sl i :: slotsN sl (i + 1) n
/-- what stands behind a body that may write to what its arguments reach -/
def aretM (fn : Func) (n : Nat) (sl : Sl) (h : Hp) (rargs : List AV) (r : AV) (bs' : List ABlk) : Prop :=
  resLK P sl h fn.results.toList fun rvs => forceL (collect h 40 (idsVs (slotsN sl 0 n ++ rvs)) []) fun acc => match nodupN acc, Nat.beq (liveB acc h acc).length acc.length with
    | true, true => renVL acc (slotsN sl 0 n) = rargs ∧ packR (renVL acc rvs) = r ∧ liveB acc h acc = bs'
    | _, _ => False
def abodyM (fn : Func) (args : List AV) (bs : List ABlk) (n : Nat) (rargs : List AV) (r : AV) (bs' : List ABlk) : Prop := match fn.body with
  | some c => avc P Snd ⟨fn.ntmps, n⟩ c (startS 0 args) (zipB 0 bs) bs.length fun e sl h nx => match e with
    | .norm => aretM P fn n sl h rargs r bs'
    | .ret => aretM P fn n sl h rargs r bs'
    | .exit _ => False
  | none => False
def abody (fn : Func) (args : List AV) (r : AV) : Prop := match fn.body with
  | some c => avc P Snd ⟨fn.ntmps, 0⟩ c (startS 0 args) [] 0 fun e sl h nx => match e with
    | .norm => aret P fn sl h r
    | .ret => aret P fn sl h r
    | .exit _ => False
  | none => False
end
end
section

section
variable {P : Program} {w : World} {w0 : Ori} {D : Nat → Prop} {p : Nat → Option Nat} {c : Nat → Nat} {F F0 : Nat → Nat → Prop} {m : Fr} {sl : Sl} {h : Hp} {a : Act} {Q : Exit → Act → World → Prop}
theorem zipS_look {acc : List Nat} : ∀ {live : List Nat} {t : Nat} {v : AV}, look (zipS live (liveV acc sl live)) t = some v → v = renV acc (slotOf sl t)
  | [], t, v, h => by simp [zipS, look] at h
  | q :: live, t, v, h => by
    simp only [liveV, zipS] at h
    rw [look_cons] at h
    by_cases e : q = t
    · subst e; rw [if_pos rfl] at h; injection h with h; exact h.symm
    · rw [if_neg e] at h; exact zipS_look h
theorem thawC_ok {w : World} {p : Nat → Option Nat} {c : Nat → Nat} {F : Nat → Nat → Prop} {D : Nat → Prop} (v : Value) : Rep w p c F D (thawC v) v := by
  unfold thawC
  split
  · exact .vnil _
  · exact .pt0 _ _
  · exact .ex _ _
theorem thaw_ok : ∀ {th : List (Nat × Option TypeId)} {sl : Sl} {h : Hp} {nx : Nat} {k : Sl → Hp → Nat → Prop} {p : Nat → Option Nat} {c : Nat → Nat}, thaw th sl h nx k → Rel P w0 F0 m (ltD nx) p c F sl h a w →
    ∃ sl' h' nx' p' c', k sl' h' nx' ∧ Rel P w0 F0 m (ltD nx') p' c' F sl' h' a w
  | [], sl, h, nx, k, p, c, hk, hr => ⟨sl, h, nx, p, c, hk, hr⟩
  | (t, e) :: th, sl, h, nx, k, p, c, hk, hr => by
    unfold thaw at hk
    split at hk
    · rename_i hs
      have hlk := slotOf_look hs (by simp)
      have hv := (hr.slots t _ hlk).ex_inv
      cases e with
      | some e =>
        have hnd : ¬ ltD nx nx := by unfold ltD; omega
        have h1 := hr.newNil hnd e false true
        have e1 : ∀ i, ltD (nx + 1) i ↔ addD (ltD nx) nx i := fun i => by unfold ltD addD; constructor <;> intro h <;> omega
        have h2 := h1.dom e1
        have h3 : Rel P w0 F0 m (ltD (nx + 1)) (setAt p nx none) (setAt c nx 0) F ((t, .sl nx 0) :: sl) ((nx, some ⟨[], some e, false, true⟩) :: h) a w := by
          refine ⟨fun q u hq => ?_, h2.size, h2.keep, h2.defers, h2.live, h2.inj, h2.own, h2.fr, h2.fz, h2.sub, h2.f0, h2.below, h2.cell, h2.ob.step (fun r b K h1 _ => ⟨h1, rfl⟩) (fun r b g h1 hp _ => .inr ⟨r, b, h1, hp⟩) (fun r b K g _ _ _ => ⟨rfl, fun _ _ => rfl⟩) (fun _ _ hj => .inl hj) (fun _ hx => hx) (Nat.le_refl _) h2.inj⟩
          rw [look_cons] at hq
          by_cases e2 : t = q
          · subst e2; rw [if_pos rfl] at hq; injection hq with hq; subst hq
            rw [hv]
            have := Rep.sl (w := w) (p := setAt p nx none) (c := setAt c nx 0) (F := F) (ltD (nx + 1)) nx 0 (by unfold ltD; omega) (by rw [setAt_same]; omega)
            rw [setAt_same, setAt_same] at this
            exact this
          · rw [if_neg e2] at hq; exact h2.slots q u hq
        exact thaw_ok hk h3
      | none =>
        have h3 : Rel P w0 F0 m (ltD nx) p c F ((t, .vs 0 []) :: sl) h a w := by
          refine ⟨fun q u hq => ?_, hr.size, hr.keep, hr.defers, hr.live, hr.inj, hr.own, hr.fr, hr.fz, hr.sub, hr.f0, hr.below, hr.cell, hr.ob⟩
          rw [look_cons] at hq
          by_cases e2 : t = q
          · subst e2; rw [if_pos rfl] at hq; injection hq with hq; subst hq
            rw [hv]; exact .vnil _
          · rw [if_neg e2] at hq; exact hr.slots q u hq
        exact thaw_ok hk h3
    · rename_i hs
      have hlk := slotOf_look hs (by simp)
      have hv := (hr.slots t _ hlk).ex_inv
      have h3 : Rel P w0 F0 m (ltD nx) p c F ((t, .pt false []) :: sl) h a w := by
        refine ⟨fun q u hq => ?_, hr.size, hr.keep, hr.defers, hr.live, hr.inj, hr.own, hr.fr, hr.fz, hr.sub, hr.f0, hr.below, hr.cell, hr.ob⟩
        rw [look_cons] at hq
        by_cases e2 : t = q
        · subst e2; rw [if_pos rfl] at hq; injection hq with hq; subst hq
          rw [hv]; exact .pt0 _ _
        · rw [if_neg e2] at hq; exact hr.slots q u hq
      exact thaw_ok hk h3
    · rename_i us hs
      rw [forceCs_eq] at hk
      have hlk := slotOf_look hs (by simp)
      have hv := (hr.slots t _ hlk).ex_inv
      have h3 : Rel P w0 F0 m (ltD nx) p c F ((t, .agg (us.toList.map thawC)) :: sl) h a w := by
        refine ⟨fun q u hq => ?_, hr.size, hr.keep, hr.defers, hr.live, hr.inj, hr.own, hr.fr, hr.fz, hr.sub, hr.f0, hr.below, hr.cell, hr.ob⟩
        rw [look_cons] at hq
        by_cases e2 : t = q
        · subst e2; rw [if_pos rfl] at hq; injection hq with hq; subst hq
          rw [hv]
          refine .agg _ _ us (by simp) fun j hj => ?_
          have hj2 : j < us.size := by simpa using hj
          have e3 : us.getD j undef = us[j] := by simp [hj2]
          have e4 : (us.toList.map thawC)[j] = thawC us[j] := by simp
          rw [e3, e4]
          exact thawC_ok _
        · rw [if_neg e2] at hq; exact hr.slots q u hq
      exact thaw_ok hk h3
    · exact thaw_ok hk hr
theorem canon_ok {live : List Nat} {th : List (Nat × Option TypeId)} {nx : Nat} {k : List AV → List ABlk → Prop} (hk : canonK live th sl h nx k) (hr : Rel P w0 F0 m (ltD nx) p c F sl h a w) :
    ∃ vs bs p' c', k vs bs ∧ Rel P w0 F0 m (ltD bs.length) p' c' F (zipS live vs) (zipB 0 bs) a w := by
  unfold canonK at hk
  obtain ⟨sl, h, nx, p, c, hk, hr⟩ := thaw_ok hk hr
  rw [forceL_eq] at hk
  generalize collect h 40 (idsLive sl live) [] = acc at hk
  split at hk
  case h_2 => exact hk.elim
  rename_i hnd hlen
  rw [forceCs_eq, forceBs_eq] at hk
  have hlen' : (liveB acc h acc).length = acc.length := Nat.eq_of_beq_eq_true hlen
  have hnd' := nodupN_spec hnd
  refine ⟨_, _, pA p acc, cA c acc, hk, ?_⟩
  rw [hlen']
  have key : ∀ i b', look (zipB 0 (liveB acc h acc)) i = some (some b') → ∃ r b, acc[i]? = some r ∧ look h r = some (some b) ∧ b' = renB acc b := by
    intro i b' hi
    obtain ⟨_, h2⟩ := zipB_look hi
    rw [Nat.sub_zero] at h2
    have hlt : i < acc.length := by rw [← hlen']; exact (List.getElem?_eq_some_iff.1 h2).1
    obtain ⟨b, k1, k2⟩ := liveB_at hlen' i acc[i] (List.getElem?_eq_getElem hlt)
    rw [k2] at h2; injection h2 with h2
    exact ⟨acc[i], b, List.getElem?_eq_getElem hlt, blk_look k1, h2.symm⟩
  have hp : ∀ i r, acc[i]? = some r → pA p acc i = p r ∧ cA c acc i = c r := fun i r hi => ⟨by simp only [pA, hi], by simp only [cA, hi]⟩
  have hbc : ∀ b : ABlk, (renB acc b).cells.length = b.cells.length ∧ (renB acc b).el = b.el ∧ (renB acc b).fz = b.fz ∧ (renB acc b).pu = b.pu := by
    intro b; unfold renB
    split
    · exact ⟨rfl, rfl, rfl, rfl⟩
    · exact ⟨renL_length _ _, rfl, rfl, rfl⟩
  refine ⟨fun t v ht => ?_, hr.size, hr.keep, hr.defers, fun i b' hi => ?_, fun i i' b1 b2 g h1 h2 p1 p2 => ?_, fun i b' g hi hpi => ?_, hr.fr, fun i b' g j hi hpi hj => ?_, hr.sub, hr.f0, hr.below, hr.cell, fun i b' K g hi hK hpi => ?_⟩
  · rw [zipS_look ht]
    exact renV_ok (hr.ev_ (.tmp t))
  · obtain ⟨r, b, h1, h2, rfl⟩ := key i b' hi
    refine ⟨(List.getElem?_eq_some_iff.1 h1).1, ?_⟩
    have hB := (hr.live r b h2).2
    obtain ⟨e1, e2, e3, e4⟩ := hbc b
    unfold BlkOk at hB ⊢
    rw [(hp i r h1).1, (hp i r h1).2, e2]
    cases hpr : p r with
    | none =>
      rw [hpr] at hB
      simp only at hB ⊢
      exact ⟨List.eq_nil_of_length_eq_zero (by rw [e1, hB.1]; rfl), hB.2⟩
    | some g =>
      rw [hpr] at hB
      simp only at hB ⊢
      obtain ⟨us, t, fr, k1, k2, k3, k4, k5⟩ := hB
      refine ⟨us, t, fr, k1, k2, by rw [e1]; exact k3, fun j hj => ?_, k5⟩
      have hj' : j < b.cells.length := by rw [e1] at hj; exact hj
      have h4 := k4 j hj'
      rw [e4]
      cases hpu : b.pu with
      | true =>
        have ec : (renB acc b).cells = b.cells := by unfold renB; rw [hpu]; rfl
        rw [hpu] at h4
        simp only [ec]
        exact h4.of_no
      | false =>
        have ec : (renB acc b).cells = renL acc b.cells := by unfold renB; rw [hpu]; rfl
        rw [hpu] at h4
        simp only [ec]
        rw [renL_at]
        exact renC_ok h4
  · obtain ⟨r, b, q1, q2, rfl⟩ := key i b1 h1
    obtain ⟨r', b', q1', q2', rfl⟩ := key i' b2 h2
    rw [(hp i r q1).1] at p1
    rw [(hp i' r' q1').1] at p2
    have := hr.inj r r' b b' g q2 q2' p1 p2
    subst this
    exact (List.getElem?_inj (List.getElem?_eq_some_iff.1 q1).1 hnd').1 (q1.trans q1'.symm)
  · obtain ⟨r, b, q1, q2, rfl⟩ := key i b' hi
    rw [(hp i r q1).1] at hpi
    exact hr.own r b g q2 hpi
  · obtain ⟨r, b, q1, q2, rfl⟩ := key i b' hi
    rw [(hp i r q1).1] at hpi
    obtain ⟨e1, e2, e3, e4⟩ := hbc b
    obtain ⟨k1, k2⟩ := hr.fz r b g j q2 hpi hj
    exact ⟨by rw [e3]; exact k1, by rw [e1]; exact k2⟩
  · obtain ⟨r, b, q1, q2, rfl⟩ := key i b' hi
    rw [isOb_renB] at hK
    rw [(hp i r q1).1] at hpi
    obtain ⟨k1, k2⟩ := hr.ob r b K g q2 hK hpi
    refine ⟨k1, fun x hx => ?_⟩
    obtain ⟨k0, k3, k4, k5⟩ := k2 x hx
    refine ⟨k0, k3, k4, fun i' b'' g' hi' hp' hne hf => ?_⟩
    obtain ⟨r', b2, q1', q2', rfl⟩ := key i' b'' hi'
    rw [(hp i' r' q1').1] at hp'
    refine k5 r' b2 g' q2' hp' (fun e => hne ?_) ((foot_eq (isOb_renB acc b2)).1 hf)
    subst e
    exact (List.getElem?_inj (List.getElem?_eq_some_iff.1 q1').1 hnd').1 (q1'.trans q1.symm)
theorem zipB_no {bs : List ABlk} (h : ∀ b ∈ bs, isOb b = none) : ∀ r b, look (zipB 0 bs) r = some (some b) → isOb b = none := fun r b hb => by
  obtain ⟨_, h2⟩ := zipB_look hb
  exact h b (List.mem_of_getElem? h2)
end

section
variable {P : Program} {w0 : Ori} {F0 : Nat → Nat → Prop} {m : Fr}
/-- what stands for an exit -/
def ofAX : AX → Exit
  | .norm => .normal
  | .exit i => .exit i
  | .ret => .ret
theorem allLt_spec {k : Nat} : ∀ {l : List Nat}, allLt k l = true → ∀ t ∈ l, t < k
  | [], _, t, h => by cases h
  | q :: l, hk, t, h => by
    simp only [allLt, Bool.and_eq_true] at hk
    rcases List.mem_cons.1 h with rfl | h
    · exact Nat.lt_of_succ_le (Nat.le_of_ble_eq_true hk.1)
    · exact allLt_spec hk.2 t h
theorem allGe_spec {k n : Nat} : ∀ {l : List Nat}, allGe k n l = true → ∀ t ∈ l, k ≤ t ∧ t < n
  | [], _, t, h => by cases h
  | q :: l, hk, t, h => by
    simp only [allGe, Bool.and_eq_true] at hk
    rcases List.mem_cons.1 h with rfl | h
    · exact ⟨Nat.le_of_ble_eq_true hk.1.1, Nat.lt_of_succ_le (Nat.le_of_ble_eq_true hk.1.2)⟩
    · exact allGe_spec hk.2 t h
/-- where the items of a round lie -/
def putPs : List Nat → List Value → Array Value → Array Value
  | t :: l, v :: vs, a => putPs l vs (a.setIfInBounds t v)
  | _, _, a => a
theorem putPs_zip : ∀ (l : List Nat) (vs : List Value) (a : Array Value), (l.zip vs).foldl (fun t x => t.setIfInBounds x.1 x.2) a = putPs l vs a
  | [], _, a => by simp [putPs]
  | t :: l, [], a => by simp [putPs]
  | t :: l, v :: vs, a => by simp only [List.zip_cons_cons, List.foldl_cons, putPs]; exact putPs_zip l vs _
theorem putPs_size : ∀ (l : List Nat) (vs : List Value) (a : Array Value), (putPs l vs a).size = a.size
  | [], _, a => by simp [putPs]
  | t :: l, [], a => by simp [putPs]
  | t :: l, v :: vs, a => by simp only [putPs]; rw [putPs_size l vs]; simp
theorem putPs_not : ∀ (l : List Nat) (vs : List Value) (a : Array Value) (t : Nat), t ∉ l → (putPs l vs a).getD t undef = a.getD t undef
  | [], _, a, t, _ => by simp [putPs]
  | q :: l, [], a, t, _ => by simp [putPs]
  | q :: l, v :: vs, a, t, h => by
    simp only [putPs]
    rw [putPs_not l vs _ t (fun e => h (List.mem_cons_of_mem _ e))]
    have : q ≠ t := fun e => h (e ▸ List.mem_cons_self ..)
    simp [Array.getElem?_setIfInBounds, this]
theorem putPs_look : ∀ (l : List Nat) (vs : List Value) (a : Array Value) (t : Nat) (v : AV), l.Nodup → (∀ t ∈ l, t < a.size) → look (exS l vs) t = some v → v = .ex ((putPs l vs a).getD t undef)
  | [], _, a, t, v, _, _, h => by simp [exS, look] at h
  | q :: l, [], a, t, v, _, _, h => by simp [exS, look] at h
  | q :: l, u :: vs, a, t, v, hn, hb, h => by
    simp only [exS] at h
    rw [look_cons] at h
    simp only [putPs]
    have hn' := List.nodup_cons.1 hn
    by_cases e : q = t
    · subst e
      rw [if_pos rfl] at h; injection h with h; subst h
      rw [putPs_not l vs _ q hn'.1]
      have hq := hb q (List.mem_cons_self ..)
      simp [hq]
    · rw [if_neg e] at h
      exact putPs_look l vs _ t v hn'.2 (fun t ht => by simpa using hb t (List.mem_cons_of_mem _ ht)) h
theorem zipEx_look {sl1 k : Sl} : ∀ {l : List Nat} {t : Nat} {v : AV}, look (zipEx sl1 l k) t = some v → (∃ u, v = .ex u ∧ slotOf sl1 t = .ex u) ∨ look k t = some v
  | [], t, v, h => .inr h
  | q :: l, t, v, h => by
    unfold zipEx at h
    split at h
    · rename_i u hu
      rw [look_cons] at h
      by_cases e : q = t
      · subst e; rw [if_pos rfl] at h; injection h with h; exact .inl ⟨u, h.symm, hu⟩
      · rw [if_neg e] at h; exact zipEx_look h
    · exact zipEx_look h
theorem zipS_mem {live : List Nat} {vs : List AV} {t : Nat} {v : AV} (h : look (zipS live vs) t = some v) : t ∈ live := by
  induction live generalizing vs with
  | nil => simp [zipS, look] at h
  | cons q live ih =>
    cases vs with
    | nil => simp [zipS, look] at h
    | cons u vs =>
      simp only [zipS] at h
      rw [look_cons] at h
      by_cases e : q = t
      · exact e ▸ List.mem_cons_self ..
      · rw [if_neg e] at h; exact List.mem_cons_of_mem _ (ih h)
theorem below_of {w w' : World} {gh : Array Value} {ds : List Deferred} (h : Held ⟨w, fun _ => False, gh, ds⟩ w') : Below w.heap.size w w' :=
  ⟨h.os, h.tape, h.output, h.size, fun k hk => h.block k (by rintro (e | e); exact absurd e (Nat.not_le.2 hk); exact e)⟩
theorem avcIn_ok (hm : P.follows .mixedOrders = true) : ∀ (code : Code) {m : Fr} {r : Option Nat} {n : Nat} {o : Ori} {F0 : Nat → Nat → Prop} {Af : Ori → (Nat → Nat → Prop) → Prop} {sl : Sl} {h : Hp} {nx : Nat} {K : QA} {p : Nat → Option Nat} {c : Nat → Nat} {F : Nat → Nat → Prop} {a : Act} {w : World} {Q : Exit → Act → World → Prop},
    (r = none ∨ plainC code = true) → (r = none → 1 ≤ n) → (plainC code = false → ∀ o F0 o' F0', Af o F0 → After o F0 o' F0' → Af o' F0') → Af o F0 → avc P (Sound P) m code sl h nx K → Rel P o F0 m (ltD nx) p c F sl h a w →
    (∀ e sl' h' nx' p' c' F' a' w' o' F0', Af o' F0' → K e sl' h' nx' → Rel P o' F0' m (ltD nx') p' c' F' sl' h' a' w' → Q (ofAX e) a' w') → code.wpIn (wideR r) n P Q a w
  | .skip, m, r, n, o, F0, Af, sl, h, nx, K, p, c, F, a, w, Q, hd, hn, hcl, hA, hk, hr, hQ => wpIn_skip (hQ .norm _ _ _ _ _ _ _ _ _ _ hA hk hr)
  | .label l, m, r, n, o, F0, Af, sl, h, nx, K, p, c, F, a, w, Q, hd, hn, hcl, hA, hk, hr, hQ => by
    refine wpIn_label ?_
    exact hQ .norm _ _ _ _ _ _ _ _ _ _ hA hk hr
  | .region id ops false, m, r, n, o, F0, Af, sl, h, nx, K, p, c, F, a, w, Q, hd, hn, hcl, hA, hk, hr, hQ => by
    refine wpIn_mono (wpIn_region (Q := onlyN Q) ?_) onlyN_imp
    have := aops_ok (Q := onlyN Q) (ops := ops) ops.toList 0 (fun j => by simp) (Hold.out hk) hr (fun sl' h' nx' p' c' F' a' w' h1 h2 => hQ .norm _ _ _ _ _ _ _ _ _ _ hA h1.out h2)
    exact wpOps_in (hd.imp (fun h => h) plain_region) onlyN_out _ (by simpa [List.range_eq_range'] using this)
  | .region id ops true, m, r, n, o, F0, Af, sl, h, nx, K, p, c, F, a, w, Q, hd, hn, hcl, hA, hk, hr, hQ => by
    refine wpIn_mono (wpIn_region_any (Q := onlyN Q) hm ?_) onlyN_imp
    exact wpAny_in (hd.imp (fun h => h) plain_region) onlyN_out _ _ (aregD_any (Hold.out hk) hr fun sl' h' nx' p' c' F' a' w' h1 h2 => hQ .norm _ _ _ _ _ _ _ _ _ _ hA h1.out h2)
  | .seq x y, m, r, n, o, F0, Af, sl, h, nx, K, p, c, F, a, w, Q, hd, hn, hcl, hA, hk, hr, hQ => by
    have hd1 : r = none ∨ plainC x = true := hd.imp (fun h => h) fun h => by simp only [plainC, Bool.and_eq_true] at h; exact h.1
    have hd2 : r = none ∨ plainC y = true := hd.imp (fun h => h) fun h => by simp only [plainC, Bool.and_eq_true] at h; exact h.2
    refine wpIn_seq (avcIn_ok hm x hd1 hn (fun h => hcl (by simp only [plainC, h, Bool.false_and])) hA hk hr fun e sl' h' nx' p' c' F' a' w' o' F0' hA' h1 h2 => ?_)
    cases e with
    | norm => exact avcIn_ok hm y hd2 hn (fun h => hcl (by simp only [plainC, h, Bool.and_false])) hA' h1 h2 hQ
    | exit i => exact hQ (.exit i) _ _ _ _ _ _ _ _ _ _ hA' h1 h2
    | ret => exact hQ .ret _ _ _ _ _ _ _ _ _ _ hA' h1 h2
  | .cond x y z, m, r, n, o, F0, Af, sl, h, nx, K, p, c, F, a, w, Q, hd, hn, hcl, hA, hk, hr, hQ => by
    have hd1 : r = none ∨ plainC y = true := hd.imp (fun h => h) fun h => by simp only [plainC, Bool.and_eq_true] at h; exact h.1
    have hd2 : r = none ∨ plainC z = true := hd.imp (fun h => h) fun h => by simp only [plainC, Bool.and_eq_true] at h; exact h.2
    unfold avc at hk
    split at hk
    · rename_i b hb
      have he := (hb ▸ hr.ev_ x : Rep w p c F (ltD nx) _ _).ex_inv
      exact wpIn_cond_split he (fun ht => avcIn_ok hm y hd1 hn (fun h => hcl (by simp only [plainC, h, Bool.false_and])) hA (hk.1 ht) hr hQ) (fun hf => avcIn_ok hm z hd2 hn (fun h => hcl (by simp only [plainC, h, Bool.and_false])) hA (hk.2 hf) hr hQ)
    · exact hk.elim
  | .block id x, m, r, n, o, F0, Af, sl, h, nx, K, p, c, F, a, w, Q, hd, hn, hcl, hA, hk, hr, hQ => by
    refine wpIn_block (avcIn_ok hm x (hd.imp (fun h => h) fun h => by simpa only [plainC] using h) hn (fun h => hcl (by simpa only [plainC] using h)) hA hk hr fun e sl' h' nx' p' c' F' a' w' o' F0' hA' h1 h2 => ?_)
    cases e with
    | norm => exact hQ .norm _ _ _ _ _ _ _ _ _ _ hA' h1 h2
    | exit i =>
      simp only at h1
      simp only [ofAX, Exit.inBlock]
      cases hb : Nat.beq i id with
      | true =>
        rw [hb] at h1
        rw [if_pos (Nat.eq_of_beq_eq_true hb)]
        exact hQ .norm _ _ _ _ _ _ _ _ _ _ hA' h1 h2
      | false =>
        rw [hb] at h1
        rw [if_neg (fun e => by rw [e] at hb; simp at hb)]
        exact hQ (.exit i) _ _ _ _ _ _ _ _ _ _ hA' h1 h2
    | ret => exact hQ .ret _ _ _ _ _ _ _ _ _ _ hA' h1 h2
  | .scope x, m, r, n, o, F0, Af, sl, h, nx, K, p, c, F, a, w, Q, hd, hn, hcl, hA, hk, hr, hQ => by
    have hr0 : r = none := hd.resolve_right (by simp [plainC])
    subst hr0
    have h1 := avcIn_ok hm x (r := none) (n := n) (Q := Exit.noGoto Q) (.inl rfl) hn (fun _ => hcl rfl) hA hk hr fun e sl' h' nx' p' c' F' a' w' o' F0' hA' h1 h2 => by
      have := hQ e _ _ _ _ _ _ _ _ _ _ hA' h1 h2
      cases e <;> exact this
    exact wpIn_wide.2 (wp_scope_straight (wpIn_wide.1 h1))
  | .loop x, m, r, n, o, F0, Af, sl, h, nx, K, p, c, F, a, w, Q, hd, hn, hcl, hA, hk, hr, hQ => by
    unfold avc at hk
    obtain ⟨live, th, I, μ, h0, hround⟩ := hk
    obtain ⟨vs, bs, p', c', hI, hr'⟩ := canon_ok h0 hr
    refine wpIn_loop_ghost (fun n a w => ∃ vs bs p c F o F0, μ vs bs = n ∧ I vs bs ∧ Af o F0 ∧ Rel P o F0 m (ltD bs.length) p c F (zipS live vs) (zipB 0 bs) a w) (μ vs bs) ⟨vs, bs, p', c', _, _, _, rfl, hI, hA, hr'⟩ ?_
    rintro n' a w ⟨vs, bs, p, c, F, o, F0, rfl, hI, hA, hr⟩
    refine avcIn_ok hm x (hd.imp (fun h => h) fun h => by simpa only [plainC] using h) hn (fun h => hcl (by simpa only [plainC] using h)) hA (hround vs bs hI) hr fun e sl' h' nx' p' c' F' a' w' o' F0' hA' h1 h2 => ?_
    cases e with
    | norm =>
      obtain ⟨vs', bs', p2, c2, ⟨q1, q2⟩, q3⟩ := canon_ok h1 h2
      exact ⟨_, q2, vs', bs', p2, c2, _, _, _, rfl, q1, hA', q3⟩
    | exit i => exact hQ (.exit i) _ _ _ _ _ _ _ _ _ _ hA' h1 h2
    | ret => exact hQ .ret _ _ _ _ _ _ _ _ _ _ hA' h1 h2
  | .exit id, m, r, n, o, F0, Af, sl, h, nx, K, p, c, F, a, w, Q, hd, hn, hcl, hA, hk, hr, hQ => wpIn_exit (hQ (.exit id) _ _ _ _ _ _ _ _ _ _ hA hk hr)
  | .ret, m, r, n, o, F0, Af, sl, h, nx, K, p, c, F, a, w, Q, hd, hn, hcl, hA, hk, hr, hQ => wpIn_ret (hQ .ret _ _ _ _ _ _ _ _ _ _ hA hk hr)
  | .rangeFunc g ps assign body, m, r, n, o, F0, Af, sl, h, nx, K, p, c, F, a, w, Q, hd, hn, hcl, hA, hk, hr, hQ => by
    have hr0 : r = none := hd.resolve_right (by simp [plainC])
    subst hr0
    unfold avc at hk
    obtain ⟨ι, enc, xs, f, cs, live, th, kp, av, I, hg, hseq, henc, hkp, hlive, hps, hnd, hpa, hpb, h0, hround, hend⟩ := hk
    obtain ⟨lb, hgv, hlb, hcs⟩ := (hg ▸ hr.ev_ g : Rep w p c F (ltD nx) _ _).clo_inv
    have hkp := Nat.le_of_ble_eq_true hkp
    have hlive := allLt_spec hlive
    have hps := allGe_spec hps
    have hnd := nodupN_spec hnd
    obtain ⟨vs0, bs0, p0', c0', hI0, hr1⟩ := canon_ok h0 hr
    obtain ⟨hn0, hI0⟩ := noOb_spec hI0
    have hFlt : ∀ g j, F g j → g < w.heap.size := fun g j hj => (hr.fr g j hj).1
    have hL : o.w.heap.size ≤ w.heap.size := hr.below.size
    -- the state between two rounds
    let St := fun (Ok : List AV → List ABlk → Prop) (W : World) => ∃ vs bs p c F', Ok vs bs ∧ (∀ g j, F' g j → g < w.heap.size ∨ (W.cell? ⟨g, j, none⟩).isSome = true) ∧ (∀ g j, F g j → F' g j) ∧ Rel P o F0 m (ltD bs.length) p c F' (zipS live vs) (zipB 0 bs) a W ∧ ∀ b ∈ bs, isOb b = none
    have hSt : ∀ {β : Type} (Ok : β → List AV → List ABlk → Prop), OwnFrom w.heap.size (fun (s : β) W => St (Ok s) W) := by
      intro β Ok s W W' row hs hgr hrow
      obtain ⟨vs, bs, p, c, F', h1, h2, h3, h4, h5⟩ := hs
      obtain ⟨k1, k2⟩ := h4.rowTurn (fun r b K g k1 k2 => by rw [zipB_no h5 r b k1] at k2; cases k2) hgr hrow hL h2
      exact ⟨vs, bs, p, c, F', h1, fun g j hj => (h2 g j hj).imp id fun h => by rw [k2 g j hj]; exact h, h3, k1, h5⟩
    -- how a round ends
    have out : ∀ (Ok : List AV → List ABlk → Prop) {W : World} {vs : List AV} {bs : List ABlk} {p : Nat → Option Nat} {c : Nat → Nat} {F' : Nat → Nat → Prop} {a' : Act} {ds : List Deferred} {o' : Ori} {F0' : Nat → Nat → Prop} {sl2 : Sl} {h2 : Hp} {nx2 : Nat} {p2 : Nat → Option Nat} {c2 : Nat → Nat} {F2 : Nat → Nat → Prop} {a2 : Act} {W2 : World},
        (∀ g j, F' g j → g < w.heap.size ∨ (W.cell? ⟨g, j, none⟩).isSome = true) → (∀ g j, F g j → F' g j) → Rel P o F0 m (ltD bs.length) p c F' (zipS live vs) (zipB 0 bs) a W → (∀ t, t < kp → a'.tmps.getD t undef = a.tmps.getD t undef) →
        After (hereO o W a'.tmps ds) F' o' F0' → Rel P o' F0' ⟨m.n, kp⟩ (ltD nx2) p2 c2 F2 sl2 h2 a2 W2 → canonK live th sl2 h2 nx2 (fun vs bs => noOb bs (Ok vs bs)) → St Ok W2 ∧ KeepsFrom w.heap.size W W2 ∧ KpF F W W2 := by
      intro Ok W vs bs p c F' a' ds o' F0' sl2 h2 nx2 p2 c2 F2 a2 W2 hF1 hF2 hrW hkeep hAf hr2 hcan
      have hr3 := hAf.rel (fun g j hj => (hrW.fr g j hj).1) hr2
      obtain ⟨vs', bs', p3, c3, hok, hr4⟩ := canon_ok hcan hr3
      obtain ⟨hno, hok⟩ := noOb_spec hok
      have hr5 : Rel P (hereO o W a'.tmps o'.ds) F' ⟨m.n, kp⟩ (ltD bs'.length) p3 c3 F2 (zipS live vs') (zipB 0 bs') a2 W2 := hr4
      have hb : Rel P o F0 m (ltD bs'.length) p3 c3 F2 (zipS live vs') (zipB 0 bs') a W2 := by
        refine hrW.back hr5 fun t v ht => ?_
        have hlt := hlive t (zipS_mem ht)
        have h6 := hr5.slots t v ht
        rw [hr5.keep t hlt] at h6
        have e : (hereO o W a'.tmps o'.ds).gh = a'.tmps := rfl
        rw [e, hkeep t hlt] at h6
        exact h6
      have hcells : ∀ g j, F' g j → W2.cell? ⟨g, j, none⟩ = W.cell? ⟨g, j, none⟩ := fun g j hj => hr5.cell g j hj
      refine ⟨⟨vs', bs', p3, c3, _, hok, ?_, ?_, hb.shrink (G := F') (fun g j hj => hrW.sub g j hj), hno⟩, ⟨hr5.below.size, fun k ob hk hob hcl => ?_⟩, fun g j hj => hcells g j (hF2 g j hj)⟩
      · rintro g j ⟨_, hG | hS⟩
        · exact (hF1 g j hG).imp id fun h => by rw [hcells g j hG]; exact h
        · exact .inr hS
      · intro g j hj
        exact ⟨hr5.sub g j (hF2 g j hj), .inl (hF2 g j hj)⟩
      · have hklt : k < W.heap.size := (Array.getElem?_eq_some_iff.1 hob).1
        rw [hr5.below.block k (hereO_not hklt (by rintro ⟨cs, t, fr, hc⟩; rw [hob] at hc; cases hc; cases hcl))]
        exact hob
    refine wpIn_rangeFunc_ownH (F := wideR none) rfl (hn rfl) (gf := f) (lb := lb) hgv trivial hseq.1
      (hseq.2 w F lb (n - 1) hlb (fun j hj => (hcs j hj).of_no) hFlt) (fun h k => fun g j hj => (k g j hj).trans (h g j hj))
      (fun W l ob ob' hl hw _ _ g j hj => World.cell?_of_block (w := W) (a := ⟨g, j, none⟩) (World.putObj_heap_other (by have := hFlt g j hj; show g ≠ l; omega)))
      (Below.refl _ _) (fun x => by simp only [List.size_toArray]; exact henc x.1)
      (fun (pre : List {x // x ∈ xs}) W => St (I (pre.map (·.1))) W)
      (fun cd (pre : List {x // x ∈ xs}) W => ∃ e, (match e with | AX.norm => False | .exit i => cd = .exit i | .ret => cd = .ret) ∧ St (fun vs bs => pre.map (·.1) <+: xs → K e (zipS live vs) (zipB 0 bs) bs.length) W)
      (hSt fun (pre : List {x // x ∈ xs}) => I (pre.map (·.1)))
      (fun cd s W W' row hs hgr hrow => by
        obtain ⟨e, h1, h2⟩ := hs
        exact ⟨e, h1, hSt (fun (_ : Unit) => fun vs bs => s.map (·.1) <+: xs → K e (zipS live vs) (zipB 0 bs) bs.length) () W W' row h2 hgr hrow⟩)
      ⟨vs0, bs0, p0', c0', F, hI0, fun g j hj => .inl (hFlt g j hj), fun _ _ h => h, hr1, hn0⟩
      (fun x a' _ => a'.tmps.size = m.n ∧ (∀ t, t < kp → a'.tmps.getD t undef = a.tmps.getD t undef) ∧ ∃ sl1, (∀ t u, slotOf sl1 t = .ex u → a'.tmps.getD t undef = u) ∧
        ∀ pre vs bs, (∀ y, y ∈ pre → y ∈ xs) → pre.length < xs.length → I pre vs bs → avc P (Sound P) ⟨m.n, kp⟩ body (zipEx sl1 av (zipS live vs)) (zipB 0 bs) bs.length fun e sl2 h2 nx2 => match e with
          | .norm => canonK live th sl2 h2 nx2 fun vs bs => noOb bs (I (pre ++ [x.1]) vs bs)
          | .exit i => canonK live th sl2 h2 nx2 fun vs bs => noOb bs (pre ++ [x.1] <+: xs → K (.exit i) (zipS live vs) (zipB 0 bs) bs.length)
          | .ret => canonK live th sl2 h2 nx2 fun vs bs => noOb bs (pre ++ [x.1] <+: xs → K .ret (zipS live vs) (zipB 0 bs) bs.length))
      (fun x a' s W W' row hs _ _ => hs) ?assign ?body ?done ?stop
    case assign =>
      intro l pre x W KK hI hKK
      obtain ⟨vs, bs, pW, cW, F', h1, h2, h3, h4, h5⟩ := id hI
      have hsz : a.tmps.size = m.n := hr.size
      have hfold : (ps.zip (enc x.1).toArray).foldl (fun t (pv : Tmp × Value) => t.setIfInBounds pv.1 pv.2) a.tmps = putPs ps.toList (enc x.1) a.tmps := by
        rw [← putPs_zip]
        obtain ⟨psl⟩ := ps
        simp
      rw [hfold]
      have hrel : Rel P ⟨W, fun _ => False, putPs ps.toList (enc x.1) a.tmps, []⟩ (fun _ _ => False) ⟨m.n, kp⟩ (ltD 0) p0 c0 (fun _ _ => False) (exS ps.toList (enc x.1)) [] { tmps := putPs ps.toList (enc x.1) a.tmps, defers := [] } W := by
        refine ⟨fun t v ht => ?_, by rw [putPs_size]; exact hsz, fun t _ => rfl, rfl, fun r b h => by simp [look] at h, fun r r' b b' g h => by simp [look] at h, fun r b g h => by simp [look] at h, fun g j hj => hj.elim, fun r b g j h => by simp [look] at h, fun _ _ h => h, fun g j hj => hj.elim, Held.refl _, fun _ _ _ => rfl, fun r b K g h => by simp [look] at h⟩
        rw [putPs_look ps.toList (enc x.1) a.tmps t v hnd (fun t ht => by rw [hsz]; exact (hps t ht).2) ht]
        exact .ex _ _
      refine avcIn_ok hm assign (r := some l) (.inr hpa) (fun e => by cases e) (fun _ _ _ _ _ h k => h.trans k) (After.refl _ _) (hround x.1 x.2) hrel fun e sl1 hp1 nx1 p1 c1 F1 a1 W1 o1 F01 hA1 hk1 hr1 => ?_
      cases e with
      | exit i => exact hk1.elim
      | ret => exact hk1.elim
      | norm =>
        have hr2 := hA1.rel (fun g j hj => hj.elim) hr1
        have hbl : Below W.heap.size W W1 := below_of hr2.below
        have hgr : W.grownBy W1 none := ⟨hbl.os, hbl.tape, hbl.output, hbl.size, fun k hk _ => hbl.block k hk⟩
        refine hKK a1 W1 ⟨hbl.size, fun k ob _ hk _ => (hbl.block k (Array.getElem?_eq_some_iff.1 hk).1).trans hk⟩ (fun g j hj => World.cell?_of_block (w := W) (a := ⟨g, j, none⟩) (hbl.block g (h4.fr g j (h3 g j hj)).1))
          (hSt (fun (pre : List {x // x ∈ xs}) => I (pre.map (·.1))) pre W W1 none hI hgr (fun r e => by cases e)) ⟨hr2.size, fun t ht => ?_, sl1, fun t u ht => ?_, hk1⟩
        · rw [hr2.keep t ht]
          exact putPs_not _ _ _ _ fun e => by have := (hps t e).1; omega
        · have h6 := hr2.ev_ (.tmp t)
          have e6 : ev sl1 (.tmp t) = slotOf sl1 t := rfl
          rw [e6, ht] at h6
          exact h6.ex_inv
    case body =>
      rintro l pre x a' W _ _ ⟨vs, bs, pW, cW, F', h1, h2, h3, h4, h5⟩ ⟨q1, q2, sl1, q4, q5⟩ hlt
      have hrel := h4.here (zipB_no h5) (sl' := zipEx sl1 av (zipS live vs)) (a' := a') (m' := ⟨m.n, kp⟩) (gh := a'.tmps) (fun t v ht => by
        rcases zipEx_look ht with ⟨u, rfl, hu⟩ | hk
        · rw [q4 t u hu]; exact .ex _ _
        · rw [q2 t (hlive t (zipS_mem hk))]; exact h4.slots t v hk) q1 (fun _ _ => rfl)
      have hmem : ∀ y, y ∈ pre.map (·.1) → y ∈ xs := fun y hy => by
        obtain ⟨z, _, rfl⟩ := List.mem_map.1 hy
        exact z.2
      refine avcIn_ok hm body (r := some l) (.inr hpb) (fun e => by cases e) (fun _ _ _ _ _ h k => h.trans k) (After.refl _ _) (q5 (pre.map (·.1)) vs bs hmem (by simpa using hlt) h1) hrel fun e sl2 hp2 nx2 p2 c2 F2 a2 W2 o2 F02 hA2 hk2 hr2 => ?_
      have em : (pre ++ [x]).map (·.1) = pre.map (·.1) ++ [x.1] := by simp
      cases e with
      | norm =>
        obtain ⟨k1, k2, k3⟩ := out _ h2 h3 h4 q2 hA2 hr2 hk2
        exact ⟨k2, k3, show St (I ((pre ++ [x]).map (·.1))) W2 by rw [em]; exact k1⟩
      | exit i =>
        obtain ⟨k1, k2, k3⟩ := out _ h2 h3 h4 q2 hA2 hr2 hk2
        exact ⟨k2, .exit i, rfl, show St (fun vs bs => (pre ++ [x]).map (·.1) <+: xs → K (.exit i) (zipS live vs) (zipB 0 bs) bs.length) W2 by rw [em]; exact k1⟩
      | ret =>
        obtain ⟨k1, k2, k3⟩ := out _ h2 h3 h4 q2 hA2 hr2 hk2
        exact ⟨k2, .ret, rfl, show St (fun vs bs => (pre ++ [x]).map (·.1) <+: xs → K .ret (zipS live vs) (zipB 0 bs) bs.length) W2 by rw [em]; exact k1⟩
    case done =>
      rintro D ys W hD hS ⟨vs, bs, pW, cW, F', h1, h2, h3, h4, h5⟩ hK
      have hnc : ¬ cellsAt W D := by rintro ⟨cs, t, fr, hc⟩; rw [hK] at hc; cases hc
      rw [hS] at h1
      have hdl : D < W.heap.size := (Array.getElem?_eq_some_iff.1 hK).1
      have hrel := h4.here (zipB_no h5) (sl' := zipS live vs) (a' := { a with defers := markD D :: a.defers }) (m' := m) (gh := o.gh) (fun t v ht => h4.slots t v ht) h4.size h4.keep
      refine hQ .norm _ _ _ _ _ _ _ _ _ _ (hcl rfl _ _ _ _ hA ⟨hereO_mine h4.below.size, rfl, fun w' hw' => hereO_held h4.below hw', h4.sub, fun g j hj => (h4.fr g j hj).2, h4.cell, [D], by rw [← hr.defers]; rfl, List.pairwise_singleton .., fun D' hD' => ?_⟩) (hend vs bs h1) hrel
      obtain rfl : D' = D := by simpa using hD'
      exact ⟨Nat.le_trans hL hD, hK, hereO_not hdl hnc⟩
    case stop =>
      rintro D cd pre W hD hSp ⟨e, he, vs, bs, pW, cW, F', h1, h2, h3, h4, h5⟩ hK
      have hnc : ¬ cellsAt W D := by rintro ⟨cs, t, fr, hc⟩; rw [hK] at hc; cases hc
      have hdl : D < W.heap.size := (Array.getElem?_eq_some_iff.1 hK).1
      have hrel := h4.here (zipB_no h5) (sl' := zipS live vs) (a' := { a with defers := markD D :: a.defers }) (m' := m) (gh := o.gh) (fun t v ht => h4.slots t v ht) h4.size h4.keep
      have hAf : Af (hereO o W o.gh (markD D :: a.defers)) F' := hcl rfl _ _ _ _ hA ⟨hereO_mine h4.below.size, rfl, fun w' hw' => hereO_held h4.below hw', h4.sub, fun g j hj => (h4.fr g j hj).2, h4.cell, [D], by rw [← hr.defers]; rfl, List.pairwise_singleton .., fun D' hD' => by
        obtain rfl : D' = D := by simpa using hD'
        exact ⟨Nat.le_trans hL hD, hK, hereO_not hdl hnc⟩⟩
      cases e with
      | norm => exact he.elim
      | exit i =>
        have he : cd = .exit i := he
        subst he
        exact wpIn_exit (hQ (.exit i) _ _ _ _ _ _ _ _ _ _ hAf (h1 hSp) hrel)
      | ret =>
        have he : cd = .ret := he
        subst he
        exact wpIn_ret (hQ .ret _ _ _ _ _ _ _ _ _ _ hAf (h1 hSp) hrel)
  | .goto _, _, _, _, _, _, _, _, _, _, _, _, _, _, _, _, _, _, _, _, _, hk, _, _ => hk.elim
  | .refuse _, _, _, _, _, _, _, _, _, _, _, _, _, _, _, _, _, _, _, _, _, hk, _, _ => hk.elim
end

section
variable {P : Program} {w : World} {w0 : Ori} {D : Nat → Prop} {p : Nat → Option Nat} {c : Nat → Nat} {F F0 : Nat → Nat → Prop} {m : Fr} {sl : Sl} {h : Hp} {a : Act}
theorem startS_look : ∀ {args : List AV} {i t : Nat} {v : AV}, look (startS i args) t = some v → i ≤ t ∧ args[t - i]? = some v
  | [], i, t, v, h => by simp [startS, look] at h
  | u :: args, i, t, v, h => by
    simp only [startS] at h
    rw [look_cons] at h
    by_cases e : i = t
    · subst e; rw [if_pos rfl] at h; injection h with h; subst h; exact ⟨Nat.le_refl _, by simp⟩
    · rw [if_neg e] at h
      obtain ⟨h1, h2⟩ := startS_look h
      refine ⟨by omega, ?_⟩
      have : t - i = (t - (i + 1)) + 1 := by omega
      rw [this]; simpa using h2
/-- one result variable, read -/
def varOk (P : Program) (tmps : Array Value) (w : World) (x : ResultVar) (u : Value) : Prop := (match x with
  | .tmp t => (pure (tmps.getD t undef) : Sem Value)
  | .cell a t => do loadVar t (← asAddr (tmps.getD a undef))).run P w = .ok u w
theorem resV_ok {x : ResultVar} {k : AV → Prop} (hr : Rel P w0 F0 m D p c F sl h a w) (hk : resV P sl h x k) : ∃ v u, k v ∧ varOk P a.tmps w x u ∧ Rep w p c F D v u := by
  cases x with
  | tmp t => exact ⟨_, _, hk, rfl, hr.ev_ (.tmp t)⟩
  | cell q t =>
    unfold resV at hk
    simp only at hk
    split at hk
    · rename_i r off hs
      split at hk
      · rename_i cs fz pu hb
        obtain ⟨v, hv, hl⟩ := loadA_ok (g := 0) (o := 0) hk
        have h1 := hr.slots q _ (slotOf_look hs (by simp))
        obtain ⟨g, hd, hp, he⟩ := h1.ptr_inv
        obtain ⟨u, k1, k2⟩ := hl w D p c F g 0 ((hr.live r _ (blk_look hb)).2.cells hp)
        rw [Nat.zero_add] at k1
        refine ⟨v, u, hv, ?_, k2⟩
        unfold varOk
        simp only [he, asAddr, Sem.run_bind, Sem.run_pure, Result.andThen_ok, k1]
      · exact hk.elim
    · exact hk.elim
/-- a value that is handed back, when what it shows is frozen -/
theorem give_ok {v r : AV} {u : Value} {heap : Hp} (hr : Rel P w0 F0 m D p c F sl heap a w) (hv : ViewF h heap) (hk : give h v r) (hu : Rep w p c F D v u) :
    ∃ heap' F', Rel P w0 F0 m D p c F' sl heap' a w ∧ ViewF h heap' ∧ (∀ g j, F g j → F' g j) ∧ (noOwn r = true → Rep w p c F' noD r u) := by
  have pkV : ∀ {v' : AV} {fr : List Nat}, packV h v = some (v', fr) → ∃ heap' F', Rel P w0 F0 m D p c F' sl heap' a w ∧ ViewF h heap' ∧ (∀ g j, F g j → F' g j) ∧ Rep w p c F' noD v' u := by
    intro v' fr h1
    obtain ⟨F1, g1, g2, g3, g4⟩ := hr.freezes_ fr hv
    refine ⟨_, F1, g1, g3, g2, packV_ok (P := P) h1 (hu.mono ⟨fun i hi => ⟨hi, rfl, rfl⟩, g2, fun _ _ _ => rfl⟩) (fun q b hb => ?_) g4⟩
    obtain ⟨f, k1, _⟩ := hv q b hb
    have := (hr.live q _ k1).2.mono (hr.live q _ k1).1 (w' := w) (D' := D) (p' := p) (c' := c) (F' := F1) ⟨fun i hi => ⟨hi, rfl, rfl⟩, g2, fun _ _ _ => rfl⟩ fun _ _ => rfl
    unfold BlkOk at this ⊢
    exact this
  have pk : ∀ {v' : AV} {fr : List Nat}, packV h v = some (v', fr) → v' = r → ∃ heap' F', Rel P w0 F0 m D p c F' sl heap' a w ∧ ViewF h heap' ∧ (∀ g j, F g j → F' g j) ∧ (noOwn r = true → Rep w p c F' noD r u) := by
    intro v' fr h1 h2
    subst h2
    obtain ⟨heap', F', q1, q2, q3, q4⟩ := pkV h1
    exact ⟨heap', F', q1, q2, q3, fun _ => q4⟩
  have nilv : u = .slice none 0 0 → r = .vs 0 [] → ∃ heap' F', Rel P w0 F0 m D p c F' sl heap' a w ∧ ViewF h heap' ∧ (∀ g j, F g j → F' g j) ∧ (noOwn r = true → Rep w p c F' noD r u) := by
    rintro rfl rfl
    exact ⟨heap, F, hr, hv, fun _ _ h => h, fun _ => .vnil _⟩
  unfold give at hk
  split at hk
  · exact ⟨heap, F, hr, hv, fun _ _ h => h, fun h => by cases h⟩
  · split at hk
    · obtain ⟨rfl, rfl⟩ := hk
      exact nilv hu.ex_inv rfl
    · split at hk
      · rename_i v' fr hp; exact pk hp hk
      · exact hk.elim
  · rename_i b cs
    split at hk
    · rename_i b' cs'
      obtain ⟨rfl, rfl⟩ := hk
      refine ⟨heap, F, hr, hv, fun _ _ h => h, fun _ => ?_⟩
      rcases hu.pt_inv with ⟨rfl, rfl⟩ | ⟨rfl, g, q, u, rfl, h2⟩
      · exact .pt0 _ _
      · exact .pt1 _ _ g q u h2.1 h2.2
    · subst hk
      rw [hu.ex_inv]
      exact ⟨heap, F, hr, hv, fun _ _ h => h, fun _ => .pt0 _ _⟩
    · split at hk
      · rename_i cs' fr hp
        obtain ⟨rfl, rfl⟩ := hk
        obtain ⟨heap', F', q1, q2, q3, q4⟩ := pkV hp
        refine ⟨heap', F', q1, q2, q3, fun _ => ?_⟩
        obtain ⟨g, q, u, rfl, h2⟩ := q4.vp_inv
        exact .pt1 _ _ g q u h2.1 h2.2
      · exact hk.elim
  · split at hk
    · rename_i v' fr hp; exact pk hp hk
    · exact hk.elim
theorem give_own {v : AV} {u : Value} {heap : Hp} {e n : Nat} {ds : List AV} (hr : Rel P w0 F0 m D p c F sl heap a w) (hv : ViewF h heap) (hk : give h v (.own e n ds)) (hu : Rep w p c F D v u) {base : Nat} (hbase : ∀ g, w0.mine g → base ≤ g) :
    OwnOk P base w p0 c0 F e n ds u := by
  unfold give at hk
  simp only at hk
  split at hk
  · rename_i q k
    split at hk
    · rename_i cs e' fz hb
      obtain ⟨rfl, rfl, rfl⟩ := hk
      obtain ⟨hd, hn, rfl⟩ := hu.sl_inv
      obtain ⟨f, k1, _⟩ := hv q _ hb
      have hB := (hr.live q _ k1).2
      cases hp : p q with
      | none =>
        unfold BlkOk at hB
        rw [hp] at hB
        obtain ⟨q1, q2, _⟩ := hB
        simp only at q1
        refine .inl ⟨?_, by omega, q1⟩
        have : n = 0 := by omega
        rw [q2, this]; rfl
      | some g =>
        obtain ⟨us, t, fr, b1, b2, b3, b4, b5⟩ := hB.at hp
        obtain ⟨rfl, b5b, b5c⟩ := b5 _ rfl
        exact .inr ⟨g, c q, us, fr, rfl, hbase g (hr.own q _ g k1 hp), hn, b5c, b1, b2, b5b, b3, fun j hj => (b4 j hj).of_no, fun j hj => (hr.fz q _ g j k1 hp hj).2⟩
    · exact hk.elim
  · obtain ⟨rfl, rfl⟩ := hk
    exact .inl ⟨hu.ex_inv, rfl, rfl⟩
  · exact hk.elim
/-- all results, read and handed back -/
theorem giveL_ok : ∀ {xs : List ResultVar} {rs : List AV} {heap : Hp} {F : Nat → Nat → Prop}, Rel P w0 F0 m D p c F sl h a w → giveL P sl h xs rs → ∀ {F1 : Nat → Nat → Prop} {heap : Hp}, Rel P w0 F0 m D p c F1 sl heap a w → ViewF h heap → (∀ g j, F g j → F1 g j) →
    ∃ (us : List Value) (vs : List AV) (heap' : Hp) (F' : Nat → Nat → Prop), us.length = rs.length ∧ vs.length = rs.length ∧ xs.length = rs.length ∧ Rel P w0 F0 m D p c F' sl heap' a w ∧ ViewF h heap' ∧ (∀ g j, F1 g j → F' g j) ∧
      (∀ j (x : ResultVar), xs[j]? = some x → varOk P a.tmps w x (us.getD j undef)) ∧ (∀ j (hj : j < rs.length), noOwn rs[j] = true → Rep w p c F' noD rs[j] (us.getD j undef)) ∧
      (∀ j (hj : j < rs.length), give h (vs.getD j .unk) rs[j] ∧ Rep w p c F D (vs.getD j .unk) (us.getD j undef))
  | [], [], _, F, hr, hk, F1, heap, hr1, hv, hF => ⟨[], [], heap, F1, rfl, rfl, rfl, hr1, hv, fun _ _ h => h, fun j x h => by simp at h, fun j h => by simp at h, fun j h => by simp at h⟩
  | [], _ :: _, _, F, hr, hk, F1, heap, hr1, hv, hF => hk.elim
  | _ :: _, [], _, F, hr, hk, F1, heap, hr1, hv, hF => hk.elim
  | x :: xs, r :: rs, heap0, F, hr, hk, F1, heap, hr1, hv, hF => by
    obtain ⟨v, u, k1, k2, k3⟩ := resV_ok hr hk.1
    obtain ⟨heap2, F2, g1, g2, g3, g4⟩ := give_ok hr1 hv k1 (k3.mono ⟨fun i hi => ⟨hi, rfl, rfl⟩, hF, fun _ _ _ => rfl⟩)
    obtain ⟨us, vs, heap3, F3, l1, l2, l3, q1, q2, q3, q4, q5, q6⟩ := giveL_ok (heap := heap0) hr hk.2 g1 g2 (fun g j hj => g3 g j (hF g j hj))
    refine ⟨u :: us, v :: vs, heap3, F3, by simp [l1], by simp [l2], by simp [l3], q1, q2, fun g j hj => q3 g j (g3 g j hj), fun j y hy => ?_, fun j hj hn => ?_, fun j hj => ?_⟩
    · cases j with
      | zero => simp at hy; subst hy; exact k2
      | succ j => exact q4 j y (by simpa using hy)
    · cases j with
      | zero => exact (g4 hn).mono ⟨fun i hi => hi.elim, q3, fun _ _ _ => rfl⟩
      | succ j => exact q5 j (Nat.lt_of_succ_lt_succ hj) hn
    · cases j with
      | zero => exact ⟨k1, k3⟩
      | succ j => exact q6 j (Nat.lt_of_succ_lt_succ hj)
theorem noOwnL_spec : ∀ {l : List AV}, noOwnL l = true → ∀ j (h : j < l.length), noOwn l[j] = true
  | [], _, j, h => by simp at h
  | v :: l, hl, j, h => by
    simp only [noOwnL, Bool.and_eq_true] at hl
    cases j with
    | zero => exact hl.1
    | succ j => exact noOwnL_spec hl.2 j (Nat.lt_of_succ_lt_succ h)
theorem repRL_ok {base : Nat} : ∀ {rs : List AV} {us : List Value}, oneOwn rs = true → us.length = rs.length → (∀ j (hj : j < rs.length), noOwn rs[j] = true → Rep w p0 c0 F noD rs[j] (us.getD j undef)) →
    (∀ j (hj : j < rs.length) e n ds, rs[j] = .own e n ds → OwnOk P base w p0 c0 F e n ds (us.getD j undef)) → RepRL P base w p0 c0 F rs us
  | [], [], _, _, _, _ => trivial
  | [], _ :: _, _, h, _, _ => by simp at h
  | _ :: _, [], _, h, _, _ => by simp at h
  | v :: rs, u :: us, h1, h2, h3, h4 => by
    unfold oneOwn at h1
    cases hv : noOwn v with
    | true =>
      rw [hv] at h1
      have ih := repRL_ok (us := us) h1 (by simpa using h2) (fun j hj => h3 (j + 1) (Nat.succ_lt_succ hj)) (fun j hj => h4 (j + 1) (Nat.succ_lt_succ hj))
      have h0 := h3 0 (Nat.zero_lt_succ _) hv
      cases v <;> first | exact ⟨h0, ih⟩ | cases hv
    | false =>
      rw [hv] at h1
      cases v with
      | own e n ds => exact ⟨h4 0 (Nat.zero_lt_succ _) e n ds rfl, by simpa using h2, fun j hj => h3 (j + 1) (Nat.succ_lt_succ hj) (noOwnL_spec h1 j hj)⟩
      | _ => cases hv
theorem mapM_ok {tmps : Array Value} : ∀ {xs : List ResultVar} {us : List Value}, us.length = xs.length → (∀ j (x : ResultVar), xs[j]? = some x → varOk P tmps w x (us.getD j undef)) →
    (xs.mapM (m := Sem) fun
      | .tmp t => pure (tmps.getD t undef)
      | .cell a t => do loadVar t (← asAddr (tmps.getD a undef))).run P w = .ok us w
  | [], [], _, _ => rfl
  | [], _ :: _, h, _ => by simp at h
  | _ :: _, [], h, _ => by simp at h
  | x :: xs, u :: us, h, hk => by
    have h0 := hk 0 x rfl
    have ih := mapM_ok (us := us) (by simpa using h) (fun j y hy => hk (j + 1) y (by simpa using hy))
    unfold varOk at h0
    have e : (u :: us).getD 0 undef = u := rfl
    rw [e] at h0
    rw [List.mapM_cons, Sem.run_bind]
    cases x with
    | tmp t =>
      simp only at h0 ⊢
      rw [h0, Result.andThen_ok, Sem.run_bind, ih]
      rfl
    | cell q t =>
      simp only at h0 ⊢
      rw [h0, Result.andThen_ok, Sem.run_bind, ih]
      rfl
theorem results_ok {fn : Func} {tmps : Array Value} {us : List Value} (h : us.length = fn.results.toList.length) (hk : ∀ j (x : ResultVar), fn.results.toList[j]? = some x → varOk P tmps w x (us.getD j undef)) :
    (results fn tmps).run P w = .ok (match us with | [u] => u | us => .tuple us.toArray) w := by
  have h1 := mapM_ok h hk
  unfold results
  rw [Sem.run_bind, Array.mapM_eq_mapM_toList]
  have h2 : ((Functor.map List.toArray <| fn.results.toList.mapM (m := Sem) fun
      | .tmp t => pure (tmps.getD t undef)
      | .cell a t => do loadVar t (← asAddr (tmps.getD a undef))) : Sem (Array Value)).run P w = .ok us.toArray w := by
    rw [map_eq_pure_bind, Sem.run_bind, h1]; rfl
  refine Eq.trans (congrArg (fun z : Result (Array Value) => z.andThen fun a w' => Sem.run P (pure (if h : a.size = 1 then a[0] else Value.tuple a)) w') h2) ?_
  simp only [Result.andThen_ok]
  match us with
  | [] => rfl
  | [u] => rfl
  | u :: v :: us => simp
end
/-- What abody tells is Sound. -/
theorem sound_of {P : Program} {f : FuncId} {fn : Func} {args : List AV} {r : AV} (hm : P.follows .mixedOrders = true) (hf : P.funcs[f]? = some fn) (hen : ∀ (xs : Array Value) (w : World), (callFunc f xs).run P w = .ok (.enter f xs) w)
    (hle : args.length ≤ fn.ntmps) (hk : abody P (Sound P) fn args r) : Sound P f args r := by
  refine ⟨hen, fun w F xs hs hr hF => ?_⟩
  unfold abody at hk
  split at hk
  case h_2 => exact hk.elim
  rename_i code hb
  refine callsIn_wide.1 (callsIn_of_wp_marks (F := Fence.wide) (n := 9) hf hb trivial ?_ rfl)
  have hrel : Rel P ⟨w, fun _ => False, #[], []⟩ F ⟨fn.ntmps, 0⟩ (ltD 0) p0 c0 F (startS 0 args) [] { tmps := xs ++ Array.replicate (fn.ntmps - xs.size) undef, defers := [] } w := by
    refine ⟨fun t v ht => ?_, by simp; omega, fun t ht => absurd ht (Nat.not_lt_zero _), rfl, fun r b h => by simp [look] at h, fun r r' b b' g h => by simp [look] at h, fun r b g h => by simp [look] at h, fun g j hj => ⟨hF g j hj, .inl hj⟩, fun r b g j h => by simp [look] at h, fun _ _ h => h, hF, Held.refl _, fun _ _ _ => rfl, fun r b K g h => by simp [look] at h⟩
    obtain ⟨_, h2⟩ := startS_look ht
    rw [Nat.sub_zero] at h2
    obtain ⟨hlt, he⟩ := List.getElem?_eq_some_iff.1 h2
    have := hr t hlt
    rw [he] at this
    have e : (xs ++ Array.replicate (fn.ntmps - xs.size) undef).getD t undef = xs.getD t undef := by
      rw [Array.getD_eq_getD_getElem?, Array.getElem?_append_left (by omega), Array.getD_eq_getD_getElem?]
    rw [e]; exact this.of_no
  refine avcIn_ok hm code (r := none) (n := 9) (.inl rfl) (fun _ => by omega) (fun _ _ _ _ _ h k => h.trans k) (After.refl _ _) hk hrel fun e sl' h' nx' p' c' F' a' w' o' F0' hA h1 h2 => ?_
  obtain ⟨new, e1, e2, e3⟩ := hA.ds
  have e3' : ∀ d ∈ new, w.heap.size ≤ d ∧ w'.heap[d]? = some (.deferred (some [])) := fun d hd => ⟨(e3 d hd).1, (h2.below.block d (e3 d hd).2.2).trans (e3 d hd).2.1⟩
  have hds : a'.defers = new.map markD := h2.defers.trans (e1.trans (List.append_nil _))
  obtain ⟨F', h2⟩ := (hA.rel (fun g j hj => hF g j hj) h2).shut new e2 e3'
  have lv := fun R => leaves_marks (P := P) (fn := fn) (tmps := a'.tmps) (R := R) new e2 fun d hd => (e3' d hd).2
  rw [← hds] at lv
  generalize shut new w' = w2 at h2 lv
  generalize o'.ds = ds at h2
  have fin : aret P fn sl' h' r → ∃ v, (results fn a'.tmps).run P w2 = .ok v w2 ∧ (∃ v' F'', Ending.returned v = .returned v' ∧ Below w.heap.size w w2 ∧ (∀ g j, F g j → F'' g j) ∧ (∀ g j, F'' g j → F g j ∨ (w.heap.size ≤ g ∧ g < w2.heap.size)) ∧ RepR P w.heap.size w2 p0 c0 F'' r v') := by
    intro h1
    have hbel : Below w.heap.size w w2 := ⟨h2.below.os, h2.below.tape, h2.below.output, h2.below.size, fun k hk => h2.below.block k (by rintro (e | e); exact absurd e (Nat.not_le.2 hk); exact e)⟩
    have hbase : ∀ g, (Ori.mk w (fun _ => False) #[] ds).mine g → w.heap.size ≤ g := by rintro g (e | e); exact e; exact e.elim
    have frame : ∀ {F'' : Nat → Nat → Prop} {heap : Hp}, Rel P ⟨w, fun _ => False, #[], ds⟩ F ⟨fn.ntmps, 0⟩ (ltD nx') p' c' F'' sl' heap a' w2 → (∀ g j, F'' g j → F g j ∨ (w.heap.size ≤ g ∧ g < w2.heap.size)) := by
      intro F'' heap hR g j hj
      obtain ⟨q1, q2⟩ := hR.fr g j hj
      rcases q2 with q2 | q2
      · exact .inl q2
      · exact .inr ⟨hbase g q2, q1⟩
    unfold aret at h1
    split at h1
    · rename_i x hx
      obtain ⟨us, vs, heap', F'', l1, l2, l3, q1, q2, q3, q4, q5, q6⟩ := giveL_ok (xs := [x]) (rs := [r]) (heap := h') h2 ⟨h1, trivial⟩ h2 (viewF_of fun r b hb => blk_look hb) (fun _ _ h => h)
      match us, l1 with
      | [u], _ =>
        have hres := results_ok (fn := fn) (tmps := a'.tmps) (us := [u]) (by rw [hx]; rfl) (fun j y hy => q4 j y (by rw [hx] at hy; exact hy))
        refine ⟨u, hres, u, F'', rfl, hbel, fun g j hj => q3 g j (h2.sub g j hj), frame q1, ?_⟩
        have h5 := q5 0 (by simp)
        have h6 := q6 0 (by simp)
        simp only [List.getElem_cons_zero] at h5 h6
        have plain : noOwn r = true → Rep w2 p0 c0 F'' noD r u := fun hn => (h5 hn).of_no
        cases r with
        | own e n ds => exact give_own q1 q2 h6.1 (h6.2.mono ⟨fun i hi => ⟨hi, rfl, rfl⟩, q3, fun _ _ _ => rfl⟩) hbase
        | tup rs =>
          obtain ⟨us', rfl, k1, k2⟩ := (plain rfl).tup_inv
          have hno : noOwnL rs = true := by
            have : ∀ (l : List AV) (z : List Value), z.length = l.length → (∀ j (h : j < l.length), Rep w2 p0 c0 F'' noD l[j] (z.getD j undef)) → noOwnL l = true := by
              intro l
              induction l with
              | nil => intro _ _ _; rfl
              | cons v l ih =>
                intro z hz hl
                cases z with
                | nil => simp at hz
                | cons y z =>
                  simp only [noOwnL, Bool.and_eq_true]
                  refine ⟨?_, ih z (by simpa using hz) fun j h => hl (j + 1) (Nat.succ_lt_succ h)⟩
                  have := hl 0 (Nat.zero_lt_succ _)
                  cases v <;> first | rfl | (cases this)
            exact this rs us'.toList (by simpa using k1) fun j h => by have := k2 j h; simpa [List.getD] using this
          have hone : oneOwn rs = true := by
            have : ∀ l : List AV, noOwnL l = true → oneOwn l = true := by
              intro l
              induction l with
              | nil => intro _; rfl
              | cons v l ih =>
                intro h
                simp only [noOwnL, Bool.and_eq_true] at h
                unfold oneOwn; rw [h.1]; exact ih h.2
            exact this rs hno
          refine ⟨us'.toList, by simp, repRL_ok hone (by simpa using k1) (fun j hj _ => by have := k2 j hj; simpa [List.getD] using this) fun j hj e n ds he => ?_⟩
          have := noOwnL_spec hno j hj
          rw [he] at this; cases this
        | _ => exact plain rfl
    · rename_i hx
      split at h1
      case h_2 => exact h1.elim
      rename_i rs
      split at h1
      case h_2 => exact h1.elim
      rename_i hone
      obtain ⟨us, vs, heap', F'', l1, l2, l3, q1, q2, q3, q4, q5, q6⟩ := giveL_ok (heap := h') h2 h1 h2 (viewF_of fun r b hb => blk_look hb) (fun _ _ h => h)
      have hres := results_ok (fn := fn) (tmps := a'.tmps) (us := us) (l1.trans l3.symm) q4
      have hn1 : ∀ u, us ≠ [u] := by
        rintro u rfl
        have hl : fn.results.toList.length = 1 := by rw [l3, ← l1]; rfl
        match hm2 : fn.results.toList, hl with
        | [x], _ => exact hx x hm2
      have e : (match us with | [u] => u | us => Value.tuple us.toArray) = .tuple us.toArray := by
        match us, hn1 with
        | [], _ => rfl
        | [u], h => exact absurd rfl (h u)
        | u :: v :: us, _ => rfl
      rw [e] at hres
      refine ⟨_, hres, _, F'', rfl, hbel, fun g j hj => q3 g j (h2.sub g j hj), frame q1, us, rfl, repRL_ok hone l1 (fun j hj hn => (q5 j hj hn).of_no) fun j hj e n ds he => ?_⟩
      have h6 := q6 j hj
      rw [he] at h6
      exact give_own q1 q2 h6.1 (h6.2.mono ⟨fun i hi => ⟨hi, rfl, rfl⟩, q3, fun _ _ _ => rfl⟩) hbase
  cases e with
  | norm => exact lv _ (fin h1)
  | exit i => exact h1.elim
  | ret => exact lv _ (fin h1)
section
variable {P : Program} {w : World} {w0 : Ori} {D : Nat → Prop} {p : Nat → Option Nat} {c : Nat → Nat} {F F0 : Nat → Nat → Prop} {m : Fr} {sl : Sl} {h : Hp} {a : Act}
theorem resLK_ok : ∀ {xs : List ResultVar} {k : List AV → Prop}, Rel P w0 F0 m D p c F sl h a w → resLK P sl h xs k → ∃ (vs : List AV) (us : List Value), k vs ∧ vs.length = xs.length ∧ us.length = xs.length ∧ (∀ j (x : ResultVar), xs[j]? = some x → varOk P a.tmps w x (us.getD j undef)) ∧ (∀ j (hj : j < vs.length), Rep w p c F D vs[j] (us.getD j undef))
  | [], k, hr, hk => ⟨[], [], hk, rfl, rfl, fun j x h => by simp at h, fun j h => by simp at h⟩
  | x :: xs, k, hr, hk => by
    obtain ⟨v, u, h1, h2, h3⟩ := resV_ok hr hk
    obtain ⟨vs, us, k1, k2, k3, k4, k5⟩ := resLK_ok hr h1
    refine ⟨v :: vs, u :: us, k1, by simp [k2], by simp [k3], fun j y hy => ?_, fun j hj => ?_⟩
    · cases j with
      | zero => simp at hy; subst hy; exact h2
      | succ j => exact k4 j y (by simpa using hy)
    · cases j with
      | zero => exact h3
      | succ j => exact k5 j (Nat.lt_of_succ_lt_succ hj)
theorem slotsN_length (sl : Sl) : ∀ (i n : Nat), (slotsN sl i n).length = n
  | _, 0 => rfl
  | i, n + 1 => by simp [slotsN, slotsN_length sl (i + 1) n]
theorem slotsN_at (sl : Sl) : ∀ (i n j : Nat) (h : j < (slotsN sl i n).length), (slotsN sl i n)[j] = slotOf sl (i + j)
  | _, 0, j, h => by simp [slotsN] at h
  | i, n + 1, 0, h => rfl
  | i, n + 1, j + 1, h => by
    have := slotsN_at sl (i + 1) n j (by simp only [slotsN, List.length_cons] at h; omega)
    simp only [slotsN, List.getElem_cons_succ]
    rw [this]; congr 1; omega
theorem packR_rep {rs : List AV} {us : List Value} (hl : us.length = rs.length) (h : ∀ j (hj : j < rs.length), Rep w p c F D rs[j] (us.getD j undef)) : Rep w p c F D (packR rs) (match us with | [u] => u | us => .tuple us.toArray) := by
  have gen : Rep w p c F D (.tup rs) (.tuple us.toArray) := .tup _ _ us.toArray (by simpa using hl) fun j hj => by
    have := h j hj
    rw [getD_toArray]
    exact this
  match rs, us, hl with
  | [], [], _ => exact gen
  | [x], [u], _ => exact h 0 (by simp)
  | x :: y :: rs, u :: v :: us, _ => exact gen
theorem zipB_at : ∀ {bs : List ABlk} {i r : Nat} {b : ABlk}, bs[r - i]? = some b → i ≤ r → look (zipB i bs) r = some (some b)
  | [], i, r, b, h, _ => by simp at h
  | b0 :: bs, i, r, b, h, hle => by
    simp only [zipB]
    rw [look_cons]
    by_cases e : i = r
    · subst e
      rw [Nat.sub_self] at h
      simp at h; subst h
      rw [if_pos rfl]
    · rw [if_neg e]
      refine zipB_at ?_ (by omega)
      rw [show r - i = (r - (i + 1)) + 1 by omega] at h
      simpa using h
end
/-- What abodyM tells is SoundM. -/
theorem sound_ofM {P : Program} {f : FuncId} {fn : Func} {args : List AV} {bs : List ABlk} {n : Nat} {rargs : List AV} {r : AV} {bs' : List ABlk} (hm : P.follows .mixedOrders = true) (hf : P.funcs[f]? = some fn) (hen : ∀ (xs : Array Value) (w : World), (callFunc f xs).run P w = .ok (.enter f xs) w)
    (hle : args.length ≤ fn.ntmps) (hn : n ≤ args.length) (hk : abodyM P (Sound P) fn args bs n rargs r bs') : SoundM P f args bs rargs r bs' := by
  refine ⟨hen, fun w p c F xs hs hr hB hF => ?_⟩
  unfold abodyM at hk
  split at hk
  case h_2 => exact hk.elim
  rename_i code hb
  refine callsIn_wide.1 (callsIn_of_wp_marks (F := Fence.wide) (n := 9) hf hb trivial ?_ rfl)
  have tm : ∀ t, t < args.length → (xs ++ Array.replicate (fn.ntmps - xs.size) undef).getD t undef = xs.getD t undef := fun t ht => by
    rw [Array.getD_eq_getD_getElem?, Array.getElem?_append_left (by omega), Array.getD_eq_getD_getElem?]
  have lk : ∀ i b, look (zipB 0 bs) i = some (some b) → bs[i]? = some b := fun i b h => by
    obtain ⟨_, h2⟩ := zipB_look h
    rwa [Nat.sub_zero] at h2
  have hrel : Rel P ⟨w, inM w p bs, xs, []⟩ F ⟨fn.ntmps, n⟩ (ltD bs.length) p c F (startS 0 args) (zipB 0 bs) { tmps := xs ++ Array.replicate (fn.ntmps - xs.size) undef, defers := [] } w := by
    refine ⟨fun t v ht => ?_, by simp; omega, fun t ht => tm t (Nat.lt_of_lt_of_le ht hn), rfl, fun i b h => ⟨(List.getElem?_eq_some_iff.1 (lk i b h)).1, hB.live i b (lk i b h)⟩,
      fun i i' b b' g h1 h2 p1 p2 => hB.inj i i' g (List.getElem?_eq_some_iff.1 (lk i b h1)).1 (List.getElem?_eq_some_iff.1 (lk i' b' h2)).1 p1 p2,
      fun i b g h hp => .inr ⟨i, b, g, lk i b h, hp, .inl rfl⟩, fun g j hj => ⟨hF g j hj, .inl hj⟩, fun i b g j h hp hj => hB.fz i b g j (lk i b h) hp hj, fun _ _ h => h, hF, Held.refl _, fun _ _ _ => rfl, fun i b K g h hK hp => by
        obtain ⟨k1, k2⟩ := hB.ob i b K g (lk i b h) hK hp
        refine ⟨k1, fun x hx => ?_⟩
        obtain ⟨k3, k4, k5⟩ := k2 x hx
        exact ⟨.inr ⟨i, b, g, lk i b h, hp, .inr ⟨K, hK, hx⟩⟩, k3, k4, fun i' b' g' h' hp' hne => k5 i' b' g' (lk i' b' h') hp' hne⟩⟩
    obtain ⟨_, h2⟩ := startS_look ht
    rw [Nat.sub_zero] at h2
    obtain ⟨hlt, he⟩ := List.getElem?_eq_some_iff.1 h2
    have := hr t hlt
    rw [he] at this
    have e := tm t hlt
    simp only [e]
    exact this
  refine avcIn_ok hm code (r := none) (n := 9) (.inl rfl) (fun _ => by omega) (fun _ _ _ _ _ h k => h.trans k) (After.refl _ _) hk hrel fun e sl' h' nx' p' c' F' a' w' o' F0' hA h1 h2 => ?_
  obtain ⟨new, e1, e2, e3⟩ := hA.ds
  have e3' : ∀ d ∈ new, w.heap.size ≤ d ∧ w'.heap[d]? = some (.deferred (some [])) := fun d hd => ⟨(e3 d hd).1, (h2.below.block d (e3 d hd).2.2).trans (e3 d hd).2.1⟩
  have hds : a'.defers = new.map markD := h2.defers.trans (e1.trans (List.append_nil _))
  obtain ⟨F', h2⟩ := (hA.rel (fun g j hj => hF g j hj) h2).shut new e2 e3'
  have lv := fun R => leaves_marks (P := P) (fn := fn) (tmps := a'.tmps) (R := R) new e2 fun d hd => (e3' d hd).2
  rw [← hds] at lv
  generalize shut new w' = w2 at h2 lv
  generalize o'.ds = ds at h2
  have fin : aretM P fn n sl' h' rargs r bs' → ∃ v, (results fn a'.tmps).run P w2 = .ok v w2 ∧ (∃ v' p'' c'' F'', Ending.returned v = .returned v' ∧ Held ⟨w, inM w p bs, #[], []⟩ w2 ∧ (∀ g j, F g j → F'' g j ∧ w2.cell? ⟨g, j, none⟩ = w.cell? ⟨g, j, none⟩) ∧
      (∀ g j, F'' g j → g < w2.heap.size ∧ (F g j ∨ (Ori.mk w (inM w p bs) #[] []).mine g)) ∧ BlksOk P w2 p'' c'' F'' bs' ∧ (∀ i b g x, bs'[i]? = some b → p'' i = some g → foot w2 b g x → (Ori.mk w (inM w p bs) #[] []).mine x) ∧ rargs.length ≤ args.length ∧
      (∀ j (h : j < rargs.length), Rep w2 p'' c'' F'' (ltD bs'.length) rargs[j] (xs.getD j undef)) ∧ Rep w2 p'' c'' F'' (ltD bs'.length) r v') := by
    intro h1
    obtain ⟨rvs, us, k1, k2, k3, k4, k5⟩ := resLK_ok h2 h1
    have hcl := collect_live (h := h') 40 (idsVs (slotsN sl' 0 n ++ rvs)) [] (fun r hr => absurd hr (by simp))
    rw [forceL_eq] at k1
    generalize collect h' 40 (idsVs (slotsN sl' 0 n ++ rvs)) [] = acc at k1 hcl
    split at k1
    case h_2 => exact k1.elim
    rename_i hnd hlen
    have hlen' : (liveB acc h' acc).length = acc.length := Nat.eq_of_beq_eq_true hlen
    obtain ⟨rfl, rfl, rfl⟩ := k1
    have hres := results_ok (fn := fn) (tmps := a'.tmps) (us := us) k3 k4
    have hBs := blks_of (h := h') h2 (fun r b hb => blk_look hb) (nodupN_spec hnd) hlen'
    refine ⟨_, hres, _, pA p' acc, cA c' acc, F', rfl, ⟨h2.below.os, h2.below.tape, h2.below.output, h2.below.size, h2.below.block⟩, fun g j hj => ⟨h2.sub g j hj, h2.cell g j hj⟩, fun g j hj => h2.fr g j hj, hBs.1, fun i b g x hi hp hf => ?_, by rw [renVL_length, slotsN_length]; exact hn, fun j hj => ?_, ?_⟩
    · obtain ⟨r, b, g0, q1, q2, q3, q4⟩ := hBs.2 x ⟨i, b, g, hi, hp, hf⟩
      rcases q4 with rfl | ⟨K, k1, k2⟩
      · exact h2.own r b x q2 q3
      · exact ((h2.ob r b K g0 q2 k1 q3).2 x k2).1
    · rw [renVL_at, slotsN_at, hlen', Nat.zero_add]
      have hj' : j < n := by rw [renVL_length, slotsN_length] at hj; exact hj
      have := h2.keep j hj'
      have h3 := h2.ev_ (.tmp j)
      have e : a'.eval (.tmp j) = a'.tmps.getD j undef := rfl
      rw [e, this] at h3
      exact renV_ok h3
    · rw [hlen']
      exact packR_rep (by rw [renVL_length, k2]; exact k3) fun j hj => by rw [renVL_at]; exact renV_ok (k5 j (by rw [renVL_length] at hj; exact hj))
  cases e with
  | norm => exact lv _ (fin h1)
  | exit i => exact h1.elim
  | ret => exact lv _ (fin h1)
end
end Go.Proofs.Ytdjdcpbakeahcaa.Av
