/- Walks and laws behind the proofs of the given rows of this seat (each: the law returns true whatever the input, and the input reads as it did). Conditions: none. -/
import Derived.Test.YtcmhobabbklnhaaReg
import Derived.RangeFuncNested
import Derived.RangeFuncBound
import Derived.RangeFuncCalls
import Derived.RangeFuncLeaves
import Derived.RangeFuncBox
import Derived.Shelf.Abstract
import Derived.OwnWalkIn
import Derived.TacticsInMore
import Derived.LoopNIn
import Derived.LoopIn
namespace Go.Proofs.Ytcmhobabbklnhaa
open Go.RowKit

/-! a round of a range over a function: its regions are walked as everywhere -/
section
variable {P : Program} {ops : Array Oper} {Q : Exit → Act → World → Prop} {l₀ n : Nat}

abbrev Rn (l₀ : Nat) : Fence := Fence.wide.inRound l₀

theorem rowsIn_rn {row : String} {args : Array Value} {w : World} {R : Value → World → Prop} {m : Nat} (h : Rows P row args w R) : RowsIn (Rn l₀) m P row args w R := by
  intro c cs _
  obtain ⟨v, w', hr, hs⟩ := h c cs
  exact ⟨v, w', hr, (StepsIn.of_steps hs).mono fun m _ => fenced_wide P m⟩

theorem op_rn {o : Oper} {a : Act} {w : World} {K : Act → World → Prop} (hd : ∀ c, o.op ≠ .defer c) (h : o.wp P a w K Q) : o.wpIn (Rn l₀) n P a w K Q := by
  refine ⟨fun _ _ => trivial, ?_⟩
  have e : o.semAt (Rn l₀).round a.eval = execOp a.eval o := Oper.semAt_eq _ _ _ hd
  rw [e]
  unfold Oper.wp at h
  generalize (execOp a.eval o).run P w = r at h
  cases r with
  | halt x w' => cases x <;> exact h
  | ok x w' =>
    cases x with
    | enter f args => exact ⟨(fun h => by cases h), CallsIn.inRound l₀ (callsIn_wide.2 h)⟩
    | row row args => exact ⟨(fun h => by cases h), rowsIn_rn h⟩
    | value v => exact h
    | skip => exact h
    | defer d => exact h
    | round l f tmps assign body => exact (h : False).elim
    | _ => exact h

def noDefer (ops : Array Oper) : Bool := ops.toList.all fun o => match o.op with | .defer _ => false | _ => true
theorem noDefer_spec (h : noDefer ops = true) {i : Nat} {o : Oper} (ho : ops[i]? = some o) : ∀ c, o.op ≠ .defer c := by
  intro c hc
  have hm : o ∈ ops.toList := by
    have := Array.mem_of_getElem? ho
    simpa using this
  have := List.all_eq_true.1 h o hm
  simp [hc] at this

theorem ops_rn (hd : noDefer ops = true) (hQ : ¬ LetsOut Q) : ∀ (l : List Nat) (a : Act) (w : World), wpOps P ops Q l a w → wpOpsIn (Rn l₀) n P ops Q l a w := by
  intro l
  induction l with
  | nil => intro a w h; exact h
  | cons i rest ih =>
    intro a w h
    simp only [wpOps] at h
    simp only [wpOpsIn]
    cases ho : ops[i]? with
    | none => simp only [ho] at h ⊢; exact ih _ _ h
    | some o =>
      simp only [ho] at h ⊢
      split at h
      · rename_i hw
        rw [if_pos hw]
        rcases h with h | ⟨_, h⟩
        · refine op_rn (noDefer_spec hd ho) ?_
          unfold Oper.wp at h ⊢
          generalize (execOp a.eval o).run P w = r at h ⊢
          cases r with
          | halt x w' => cases x <;> exact h
          | ok x w' =>
            cases x with
            | enter f args => exact h.mono fun e w'' hr => by cases e with
              | returned v => exact ih _ _ hr
              | panicked c => exact hr
              | outgrown => exact hr
            | row row args => exact h.mono fun v w'' hr => ih _ _ hr
            | value v => exact ih _ _ h
            | skip => exact ih _ _ h
            | defer d => exact ih _ _ h
            | _ => exact h
        · exact absurd h hQ
      · rename_i hw
        rw [if_neg hw]
        exact ⟨fun _ _ => trivial, ih _ _ h⟩

theorem region_rn {id : Nat} {l : List Oper} {a : Act} {w : World} (hd : noDefer l.toArray = true) (hQ : ¬ LetsOut Q) (h : wpList P l.toArray Q l a w) : (Code.region id l.toArray false).wpIn (Rn l₀) n P Q a w := by
  refine wpIn_region (ops_rn hd hQ _ _ _ ?_)
  rw [List.range_eq_range', ← Array.length_toList, wpOps_eq_wpList l.toArray.toList 0 (by simp)]
  simpa using h
theorem region_draw_rn {id : Nat} {ops : Array Oper} {a : Act} {w : World} (hm : P.follows .mixedOrders = true) (hd : noDefer ops = true) (hQ : ¬ LetsOut Q) (h : wpAny P .any ops Q ops.size (Array.replicate ops.size false) a { w with drawn := w.drawn + 1 }) :
    (Code.region id ops true).wpIn (Rn l₀) n P Q a w := by
  refine wpIn_region_draw fun t => ops_rn hd hQ _ _ _ ?_
  simp only [Region.schedule, hm, Bool.true_or, if_true]
  exact wpAny_sound ops.size t _ a _ h

theorem y_quiet_rn {id : Nat} {a : Act} {w0 w : World} {L : List Res} {F : Nat → Prop} {l : List Oper} (H : St w0 L w F) (hm : P.follows .mixedOrders = true) (hB : Region.lexB .any l.toArray = true) (hd : noDefer l.toArray = true) (hQ : ¬ LetsOut Q)
    (h : wpQuiet P l.toArray (fun w' => ∃ s : Wd w0 L F, w' = s.w) (fun a' => ∀ w', (∃ s : Wd w0 L F, w' = s.w) → Q .normal a' w') l a) : (Code.region id l.toArray true).wpIn (Rn l₀) n P Q a w :=
  region_draw_rn hm hd hQ (any_quiet (C := fun w' => ∃ s : Wd w0 L F, w' = s.w) hB ⟨⟨_, H.drew⟩, rfl⟩ h)
theorem y_quiet_tail_rn {id : Nat} {a : Act} {w0 w : World} {L : List Res} {F : Nat → Prop} {l : List Oper} (k : Nat) (H : St w0 L w F) (hm : P.follows .mixedOrders = true) (hB : Region.lexTailB .any l.toArray k = true) (hd : noDefer l.toArray = true) (hQ : ¬ LetsOut Q)
    (h : wpQuiet P l.toArray (fun w' => ∃ s : Wd w0 L F, w' = s.w) (fun a' => ∀ w', (∃ s : Wd w0 L F, w' = s.w) → wpList P l.toArray Q (l.drop k) a' w') (l.take k) a) : (Code.region id l.toArray true).wpIn (Rn l₀) n P Q a w :=
  region_draw_rn hm hd hQ (any_quiet_tail (C := fun w' => ∃ s : Wd w0 L F, w' = s.w) k hB ⟨⟨_, H.drew⟩, rfl⟩ h)

theorem letsOut_then {K : Act → World → Prop} (h : ¬ LetsOut Q) : ¬ LetsOut (Exit.then K Q) := h
theorem letsOut_inBlock {id : Nat} (h : ¬ LetsOut Q) : ¬ LetsOut (Exit.inBlock id Q) := h
theorem letsOut_own {α : Type} {Kp : World → World → Prop} {I : List α → World → Prop} {Ix : Code → List α → World → Prop} {xs : List α} {W : World} : ¬ LetsOut (ownPostK Kp I Ix xs W) := fun ⟨_, _, h⟩ => h
end

/-- what a round keeps: all that lay below n₀, but block bx -/
def Kx (n₀ bx : Nat) (W W' : World) : Prop := ∀ k, k < n₀ → k ≠ bx → W'.heap[k]? = W.heap[k]?
theorem Kx.refl (n₀ bx : Nat) (W : World) : Kx n₀ bx W W := fun _ _ _ => rfl
theorem Kx.trans {n₀ bx : Nat} {A B C : World} (h : Kx n₀ bx A B) (k : Kx n₀ bx B C) : Kx n₀ bx A C := fun i hi hne => (k i hi hne).trans (h i hi hne)
theorem Kx.put {n₀ bx : Nat} (W : World) (l : Nat) (o' : Obj) (hl : n₀ ≤ l) : Kx n₀ bx W (W.putObj l o') := fun _ hk _ => World.putObj_heap_other (by omega)
theorem Kx.of {n₀ bx : Nat} {W W' : World} {L : List Res} (H : St W L W' (fun k => k ≠ bx)) (h : n₀ ≤ W.heap.size) : Kx n₀ bx W W' := fun k hk hne => H.block k (by omega) hne

def Res.plain : Res → Prop
  | .box _ (.cells _ _ _) => True
  | .row .. => True
  | _ => False
theorem Res.plain.cells {r : Res} (h : r.plain) {w : World} (hr : r.holds w) {k : Nat} (hk : r.fp k) : ∃ o : Obj, w.heap[k]? = some o ∧ o.isCells = true := by
  cases r with
  | box b o => cases o <;> first | (cases hk; exact ⟨_, hr, rfl⟩) | exact (h : False).elim
  | row v t sz n xs =>
    rcases hr.2 with ⟨hv, _⟩ | ⟨g, cap, cur, hv, _, hg, _⟩
    · rw [hv] at hk; cases hk
    · rw [hv] at hk
      cases hk
      exact ⟨_, hg, rfl⟩
  | any S A => exact (h : False).elim

theorem st_other {w0 W W' : World} {L : List Res} {F : Nat → Prop} {B : Nat} {row : Option Nat} (H : St w0 L W F) (hL : ∀ r ∈ L, r.plain) (hB : w0.heap.size ≤ B) (hg : W.grownBy W' row)
    (hr : ∀ r, row = some r → B ≤ r ∧ ∃ o : Obj, W.heap[r]? = some o ∧ o.isCells = false) : St w0 L W' F := by
  have hw := H.size
  refine ⟨hg.os.trans H.os, hg.tape.trans H.tape, hg.output.trans H.output, Nat.le_trans hw hg.size, fun k hk hF => ?_, fun r hm => ?_, H.own, H.apart⟩
  · exact (hg.block k (by omega) fun e => by have := (hr k e.symm).1; omega).trans (H.block k hk hF)
  · refine (H.holds r hm).kept fun k hk => hg.block k ((H.holds r hm).lt hk) fun e => ?_
    obtain ⟨o, ho, hc⟩ := (hL r hm).cells (H.holds r hm) hk
    obtain ⟨_, o', ho', hc'⟩ := hr k e.symm
    rw [ho] at ho'
    cases ho'
    rw [hc] at hc'
    cases hc'
theorem ownFrom_st {β : Type} {w0 : World} {Lf : β → List Res} {F : Nat → Prop} {B : Nat} (hL : ∀ s, ∀ r ∈ Lf s, r.plain) (hB : w0.heap.size ≤ B) : OwnFrom B (fun s W => St w0 (Lf s) W F) :=
  fun s _ _ _ hs hg hr => st_other hs (hL s) hB hg hr

/-- the block for deferred calls that a range over a function leaves -/
theorem St.mark {w0 w : World} {L : List Res} {F : Nat → Prop} {D : Nat} {o : Obj} (H : St w0 L w F) (hL : ∀ r ∈ L, r.plain) (hD : w0.heap.size ≤ D) (hK : w.heap[D]? = some o) (ho : o.isCells = false) : St w0 (.box D o :: L) w F := by
  refine ⟨H.os, H.tape, H.output, H.size, H.block, ?_, ?_, ?_⟩
  · intro r hr
    rcases List.mem_cons.1 hr with rfl | hr
    · exact hK
    · exact H.holds r hr
  · intro r hr k hk hF
    rcases List.mem_cons.1 hr with rfl | hr
    · cases hk; exact hD
    · exact H.own r hr k hk hF
  · refine List.pairwise_cons.2 ⟨fun s hs k hk hk' => ?_, H.apart⟩
    cases hk
    obtain ⟨o', ho', hc⟩ := (hL s hs).cells (H.holds s hs) hk'
    rw [hK] at ho'
    cases ho'
    rw [hc] at ho
    cases ho
theorem St.unmark {w0 w : World} {L : List Res} {F : Nat → Prop} {D : Nat} {o o' : Obj} (H : St w0 (.box D o :: L) w F) : St w0 (.box D o' :: L) (w.putObj D o') F :=
  H.turn .here (fun k _ hk => World.putObj_heap_other (fun e => hk (by exact e))) rfl rfl rfl (by simp)
    (by
      have h : w.heap[D]? = some o := H.holds _ List.mem_cons_self
      have hlt : D < w.heap.size := (Array.getElem?_eq_some_iff.1 h).1
      simp [Res.holds, World.putObj, hlt]) (fun k hk => .inl hk)

section
variable {P : Program} {fn : Func} {R : Ending → World → Prop} {n : Nat}
theorem bodyPostM_ret {a : Act} {w : World} {v : Value} (hr : (results fn a.tmps).run P w = .ok v w) (hd : a.defers = []) (hR : R (.returned v) w) : bodyPostM Fence.wide n P fn R .ret a w := by
  simp only [bodyPostM, hd, LeavesInM]
  exact ⟨v, hr, hR⟩
theorem bodyPostM_mark {a : Act} {w0 w : World} {v : Value} {L : List Res} {D : Nat} (H : St w0 (.box D (.deferred (some [])) :: L) w) (hd : a.defers = [{ target := .collected D, args := #[] }]) (hr : ∀ w, (results fn a.tmps).run P w = .ok v w) (hR : ∀ w', St w0 L w' → R (.returned v) w') : bodyPostM Fence.wide n P fn R .ret a w := by
  simp only [bodyPostM, hd, LeavesInM]
  exact ⟨by simp, .inl ⟨_, _, rfl, run_takeDeferred (H.holds _ List.mem_cons_self), v, hr _, hR _ (H.unmark (o' := .deferred none)).tail⟩⟩
end

/-- a round that turned one box (and made memory): what the law asks of it -/
theorem round_end {w0 W w : World} {L L' M : List Res} {F : Nat → Prop} {n₀ bx : Nat} {cs : Array Value} {t : TypeId} {f : Nat × Nat} {o' : Obj} (H0 : St w0 L W F) (H : St W M w (fun k => k ≠ bx)) (hi : In (.box bx o') M)
    (hu : Upd (.box bx (.cells cs t f)) (.box bx o') L L') (hn : n₀ ≤ W.heap.size) : KeepsOthers W w ∧ Kx n₀ bx W w ∧ n₀ ≤ w.heap.size ∧ St w0 L' w F := by
  have hb : W.heap[bx]? = some (.cells cs t f) := H0.holds _ hu.mem
  refine ⟨⟨H.size, fun k o ho hc => ?_⟩, fun k hk hne => H.block k (by omega) hne, Nat.le_trans hn H.size, H0.callBox H.grownBy (H.heap hi) hu⟩
  have hne : k ≠ bx := fun e => by
    rw [e, hb] at ho
    cases ho
    cases hc
  exact (H.block k (Array.getElem?_eq_some_iff.1 ho).1 hne).trans ho
theorem ownFrom_st2 {β : Type} {w0 : World} {Lf : β → List Res} {F : Nat → Prop} {B : Nat} (hL : ∀ s, ∀ r ∈ Lf s, r.plain) (hB : w0.heap.size ≤ B) : OwnFrom B (fun s W => B ≤ W.heap.size ∧ St w0 (Lf s) W F) :=
  fun s _ _ _ hs hg hr => ⟨Nat.le_trans hs.1 hg.size, st_other hs.2 (hL s) hB hg hr⟩

end Go.Proofs.Ytcmhobabbklnhaa
