/- Walks and laws behind the proofs of the given rows of this seat (each: the law returns true whatever the input, and the input reads as it did). Conditions: none. -/
import Derived.Test.YtcmhobabbklnhaaSl
import Derived.StillTail
import Derived.BigQuiet
import Derived.StillTactics
namespace Go.Proofs.Ytcmhobabbklnhaa
open Go.RowKit

section
variable {P : Program} {ops : Array Oper} {md : Region.Mode} {C : World → Prop} {n : Nat} {Z : Array Bool → Act → Prop}

/-- the head's operations in any order, each quiet; Z where the head is done -/
def anyH (P : Program) (md : Region.Mode) (ops : Array Oper) (C : World → Prop) (n : Nat) (Z : Array Bool → Act → Prop) : Nat → Array Bool → Act → Prop
  | 0, s, a => Z s a
  | f + 1, s, a => Region.ready md ops s ≠ [] ∧ ∀ i ∈ Region.ready md ops s, i < n ∧ qOp P ops C i (anyH P md ops C n Z f (s.setIfInBounds i true)) a

theorem anyH_wpAny {g : Nat} {Q : Exit → Act → World → Prop} (hZ : ∀ s a w, C w → Z s a → wpAny P md ops Q g s a w) :
    ∀ (f : Nat) (s : Array Bool) (a : Act) (w : World), C w → anyH P md ops C n Z f s a → wpAny P md ops Q (f + g) s a w := by
  intro f
  induction f with
  | zero => intro s a w hC h; rw [Nat.zero_add]; exact hZ s a w hC h
  | succ f ih =>
    intro s a w hC h
    have e : f + 1 + g = (f + g) + 1 := by omega
    rw [e]
    exact ⟨fun h0 => absurd h0 h.1, fun i hi => wpOp_of_qOp hC (fun a' w' hC' h' => ih _ a' w' hC' h') (h.2 i hi).2⟩

/-- Before the head is done nothing of the tail comes up. -/
theorem ready_head (hs : Region.sinkB md ops n = true) (hc : Region.chainB md ops n = true) (hn : n < ops.size) {s : Array Bool} (inv : HeadInv md ops n s) {i : Nat} (hi : i ∈ Region.ready md ops s) (hin : i < n) {j : Nat}
    (hj : j ∈ Region.ready md ops s) : j < n :=
  Nat.lt_of_not_le fun h => tail_waits hs hc hn inv _ i rfl hin (mem_ready.1 hi).1 j h hj

/-- An operation that may come up and is quiet may be carried out ahead of the others. -/
theorem anyH_take {i : Nat} {oi : Oper} {v : Value} (hi : ops[i]? = some oi) (hsel : ∀ (j : Nat) (o : Oper) cs b, ops[j]? = some o → o.op ≠ .select cs b)
    (hs : Region.sinkB md ops n = true) (hc : Region.chainB md ops n = true) (hn : n < ops.size) (hin : i < n) (hZ : ∀ s a, Z s a → ∀ j ∈ Region.ready md ops s, n ≤ j) :
    ∀ (f : Nat) (s : Array Bool) (a : Act), HeadInv md ops n s → Region.free md ops s i = true → i ∈ Region.ready md ops s → YieldsIn P ops C oi v a →
      anyH P md ops C n Z f (s.setIfInBounds i true) (a.put oi.dst v) → anyH P md ops C n Z (f + 1) s a := by
  intro f s a inv hfree0
  have hfree := Region.free_spec hi hfree0
  clear hfree0
  revert s a
  induction f with
  | zero =>
    intro s a inv hfree hr hy hd
    refine ⟨List.ne_nil_of_mem hr, fun j hj => ?_⟩
    have hjn := ready_head hs hc hn inv hr hin hj
    by_cases e : j = i
    · cases e; exact ⟨hin, hy.qOp hi hd⟩
    · have := hZ _ _ hd j (ready_mono hj e)
      omega
  | succ f ih =>
    intro s a inv hfree hr hy hd
    refine ⟨List.ne_nil_of_mem hr, fun j hj => ?_⟩
    have hjn := ready_head hs hc hn inv hr hin hj
    by_cases e : j = i
    · cases e; exact ⟨hin, hy.qOp hi hd⟩
    · obtain ⟨hju, oj, hoj, hjw⟩ := mem_ready.1 hj
      have hiu := getD_both (mem_ready.1 hr).1
      have hno : ∀ x ∈ oj.after, Region.binds md x = true → x.on ≠ i := by
        intro x hx hb h
        have := hjw x hx hb
        rw [h, hiu] at this
        exact Bool.noConfusion this
      refine ⟨hjn, qOp_mono (fun a' h => ?_) (qOp_put hoj (hfree j oj hoj e hju hno) (fun cs b => hsel i oi cs b hi) (fun cs b => hsel j oj cs b hoj) hy (hd.2 j (ready_mono hj e)).2)⟩
      refine ih _ a' (inv.set hj hjn) (fun k ok hk hki hun => hfree k ok hk hki ?_) (ready_mono hr (Ne.symm e)) h.1 ?_
      · by_cases q : j = k
        · cases q; exact hju
        · rwa [getD_set_ne true q] at hun
      · rw [Array.setIfInBounds_comm _ _ e]; exact h.2

theorem anyH_lex {g : Nat} {Zq : Act → Prop} (hsel : Region.noSelect ops = true) (hs : Region.sinkB md ops n = true) (hc : Region.chainB md ops n = true) (hn : n < ops.size) (l : List Oper) :
    ∀ (k : Nat) (s : Array Bool) (a : Act), (∀ j, j < l.length → l[j]? = ops[k + j]?) → k + l.length = n → HeadInv md ops n s → Region.lexHead md ops g l.length k s = true → wpQuiet P ops C Zq l a →
    anyH P md ops C n (fun s' a' => Region.seqB md ops g n s' = true ∧ Zq a') l.length s a := by
  induction l with
  | nil =>
    intro k s a _ hk _ hB h
    obtain rfl : k = n := by simpa using hk
    exact ⟨hB, h⟩
  | cons o l ih =>
    intro k s a hl hk inv hB h
    simp only [List.length_cons] at hk
    have ho : ops[k]? = some o := by have := hl 0 (by simp); simpa using this.symm
    have hB' := hB
    simp only [List.length_cons, Region.lexHead, Bool.and_eq_true] at hB'
    obtain ⟨⟨h1, h2⟩, h3⟩ := hB'
    have hr : k ∈ Region.ready md ops s := by simpa using h1
    have hq : qOp P ops C k (wpQuiet P ops C Zq l) a := by simp only [qOp, ho]; exact h
    obtain ⟨v, hy, hrest⟩ := yieldsIn_of_qOp ho hq
    refine anyH_take ho (Region.noSelect_spec hsel) hs hc hn (by omega) (fun s' a' hz => seqB_ready hz.1) l.length s a inv h2 hr hy ?_
    refine ih (k + 1) _ _ (fun j hj => ?_) (by omega) (inv.set hr (by omega)) h3 hrest
    have := hl (j + 1) (by simp; omega)
    rw [show k + 1 + j = k + (j + 1) by omega]
    simpa using this

/-- quiet operations in whatever order, then a chain -/
theorem any_quiet_tail {Q : Exit → Act → World → Prop} {a : Act} {w : World} {l : List Oper} (n : Nat) (hB : Region.lexTailB .any l.toArray n = true) (hC : C w)
    (h : wpQuiet P l.toArray C (fun a' => ∀ w', C w' → wpList P l.toArray Q (l.drop n) a' w') (l.take n) a) : wpAny P .any l.toArray Q l.toArray.size (Array.replicate l.toArray.size false) a w := by
  simp only [Region.lexTailB, Bool.and_eq_true, decide_eq_true_eq] at hB
  obtain ⟨⟨⟨⟨hsel, hn⟩, hs⟩, hc⟩, hlex⟩ := hB
  have hnl : n < l.length := by simpa using hn
  have hlen : (l.take n).length = n := List.length_take_of_le (Nat.le_of_lt hnl)
  have inv : HeadInv .any l.toArray n (Array.replicate l.toArray.size false) :=
    ⟨by simp, fun j oj _ hl => Bool.noConfusion ((getD_replicate_false _ _).symm.trans hl), fun t _ ht => getD_in (by simpa using ht) (getD_replicate_false _ _)⟩
  have h1 := anyH_lex (md := .any) (g := l.toArray.size - n) hsel hs hc hn (l.take n) 0 _ a (fun j hj => by
    rw [hlen] at hj
    simp [List.getElem?_take, hj]) (by simpa using hlen) inv (by rw [hlen]; exact hlex) h
  rw [hlen] at h1
  have hd : (l.drop n).length = l.toArray.size - n := by simp
  have h2 := anyH_wpAny (Q := Q) (g := l.toArray.size - n) (fun s a' w' hC' hz => by
    have h3 := wpAny_of_seq (md := .any) (Q' := Q) (l.drop n) n s a' w' (fun j => by simp [List.getElem?_drop]) (by rw [hd]; exact hz.1) (hz.2 w' hC')
    rwa [hd] at h3) _ _ _ _ hC h1
  rwa [show n + (l.toArray.size - n) = l.toArray.size by omega] at h2
theorem wp_quiet_tail {id : Nat} {Q : Exit → Act → World → Prop} {a : Act} {w : World} {l : List Oper} (n : Nat) (hm : P.follows .mixedOrders = true) (hB : Region.lexTailB .any l.toArray n = true) (hC : C { w with drawn := w.drawn + 1 })
    (h : wpQuiet P l.toArray C (fun a' => ∀ w', C w' → wpList P l.toArray Q (l.drop n) a' w') (l.take n) a) : (Code.region id l.toArray true).wp P Q a w :=
  wp_region_any hm (any_quiet_tail n hB hC h)
theorem any_quiet {Q : Exit → Act → World → Prop} {a : Act} {w : World} {l : List Oper} (hB : Region.lexB .any l.toArray = true) (hC : C w)
    (h : wpQuiet P l.toArray C (fun a' => ∀ w', C w' → Q .normal a' w') l a) : wpAny P .any l.toArray Q l.toArray.size (Array.replicate l.toArray.size false) a w := by
  simp only [Region.lexB, Bool.and_eq_true] at hB
  refine wpAny_of_quiet (Q := fun a' => ∀ w', C w' → Q .normal a' w') (fun _ w' hw' h => h w' hw') _ _ _ _ hC ?_
  exact wpAnyQ_lex (C := C) (md := .any) hB.1 l 0 (Array.replicate l.toArray.size false) a (by simp) (by simpa using hB.2) h
end

/-- the worlds of a state -/
structure Wd (w0 : World) (L : List Res) (F : Nat → Prop := fun _ => True) where
  w : World
  st : St w0 L w F

variable {F : Nat → Prop}
theorem y_quiet {P : Program} {id : Nat} {Q : Exit → Act → World → Prop} {a : Act} {w0 w : World} {L : List Res} {l : List Oper} (H : St w0 L w F) (hm : P.follows .mixedOrders = true) (hB : Region.lexB .any l.toArray = true)
    (h : wpQuiet P l.toArray (fun w' => ∃ s : Wd w0 L F, w' = s.w) (fun a' => ∀ w', (∃ s : Wd w0 L F, w' = s.w) → Q .normal a' w') l a) : (Code.region id l.toArray true).wp P Q a w :=
  wp_region_quiet (C := fun w' => ∃ s : Wd w0 L F, w' = s.w) hm hB ⟨⟨_, H.drew⟩, rfl⟩ (by simpa using h)
theorem y_quiet_tail {P : Program} {id : Nat} {Q : Exit → Act → World → Prop} {a : Act} {w0 w : World} {L : List Res} {l : List Oper} (n : Nat) (H : St w0 L w F) (hm : P.follows .mixedOrders = true) (hB : Region.lexTailB .any l.toArray n = true)
    (h : wpQuiet P l.toArray (fun w' => ∃ s : Wd w0 L F, w' = s.w) (fun a' => ∀ w', (∃ s : Wd w0 L F, w' = s.w) → wpList P l.toArray Q (l.drop n) a' w') (l.take n) a) : (Code.region id l.toArray true).wp P Q a w :=
  wp_quiet_tail (C := fun w' => ∃ s : Wd w0 L F, w' = s.w) n hm hB ⟨⟨_, H.drew⟩, rfl⟩ h
/-- a callee with one value, in a quiet region -/
theorem quiet_call {P : Program} {f : FuncId} {args : Array Value} {w0 : World} {L : List Res} {v : Value} (s : Wd w0 L F) (h : Calls P f args s.w fun e w' => e = .returned v ∧ St s.w [] w') :
    Calls P f args s.w fun e w' => e = .returned v ∧ ∃ s : Wd w0 L F, w' = s.w := h.mono fun _ _ ⟨he, hs⟩ => ⟨he, ⟨_, s.st.call0 hs⟩, rfl⟩

theorem St.of4 {w0 w : World} {L : List Res} {b t : Nat} {x0 x1 x2 x3 : Value} (_H : St w0 L w F) (hi : In (.box b (.cells #[x0, x1, x2, x3] t (0, 0))) L) :
    (∀ s : Wd w0 L F, s.w.cell? ⟨b, 0, none⟩ = some x0) ∧ (∀ s : Wd w0 L F, s.w.cell? ⟨b, 1, none⟩ = some x1) ∧ (∀ s : Wd w0 L F, s.w.cell? ⟨b, 2, none⟩ = some x2) ∧ (∀ s : Wd w0 L F, s.w.cell? ⟨b, 3, none⟩ = some x3) :=
  ⟨fun s => s.st.cell hi rfl, fun s => s.st.cell hi rfl, fun s => s.st.cell hi rfl, fun s => s.st.cell hi rfl⟩
theorem St.of5 {w0 w : World} {L : List Res} {b t : Nat} {x0 x1 x2 x3 x4 : Value} (_H : St w0 L w F) (hi : In (.box b (.cells #[x0, x1, x2, x3, x4] t (0, 0))) L) :
    (∀ s : Wd w0 L F, s.w.cell? ⟨b, 0, none⟩ = some x0) ∧ (∀ s : Wd w0 L F, s.w.cell? ⟨b, 1, none⟩ = some x1) ∧ (∀ s : Wd w0 L F, s.w.cell? ⟨b, 2, none⟩ = some x2) ∧ (∀ s : Wd w0 L F, s.w.cell? ⟨b, 3, none⟩ = some x3) ∧
      (∀ s : Wd w0 L F, s.w.cell? ⟨b, 4, none⟩ = some x4) :=
  ⟨fun s => s.st.cell hi rfl, fun s => s.st.cell hi rfl, fun s => s.st.cell hi rfl, fun s => s.st.cell hi rfl, fun s => s.st.cell hi rfl⟩
theorem St.of1 {w0 w : World} {L : List Res} {b t : Nat} {x0 : Value} (_H : St w0 L w F) (hi : In (.box b (.cells #[x0] t (0, 0))) L) : ∀ s : Wd w0 L F, s.w.cell? ⟨b, 0, none⟩ = some x0 := fun s => s.st.cell hi rfl

theorem St.set4 {w0 w : World} {L L' : List Res} {b t : Nat} {y0 y1 y2 y3 x0 x1 x2 x3 : Value} (H : St w0 L w F)
    (hu : Upd (.box b (.cells #[y0, y1, y2, y3] t (0, 0))) (.box b (.cells #[x0, x1, x2, x3] t (0, 0))) L L') :
    St w0 L' ((((w.setCell ⟨b, 0, none⟩ x0).setCell ⟨b, 1, none⟩ x1).setCell ⟨b, 2, none⟩ x2).setCell ⟨b, 3, none⟩ x3) F :=
  H.turn hu (fun k _ hk => by
      have h : k ≠ b := hk
      rw [heap_setCell_other _ _ _ _ h, heap_setCell_other _ _ _ _ h, heap_setCell_other _ _ _ _ h, heap_setCell_other _ _ _ _ h]) rfl rfl rfl (by simp [World.setCell])
    (heap_setCell_same _ _ _ _ _ _ (heap_setCell_same _ _ _ _ _ _ (heap_setCell_same _ _ _ _ _ _ (heap_setCell_same _ _ _ _ _ _ (H.holds _ hu.mem))))) (fun k hk => .inl hk)

end Go.Proofs.Ytcmhobabbklnhaa
