/- Walks and laws behind the proofs of the given rows of this seat (each: the law returns true whatever the input, and the input reads as it did). Conditions: none. -/
import Derived.WalkKit
import Derived.Lib.Hide
import Derived.Deep.QuietTactic
namespace Go.Proofs.Ytcmhobabbklnhaa
open Go.RowKit

inductive Res where
  | box (b : Nat) (o : Obj)
  | row (v : Value) (t : TypeId) (sz n : Nat) (xs : List Value)
  | any (S : Nat → Prop) (A : World → Prop)

def Res.fp : Res → Nat → Prop
  | .box b _ => fun k => k = b
  | .row v _ _ _ _ => fun k => v.ownBlock = some k
  | .any S _ => S

def Res.holds (w : World) : Res → Prop
  | .box b o => w.heap[b]? = some o
  | .row v t sz n xs => w.ownsRow 0 t sz v n xs
  | .any S A => (∀ w' : World, (∀ k, S k → w'.heap[k]? = w.heap[k]?) → A w') ∧ ∀ k, S k → k < w.heap.size

def Apart (r s : Res) : Prop := ∀ k, r.fp k → ¬ s.fp k

theorem Res.holds.kept {w w' : World} {r : Res} (h : r.holds w) (hk : ∀ k, r.fp k → w'.heap[k]? = w.heap[k]?) : r.holds w' := by
  cases r with
  | box b o => exact (hk b rfl).trans h
  | row v t sz n xs =>
    obtain ⟨h1, h2⟩ := h
    refine ⟨h1, ?_⟩
    rcases h2 with h2 | ⟨g, cap, cur, rfl, hg, hh, r⟩
    · exact .inl h2
    · exact .inr ⟨g, cap, cur, rfl, hg, by rw [hk g rfl]; exact hh, r⟩
  | any S A =>
    refine ⟨fun w2 h2 => h.1 w2 fun k hS => (h2 k hS).trans (hk k hS), fun k hS => ?_⟩
    have h1 := h.2 k hS
    have h2 := hk k hS
    rw [Array.getElem?_eq_getElem h1] at h2
    exact (Array.getElem?_eq_some_iff.1 h2).1

theorem Res.holds.lt {w : World} {r : Res} (h : r.holds w) {k : Nat} (hk : r.fp k) : k < w.heap.size := by
  cases r with
  | box b o => cases hk; exact (Array.getElem?_eq_some_iff.1 h).1
  | row v t sz n xs => exact (World.ownsRow.lt h k hk).2
  | any S A => exact h.2 k hk

/-- what is known of the world now: what lay in w0 (where F says so) is as it was; the call's own resources hold, apart from one another -/
structure St (w0 : World) (L : List Res) (w : World) (F : Nat → Prop := fun _ => True) : Prop where
  os : w.os = w0.os
  tape : w.tape = w0.tape
  output : w.output = w0.output
  size : w0.heap.size ≤ w.heap.size
  block : ∀ k, k < w0.heap.size → F k → w.heap[k]? = w0.heap[k]?
  holds : ∀ r ∈ L, r.holds w
  own : ∀ r ∈ L, ∀ k, r.fp k → F k → w0.heap.size ≤ k
  apart : L.Pairwise Apart

theorem St.below {w0 w : World} {L : List Res} (H : St w0 L w) : Below w0.heap.size w0 w := ⟨H.os, H.tape, H.output, H.size, fun k hk => H.block k hk trivial⟩

theorem St.start (w : World) : St w [] w := ⟨rfl, rfl, rfl, Nat.le_refl _, fun _ _ _ => rfl, by simp, by simp, .nil⟩

section
variable {F : Nat → Prop}

theorem St.drew {w0 w : World} {L : List Res} (H : St w0 L w F) : St w0 L w.drew F := ⟨H.os, H.tape, H.output, H.size, H.block, fun r hr => (H.holds r hr).kept fun _ _ => rfl, H.own, H.apart⟩
theorem St.drewN {w0 w : World} {L : List Res} (H : St w0 L w F) (q : Nat) : St w0 L (w.drewN q) F :=
  ⟨H.os, H.tape, H.output, H.size, H.block, fun r hr => (H.holds r hr).kept fun _ _ => rfl, H.own, H.apart⟩

/-- a callee that leaves what was there, and makes more resources -/
theorem St.callL {w0 w w' : World} {L M : List Res} (H : St w0 L w F) (h : St w M w') : St w0 (M ++ L) w' F := by
  have hw := H.size
  refine ⟨h.os.trans H.os, h.tape.trans H.tape, h.output.trans H.output, Nat.le_trans hw h.size, fun k hk hF => (h.block k (by omega) trivial).trans (H.block k hk hF), ?_, ?_, ?_⟩
  · intro r hr
    rcases List.mem_append.1 hr with hr | hr
    · exact h.holds r hr
    · exact (H.holds r hr).kept fun k hk => h.block k ((H.holds r hr).lt hk) trivial
  · intro r hr k hk hF
    rcases List.mem_append.1 hr with hr | hr
    · exact Nat.le_trans hw (h.own r hr k hk trivial)
    · exact H.own r hr k hk hF
  · refine List.pairwise_append.2 ⟨h.apart, H.apart, fun r hr s hs k hk hk' => ?_⟩
    have h1 := h.own r hr k hk trivial
    have h2 := (H.holds s hs).lt hk'
    omega
theorem St.call {w0 w w' : World} {L : List Res} {r : Res} (H : St w0 L w F) (h : St w [r] w') : St w0 (r :: L) w' F := H.callL h
theorem St.call0 {w0 w w' : World} {L : List Res} (H : St w0 L w F) (h : St w [] w') : St w0 L w' F := H.callL h
theorem St.call2 {w0 w w' : World} {L : List Res} {r s : Res} (H : St w0 L w F) (h : St w [r, s] w') : St w0 (r :: s :: L) w' F := H.callL h
theorem St.call3 {w0 w w' : World} {L : List Res} {r s t : Res} (H : St w0 L w F) (h : St w [r, s, t] w') : St w0 (r :: s :: t :: L) w' F := H.callL h

theorem St.one {w : World} {r : Res} {w' : World} (hb : Below w.heap.size w w') (hr : r.holds w') (ho : ∀ k, r.fp k → w.heap.size ≤ k) : St w [r] w' :=
  ⟨hb.os, hb.tape, hb.output, hb.size, fun k hk _ => hb.block k hk, by simpa using hr, by simpa using fun k hk => ho k hk, by simp⟩

theorem St.alloc1 (w : World) (o : Obj) : St w [.box w.heap.size o] (w.alloc o) :=
  .one ((Below.refl _ _).alloc (Nat.le_refl _) _) (heap_alloc_new w o) (fun k hk => by cases hk; exact Nat.le_refl _)
theorem St.alloc {w0 w : World} {L : List Res} (H : St w0 L w F) (o : Obj) : St w0 (.box w.heap.size o :: L) (w.alloc o) F := H.call (St.alloc1 w o)

theorem St.nil {w0 w : World} {L : List Res} (H : St w0 L w F) (t : TypeId) (sz : Nat) : St w0 (.row (.slice none 0 0) t sz 0 [] :: L) w F :=
  H.call (.one (Below.refl _ _) (World.ownsRow_nil _ _ _ _) (by simp [Res.fp, Value.ownBlock]))

theorem St.sub {w0 w : World} {L L' : List Res} (H : St w0 L w F) (h : L'.Sublist L) : St w0 L' w F :=
  ⟨H.os, H.tape, H.output, H.size, H.block, fun r hr => H.holds r (h.subset hr), fun r hr => H.own r (h.subset hr), H.apart.sublist h⟩
theorem st_drop {w0 w : World} {L : List Res} (H : St w0 L w F) : St w0 [] w F := H.sub (List.nil_sublist _)

inductive In (r : Res) : List Res → Prop
  | here {L} : In r (r :: L)
  | there {s L} : In r L → In r (s :: L)
theorem In.mem {r : Res} {L : List Res} (h : In r L) : r ∈ L := by
  induction h with
  | here => exact List.mem_cons_self
  | there _ ih => exact List.mem_cons_of_mem _ ih

/-- L with r in it, turned to L' with r' in its place -/
inductive Upd (r r' : Res) : List Res → List Res → Prop
  | here {L} : Upd r r' (r :: L) (r' :: L)
  | there {s L L'} : Upd r r' L L' → Upd r r' (s :: L) (s :: L')

theorem Upd.mem {r r' : Res} {L L' : List Res} (h : Upd r r' L L') : r ∈ L := by
  induction h with
  | here => exact List.mem_cons_self
  | there _ ih => exact List.mem_cons_of_mem _ ih
theorem Upd.mem' {r r' : Res} {L L' : List Res} (h : Upd r r' L L') {s : Res} (hs : s ∈ L') : s = r' ∨ s ∈ L := by
  induction h with
  | here => rcases List.mem_cons.1 hs with rfl | hs; exact .inl rfl; exact .inr (List.mem_cons_of_mem _ hs)
  | there _ ih =>
    rcases List.mem_cons.1 hs with rfl | hs
    · exact .inr List.mem_cons_self
    · exact (ih hs).imp id (List.mem_cons_of_mem _)

/-- the resource r is turned to r' (whose footprint is r's, or new blocks), by a step that turns r's blocks alone -/
theorem St.turn {w0 w w' : World} {L L' : List Res} {r r' : Res} (H : St w0 L w F) (hu : Upd r r' L L')
    (hb : ∀ k, k < w.heap.size → ¬ r.fp k → w'.heap[k]? = w.heap[k]?) (hos : w'.os = w.os) (hta : w'.tape = w.tape) (hout : w'.output = w.output) (hsz : w.heap.size ≤ w'.heap.size)
    (hr : r'.holds w') (hf : ∀ k, r'.fp k → r.fp k ∨ w.heap.size ≤ k) : St w0 L' w' F := by
  have hown := H.own r hu.mem
  have hw := H.size
  refine ⟨hos.trans H.os, hta.trans H.tape, hout.trans H.output, Nat.le_trans hw hsz, fun k hk hF => (hb k (by omega) fun h => by have := hown k h hF; omega).trans (H.block k hk hF), ?_, ?_, ?_⟩
  · have key : ∀ {L L' : List Res}, Upd r r' L L' → (∀ s ∈ L, s.holds w) → L.Pairwise Apart → ∀ s ∈ L', s.holds w' := by
      intro L L' hu
      induction hu with
      | here =>
        intro hh ha s hs
        rcases List.mem_cons.1 hs with rfl | hs
        · exact hr
        · have hs' := hh s (List.mem_cons_of_mem _ hs)
          exact hs'.kept fun k hk => hb k (hs'.lt hk) fun h => (List.pairwise_cons.1 ha).1 s hs k h hk
      | there hu ih =>
        rename_i s0 L1 L2
        intro hh ha s hs
        rcases List.mem_cons.1 hs with rfl | hs
        · have hs' := hh s List.mem_cons_self
          exact hs'.kept fun k hk => hb k (hs'.lt hk) fun h => (List.pairwise_cons.1 ha).1 r hu.mem k hk h
        · exact ih (fun s hs => hh s (List.mem_cons_of_mem _ hs)) (List.pairwise_cons.1 ha).2 s hs
    exact key hu H.holds H.apart
  · intro s hs k hk hF
    rcases hu.mem' hs with rfl | hs
    · rcases hf k hk with h | h
      · exact hown k h hF
      · exact Nat.le_trans hw h
    · exact H.own s hs k hk hF
  · have key : ∀ {L L' : List Res}, Upd r r' L L' → (∀ s ∈ L, s.holds w) → L.Pairwise Apart → L'.Pairwise Apart := by
      intro L L' hu
      induction hu with
      | here =>
        intro hh ha
        refine List.pairwise_cons.2 ⟨fun s hs k hk hk' => ?_, (List.pairwise_cons.1 ha).2⟩
        rcases hf k hk with h | h
        · exact (List.pairwise_cons.1 ha).1 s hs k h hk'
        · have := (hh s (List.mem_cons_of_mem _ hs)).lt hk'; omega
      | there hu ih =>
        rename_i s0 L1 L2
        intro hh ha
        refine List.pairwise_cons.2 ⟨fun s hs k hk hk' => ?_, ih (fun s hs => hh s (List.mem_cons_of_mem _ hs)) (List.pairwise_cons.1 ha).2⟩
        rcases hu.mem' hs with rfl | hs
        · rcases hf k hk' with h | h
          · exact (List.pairwise_cons.1 ha).1 r hu.mem k hk h
          · have := (hh s0 List.mem_cons_self).lt hk; omega
        · exact (List.pairwise_cons.1 ha).1 s hs k hk hk'
    exact key hu H.holds H.apart

/-- a store into a box -/
theorem St.set {w0 w : World} {L L' : List Res} {b i : Nat} {cur : Array Value} {t : TypeId} {v : Value} (H : St w0 L w F)
    (hu : Upd (.box b (.cells cur t (0, 0))) (.box b (.cells (cur.setIfInBounds i v) t (0, 0))) L L') : St w0 L' (w.setCell ⟨b, i, none⟩ v) F :=
  H.turn hu (fun k _ hk => heap_setCell_other w ⟨b, i, none⟩ k v hk) rfl rfl rfl (by simp [World.setCell])
    (heap_setCell_same w b i cur t v (H.holds _ hu.mem)) (fun k hk => .inl hk)

/-- a callee that turns one box, and makes nothing else that is kept -/
theorem St.callBox {w0 w w' : World} {L L' : List Res} {b : Nat} {o o' : Obj} (H : St w0 L w F) (hg : w.grownBy w' (some b)) (hb : w'.heap[b]? = some o')
    (hu : Upd (.box b o) (.box b o') L L') : St w0 L' w' F :=
  H.turn hu (fun k hk hne => hg.block k hk fun e => hne (Option.some.inj e)) hg.os hg.tape hg.output hg.size hb (fun k hk => .inl hk)

theorem St.cell {w0 w : World} {L : List Res} {b i : Nat} {cur : Array Value} {t : TypeId} {v : Value} (H : St w0 L w F) (hi : In (.box b (.cells cur t (0, 0))) L) (hv : cur[i]? = some v) : w.cell? ⟨b, i, none⟩ = some v := by
  have h : w.heap[b]? = _ := H.holds _ hi.mem
  simp [World.cell?, h, hv]
theorem St.frozen {w0 w : World} {L : List Res} {b : Nat} {cur : Array Value} {t : TypeId} (H : St w0 L w F) (hi : In (.box b (.cells cur t (0, 0))) L) (i : Nat) : w.frozen? ⟨b, i, none⟩ = false := by
  have h : w.heap[b]? = _ := H.holds _ hi.mem
  simp [World.frozen?, h]
theorem St.heap {w0 w : World} {L : List Res} {b : Nat} {o : Obj} (H : St w0 L w F) (hi : In (.box b o) L) : w.heap[b]? = some o := H.holds _ hi.mem
section
variable {w0 w : World} {L : List Res} {b : Nat} {t : TypeId} {x0 x1 x2 x3 x4 : Value}
theorem St.cells1 (H : St w0 L w F) (hi : In (.box b (.cells #[x0] t (0, 0))) L) : w.cell? ⟨b, 0, none⟩ = some x0 ∧ ∀ i, w.frozen? ⟨b, i, none⟩ = false := ⟨H.cell hi rfl, H.frozen hi⟩
theorem St.cells4 (H : St w0 L w F) (hi : In (.box b (.cells #[x0, x1, x2, x3] t (0, 0))) L) :
    w.cell? ⟨b, 0, none⟩ = some x0 ∧ w.cell? ⟨b, 1, none⟩ = some x1 ∧ w.cell? ⟨b, 2, none⟩ = some x2 ∧ w.cell? ⟨b, 3, none⟩ = some x3 ∧ ∀ i, w.frozen? ⟨b, i, none⟩ = false :=
  ⟨H.cell hi rfl, H.cell hi rfl, H.cell hi rfl, H.cell hi rfl, H.frozen hi⟩
theorem St.cells5 (H : St w0 L w F) (hi : In (.box b (.cells #[x0, x1, x2, x3, x4] t (0, 0))) L) :
    w.cell? ⟨b, 0, none⟩ = some x0 ∧ w.cell? ⟨b, 1, none⟩ = some x1 ∧ w.cell? ⟨b, 2, none⟩ = some x2 ∧ w.cell? ⟨b, 3, none⟩ = some x3 ∧ w.cell? ⟨b, 4, none⟩ = some x4 ∧ ∀ i, w.frozen? ⟨b, i, none⟩ = false :=
  ⟨H.cell hi rfl, H.cell hi rfl, H.cell hi rfl, H.cell hi rfl, H.cell hi rfl, H.frozen hi⟩
end

theorem abs_calls {P : Program} {f : FuncId} {args : Array Value} {R : Ending → World → Prop} {w0 W : World} {L : List Res} (H : St w0 L W F) (h : ∀ w', St w0 L w' F → Calls P f args w' R) : Calls P f args W R := h _ H
theorem abs_wp {P : Program} {c : Code} {Q : Exit → Act → World → Prop} {a : Act} {w0 W : World} {L : List Res} (H : St w0 L W F) (h : ∀ w', St w0 L w' F → c.wp P Q a w') : c.wp P Q a W := h _ H

theorem abs_post {P : Program} {fn : Func} {R : Ending → World → Prop} {e : Exit} {a : Act} {w0 W : World} {L : List Res} (H : St w0 L W F) (h : ∀ w', St w0 L w' F → bodyPost P fn R e a w') : bodyPost P fn R e a W := h _ H
/-- a box that lay there, written by the call: the frame is all but it -/
theorem St.startBox (w : World) (b : Nat) (o : Obj) (h : w.heap[b]? = some o) : St w [.box b o] w (fun k => k ≠ b) :=
  ⟨rfl, rfl, rfl, Nat.le_refl _, fun _ _ _ => rfl, by simpa [Res.holds] using h, by simp [Res.fp], by simp⟩
theorem St.grownBy {w0 w : World} {L : List Res} {b : Nat} (H : St w0 L w (fun k => k ≠ b)) : w0.grownBy w (some b) :=
  ⟨H.os, H.tape, H.output, H.size, fun k hk hne => H.block k hk (by simpa using hne)⟩
end

end Go.Proofs.Ytcmhobabbklnhaa
