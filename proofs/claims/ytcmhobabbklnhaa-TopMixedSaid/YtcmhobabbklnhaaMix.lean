/- Walks and laws behind the proofs of the given rows of this seat (each: the law returns true whatever the input, and the input reads as it did). Conditions: none. -/
import Derived.Test.YtcmhobabbklnhaaProg
import Derived.Test.YtcmhobabbklnhaaReg
import Derived.WalkSpells
import Derived.Deep.DeepMust
import Derived.WalkLawsBesides
import Derived.BigQuiet
import Derived.Deep.RegionHeld3
namespace Go.Proofs.Ytcmhobabbklnhaa
open Go.RowKit Go.BigFrame

def rotl (x b : Int) : Int := bits .or .u32 (x * 2 ^ b.toNat % 4294967296) (x / 2 ^ (32 - b).toNat)
def xr (x y : Int) : Int := bits .xor .u32 x y
structure W4 where
  a : Int
  b : Int
  c : Int
  d : Int
def half (far near : Int) (x : W4) : W4 :=
  let a := (x.a + x.b) % 4294967296
  let d := rotl (xr x.d a) far
  let c := (x.c + d) % 4294967296
  let b := rotl (xr x.b c) near
  ⟨a, b, c, d⟩
def back (far near : Int) (x : W4) : W4 :=
  let b := xr (rotl x.b near) x.c
  let c := (x.c - x.d) % 4294967296
  let d := xr (rotl x.d far) x.a
  let a := (x.a - b) % 4294967296
  ⟨a, b, c, d⟩
def turnW (x : W4) : W4 := half 9 6 (half 15 11 x)
def backW (x : W4) : W4 := back 17 21 (back 23 26 x)
abbrev W4.arr (x : W4) : Array Value := #[.int .u32 x.a, .int .u32 x.b, .int .u32 x.c, .int .u32 x.d]
abbrev W4.v (x : W4) : Value := .agg #[.int .u32 x.a, .int .u32 x.b, .int .u32 x.c, .int .u32 x.d]
/-- a box that holds four words -/
abbrev B4 (b : Nat) (x : W4) (t : Nat) : Res := .box b (.cells #[.int .u32 x.a, .int .u32 x.b, .int .u32 x.c, .int .u32 x.d] t (0, 0))

theorem xr_fold (x y : Int) : bits .xor .u32 x y = xr x y := rfl
attribute [local go_sem] xr_fold

set_option maxHeartbeats 400000 in
theorem left01_any (x b : Int) (hb : 0 < b) (hb' : b < 32) (w : World) : Calls Try.prog 80 #[.int .u32 x, .int .i64 b] w fun e w' => e = .returned (.int .u32 (rotl x b)) ∧ St w [] w' := by
  have H := St.start w
  go_enter Try.func80, Try.ntmps80
  go_wp2
  go_quiet (fail)
  go_wp2
  go_ret
  exact ⟨rfl, H.drewN _⟩

set_option maxHeartbeats 400000 in
theorem rot_15 (x : Int) (w : World) : Calls Try.prog 113 #[.int .u32 x, .int .i64 (15)] w fun e w' => e = .returned (.int .u32 (rotl x 15)) ∧ w = w' := by
  have e1 : bits BinOp.and IntKind.u64 15 31 = 15 := by decide
  go_enter Try.func113, Try.ntmps113
  go_wp2
  go_ret
  exact ⟨rfl, rfl⟩

set_option maxHeartbeats 400000 in
theorem rot_11 (x : Int) (w : World) : Calls Try.prog 113 #[.int .u32 x, .int .i64 (11)] w fun e w' => e = .returned (.int .u32 (rotl x 11)) ∧ w = w' := by
  have e1 : bits BinOp.and IntKind.u64 11 31 = 11 := by decide
  go_enter Try.func113, Try.ntmps113
  go_wp2
  go_ret
  exact ⟨rfl, rfl⟩

set_option maxHeartbeats 400000 in
theorem rot_9 (x : Int) (w : World) : Calls Try.prog 113 #[.int .u32 x, .int .i64 (9)] w fun e w' => e = .returned (.int .u32 (rotl x 9)) ∧ w = w' := by
  have e1 : bits BinOp.and IntKind.u64 9 31 = 9 := by decide
  go_enter Try.func113, Try.ntmps113
  go_wp2
  go_ret
  exact ⟨rfl, rfl⟩

set_option maxHeartbeats 400000 in
theorem rot_6 (x : Int) (w : World) : Calls Try.prog 113 #[.int .u32 x, .int .i64 (6)] w fun e w' => e = .returned (.int .u32 (rotl x 6)) ∧ w = w' := by
  have e1 : bits BinOp.and IntKind.u64 6 31 = 6 := by decide
  go_enter Try.func113, Try.ntmps113
  go_wp2
  go_ret
  exact ⟨rfl, rfl⟩

set_option maxHeartbeats 400000 in
theorem rot_m15 (x : Int) (w : World) : Calls Try.prog 113 #[.int .u32 x, .int .i64 (-15)] w fun e w' => e = .returned (.int .u32 (rotl x 17)) ∧ w = w' := by
  have e1 : bits BinOp.and IntKind.u64 (IntKind.u64.wrap (-15)) 31 = 17 := by decide
  go_enter Try.func113, Try.ntmps113
  go_wp2
  go_ret
  exact ⟨rfl, rfl⟩

set_option maxHeartbeats 400000 in
theorem rot_m11 (x : Int) (w : World) : Calls Try.prog 113 #[.int .u32 x, .int .i64 (-11)] w fun e w' => e = .returned (.int .u32 (rotl x 21)) ∧ w = w' := by
  have e1 : bits BinOp.and IntKind.u64 (IntKind.u64.wrap (-11)) 31 = 21 := by decide
  go_enter Try.func113, Try.ntmps113
  go_wp2
  go_ret
  exact ⟨rfl, rfl⟩

set_option maxHeartbeats 400000 in
theorem rot_m9 (x : Int) (w : World) : Calls Try.prog 113 #[.int .u32 x, .int .i64 (-9)] w fun e w' => e = .returned (.int .u32 (rotl x 23)) ∧ w = w' := by
  have e1 : bits BinOp.and IntKind.u64 (IntKind.u64.wrap (-9)) 31 = 23 := by decide
  go_enter Try.func113, Try.ntmps113
  go_wp2
  go_ret
  exact ⟨rfl, rfl⟩

set_option maxHeartbeats 400000 in
theorem rot_m6 (x : Int) (w : World) : Calls Try.prog 113 #[.int .u32 x, .int .i64 (-6)] w fun e w' => e = .returned (.int .u32 (rotl x 26)) ∧ w = w' := by
  have e1 : bits BinOp.and IntKind.u64 (IntKind.u64.wrap (-6)) 31 = 26 := by decide
  go_enter Try.func113, Try.ntmps113
  go_wp2
  go_ret
  exact ⟨rfl, rfl⟩

theorem grownBy_set (w w0 : World) (b i : Nat) (v : Value) (h : w0.grownBy w (some b)) : w0.grownBy (w.setCell ⟨b, i, none⟩ v) (some b) :=
  ⟨h.os, h.tape, h.output, by simpa [World.setCell] using h.size, fun k hk hne => by rw [Below.heap_setCell _ _ _ _ (by intro e; exact hne (by rw [e]))]; exact h.block k hk hne⟩
theorem grown4 (w : World) (b i j k l : Nat) (p q r s : Value) : w.grownBy ((((w.setCell ⟨b, i, none⟩ p).setCell ⟨b, j, none⟩ q).setCell ⟨b, k, none⟩ r).setCell ⟨b, l, none⟩ s) (some b) :=
  grownBy_set _ _ _ _ _ (grownBy_set _ _ _ _ _ (grownBy_set _ _ _ _ _ (grownBy_set _ _ _ _ _ (World.grownBy.refl _ _))))
theorem heap_set4 (w : World) (b i j k l : Nat) (cur : Array Value) (t : TypeId) (p q r s : Value) (h : w.heap[b]? = some (.cells cur t (0, 0))) :
    ((((w.setCell ⟨b, i, none⟩ p).setCell ⟨b, j, none⟩ q).setCell ⟨b, k, none⟩ r).setCell ⟨b, l, none⟩ s).heap[b]? = some (.cells ((((cur.setIfInBounds i p).setIfInBounds j q).setIfInBounds k r).setIfInBounds l s) t (0, 0)) :=
  heap_setCell_same _ _ _ _ _ _ (heap_setCell_same _ _ _ _ _ _ (heap_setCell_same _ _ _ _ _ _ (heap_setCell_same _ _ _ _ _ _ h)))

theorem at4 {w : World} {b t : Nat} {x : W4} (h : w.heap[b]? = some (.cells x.arr t (0, 0))) : w.cell? ⟨b, 0, none⟩ = some (.int .u32 x.a) ∧ w.cell? ⟨b, 1, none⟩ = some (.int .u32 x.b) ∧ w.cell? ⟨b, 2, none⟩ = some (.int .u32 x.c) ∧
    w.cell? ⟨b, 3, none⟩ = some (.int .u32 x.d) ∧ ∀ i, w.frozen? ⟨b, i, none⟩ = false := by
  refine ⟨?_, ?_, ?_, ?_, fun i => ?_⟩ <;> simp [World.cell?, World.frozen?, h]

set_option maxHeartbeats 400000 in
theorem half_any (b : Nat) (far near : Int) (hk : (far = 15 ∧ near = 11) ∨ (far = 9 ∧ near = 6)) (x : W4) (w : World) (hb : w.heap[b]? = some (.cells x.arr 115 (0, 0))) :
    Calls Try.prog 112 #[.int .i64 far, .int .i64 near, .pointer (some ⟨b, 0, none⟩)] w fun e w' => e = .returned (.tuple #[]) ∧ w.grownBy w' (some b) ∧ w'.heap[b]? = some (.cells (half far near x).arr 115 (0, 0)) := by
  obtain ⟨c0, c1, c2, c3, f0⟩ := at4 hb
  have H := Lib.hid hb
  clear hb
  rcases hk with ⟨rfl, rfl⟩ | ⟨rfl, rfl⟩
  · go_enter Try.func112, Try.ntmps112
    go_wp2_with (first
      | (go_at_call 113; (with_reducible refine (rot_15 _ _).mono ?_); rintro e w' ⟨rfl, rfl⟩)
      | (go_at_call 113; (with_reducible refine (rot_11 _ _).mono ?_); rintro e w' ⟨rfl, rfl⟩))
    go_end0
    exact ⟨rfl, grown4 _ _ _ _ _ _ _ _ _ _, heap_set4 w b _ _ _ _ _ _ _ _ _ _ H.out⟩
  · go_enter Try.func112, Try.ntmps112
    go_wp2_with (first
      | (go_at_call 113; (with_reducible refine (rot_9 _ _).mono ?_); rintro e w' ⟨rfl, rfl⟩)
      | (go_at_call 113; (with_reducible refine (rot_6 _ _).mono ?_); rintro e w' ⟨rfl, rfl⟩))
    go_end0
    exact ⟨rfl, grown4 _ _ _ _ _ _ _ _ _ _, heap_set4 w b _ _ _ _ _ _ _ _ _ _ H.out⟩

theorem grownBy_drew (w w0 : World) (b : Nat) (h : w0.grownBy w (some b)) : w0.grownBy w.drew (some b) := ⟨h.os, h.tape, h.output, h.size, h.block⟩
theorem grownBy_drewN (w w0 : World) (b q : Nat) (h : w0.grownBy w (some b)) : w0.grownBy (w.drewN q) (some b) := ⟨h.os, h.tape, h.output, h.size, h.block⟩
theorem abs_box {P : Program} {c : Code} {Q : Exit → Act → World → Prop} {a : Act} {w0 W : World} {b t : Nat} {cur : Array Value} (hg : w0.grownBy W (some b)) (hh : W.heap[b]? = some (.cells cur t (0, 0)))
    (h : ∀ w', w0.grownBy w' (some b) → w'.heap[b]? = some (.cells cur t (0, 0)) → c.wp P Q a w') : c.wp P Q a W := h _ hg hh
theorem at4' {w : World} {b t : Nat} {x0 x1 x2 x3 : Value} (h : w.heap[b]? = some (.cells #[x0, x1, x2, x3] t (0, 0))) : w.cell? ⟨b, 0, none⟩ = some x0 ∧ w.cell? ⟨b, 1, none⟩ = some x1 ∧ w.cell? ⟨b, 2, none⟩ = some x2 ∧
    w.cell? ⟨b, 3, none⟩ = some x3 ∧ ∀ i, w.frozen? ⟨b, i, none⟩ = false := by
  refine ⟨?_, ?_, ?_, ?_, fun i => ?_⟩ <;> simp [World.cell?, World.frozen?, h]

set_option maxHeartbeats 800000 in
theorem halfBack_any (b : Nat) (far near f n : Int) (hk : (far = 15 ∧ near = 11 ∧ f = 17 ∧ n = 21) ∨ (far = 9 ∧ near = 6 ∧ f = 23 ∧ n = 26)) (x : W4) (w0 : World) (hb : w0.heap[b]? = some (.cells x.arr 115 (0, 0))) :
    Calls Try.prog 118 #[.int .i64 far, .int .i64 near, .pointer (some ⟨b, 0, none⟩)] w0 fun e w' => e = .returned (.tuple #[]) ∧ w0.grownBy w' (some b) ∧ w'.heap[b]? = some (.cells (back f n x).arr 115 (0, 0)) := by
  obtain ⟨c0, c1, c2, c3, f0⟩ := at4 hb
  have HB := hb
  have HG := World.grownBy.refl w0 (some b)
  clear hb
  rcases hk with ⟨rfl, rfl, rfl, rfl⟩ | ⟨rfl, rfl, rfl, rfl⟩
  · have e1 : IntKind.i64.wrap (-11) = -11 := by decide
    have e2 : IntKind.i64.wrap (-15) = -15 := by decide
    go_enter Try.func118, Try.ntmps118
    go_wp2_with fail
    (refine wp_quiet_tail (C := fun w' => ∃ n, w' = World.drewN w0 n) 9 (by kernel_rfl) (by kernel_rfl) ⟨1, rfl⟩ ?_; simp only [List.take_succ_cons, List.take_zero, List.drop_succ_cons, List.drop_zero]; (repeat (go_big_quiet_step (((go_at_call 113; exact Calls.quiet_of_same ((rot_m11 _ _).mono fun _ _ h => ⟨h.1, h.2.symm⟩)))))); refine wpQuiet_nil ?_; rintro _ ⟨nq, rfl⟩)
    go_wp2_with fail
    clear c0 c1 c2 c3 f0
    (apply abs_box (w0 := w0) (b := b); (repeat (first | assumption | exact World.grownBy.refl _ _ | apply grownBy_set | apply grownBy_drew | apply grownBy_drewN | exact HB | apply heap_setCell_same)); clear HG HB; intro w HG HB; simp only [List.setIfInBounds_toArray, List.set_cons_zero, List.set_cons_succ] at HB)
    obtain ⟨c0, c1, c2, c3, f0⟩ := at4' HB
    have HB' := Lib.hid HB
    clear HB
    (refine wp_quiet_tail (C := fun w' => ∃ n, w' = World.drewN w n) 9 (by kernel_rfl) (by kernel_rfl) ⟨1, rfl⟩ ?_; simp only [List.take_succ_cons, List.take_zero, List.drop_succ_cons, List.drop_zero]; (repeat (go_big_quiet_step (((go_at_call 113; exact Calls.quiet_of_same ((rot_m15 _ _).mono fun _ _ h => ⟨h.1, h.2.symm⟩)))))); refine wpQuiet_nil ?_; rintro _ ⟨nq, rfl⟩)
    go_wp2_with fail
    go_end0
    have HB := HB'.out
    exact ⟨rfl, by (repeat (first | assumption | exact World.grownBy.refl _ _ | apply grownBy_set | apply grownBy_drew | apply grownBy_drewN | exact HB | apply heap_setCell_same)), heap_setCell_same _ _ _ _ _ _ (heap_setCell_same _ _ _ _ _ _ HB)⟩
  · have e1 : IntKind.i64.wrap (-6) = -6 := by decide
    have e2 : IntKind.i64.wrap (-9) = -9 := by decide
    go_enter Try.func118, Try.ntmps118
    go_wp2_with fail
    (refine wp_quiet_tail (C := fun w' => ∃ n, w' = World.drewN w0 n) 9 (by kernel_rfl) (by kernel_rfl) ⟨1, rfl⟩ ?_; simp only [List.take_succ_cons, List.take_zero, List.drop_succ_cons, List.drop_zero]; (repeat (go_big_quiet_step (((go_at_call 113; exact Calls.quiet_of_same ((rot_m6 _ _).mono fun _ _ h => ⟨h.1, h.2.symm⟩)))))); refine wpQuiet_nil ?_; rintro _ ⟨nq, rfl⟩)
    go_wp2_with fail
    clear c0 c1 c2 c3 f0
    (apply abs_box (w0 := w0) (b := b); (repeat (first | assumption | exact World.grownBy.refl _ _ | apply grownBy_set | apply grownBy_drew | apply grownBy_drewN | exact HB | apply heap_setCell_same)); clear HG HB; intro w HG HB; simp only [List.setIfInBounds_toArray, List.set_cons_zero, List.set_cons_succ] at HB)
    obtain ⟨c0, c1, c2, c3, f0⟩ := at4' HB
    have HB' := Lib.hid HB
    clear HB
    (refine wp_quiet_tail (C := fun w' => ∃ n, w' = World.drewN w n) 9 (by kernel_rfl) (by kernel_rfl) ⟨1, rfl⟩ ?_; simp only [List.take_succ_cons, List.take_zero, List.drop_succ_cons, List.drop_zero]; (repeat (go_big_quiet_step (((go_at_call 113; exact Calls.quiet_of_same ((rot_m9 _ _).mono fun _ _ h => ⟨h.1, h.2.symm⟩)))))); refine wpQuiet_nil ?_; rintro _ ⟨nq, rfl⟩)
    go_wp2_with fail
    go_end0
    have HB := HB'.out
    exact ⟨rfl, by (repeat (first | assumption | exact World.grownBy.refl _ _ | apply grownBy_set | apply grownBy_drew | apply grownBy_drewN | exact HB | apply heap_setCell_same)), heap_setCell_same _ _ _ _ _ _ (heap_setCell_same _ _ _ _ _ _ HB)⟩


theorem ret_arr4 {P : Program} {fn : Func} {R : Ending → World → Prop} {a : Act} {w0 w : World} {L : List Res} {p ty e b t : Nat} {x0 x1 x2 x3 : Value} (h : fn.results = #[.cell p ty]) (H : St w0 L w) (hi : In (.box b (.cells #[x0, x1, x2, x3] t (0, 0))) L)
    (hp : a.tmps.getD p undef = .pointer (some ⟨b, 0, none⟩)) (hu : P.underlying ty = some (.array 4 e)) (hs : (P.info? ty).map (·.size) = some 4) (hd : a.defers = []) (hR : R (.returned (.agg #[x0, x1, x2, x3])) w) : bodyPost P fn R .ret a w :=
  bodyPost_ret (results_cell_row h _ _ b t _ (0, 0) _ hp (H.heap hi) hu rfl (by simpa using hs)) hd hR
theorem undW : Try.prog.underlying 115 = some (.array 4 23) := by kernel_rfl
theorem szW : (Try.prog.info? 115).map (·.size) = some 4 := by kernel_rfl
theorem und4 : Try.prog.underlying 24 = some (.array 4 23) := by kernel_rfl
theorem sz4 : (Try.prog.info? 24).map (·.size) = some 4 := by kernel_rfl

set_option maxHeartbeats 400000 in
theorem turned_any (x : W4) (w0 : World) : Calls Try.prog 79 #[x.v] w0 fun e w' => e = .returned (turnW x).v ∧ St w0 [] w' := by
  have H := St.start w0
  go_enter Try.func79, Try.ntmps79
  go_wp2_with fail
  (apply abs_calls; (repeat (first | exact H | apply St.alloc | apply St.drewN | apply St.drew | exact Upd.here | apply Upd.there | exact Del.here | apply Del.there | exact In.here | apply In.there | apply St.set)); clear H; intro w H; try simp only [World.size_alloc] at H)
  (with_reducible refine (half_any _ 15 11 (.inl ⟨rfl, rfl⟩) x _ (H.heap (by (repeat (first | exact H | apply St.alloc | apply St.drewN | apply St.drew | exact Upd.here | apply Upd.there | exact Del.here | apply Del.there | exact In.here | apply In.there | apply St.set))))).mono ?_)
  rintro e w1 ⟨rfl, hg, hx⟩
  replace H := H.callBox hg hx (by (repeat (first | exact H | apply St.alloc | apply St.drewN | apply St.drew | exact Upd.here | apply Upd.there | exact Del.here | apply Del.there | exact In.here | apply In.there | apply St.set)))
  clear hg hx
  go_wp2_with fail
  (with_reducible refine (half_any _ 9 6 (.inr ⟨rfl, rfl⟩) (half 15 11 x) _ (H.heap (by (repeat (first | exact H | apply St.alloc | apply St.drewN | apply St.drew | exact Upd.here | apply Upd.there | exact Del.here | apply Del.there | exact In.here | apply In.there | apply St.set))))).mono ?_)
  rintro e w2 ⟨rfl, hg, hx⟩
  replace H := H.callBox hg hx (by (repeat (first | exact H | apply St.alloc | apply St.drewN | apply St.drew | exact Upd.here | apply Upd.there | exact Del.here | apply Del.there | exact In.here | apply In.there | apply St.set)))
  clear hg hx
  obtain ⟨c0, c1, c2, c3, _⟩ := H.cells4 (b := w0.heap.size) (by (repeat (first | exact H | apply St.alloc | apply St.drewN | apply St.drew | exact Upd.here | apply Upd.there | exact Del.here | apply Del.there | exact In.here | apply In.there | apply St.set)))
  obtain ⟨d0, d1, d2, d3, fz⟩ := H.cells4 (b := w0.heap.size + 1) (by (repeat (first | exact H | apply St.alloc | apply St.drewN | apply St.drew | exact Upd.here | apply Upd.there | exact Del.here | apply Del.there | exact In.here | apply In.there | apply St.set)))
  go_wp2_with fail
  (apply abs_post; (repeat (first | exact H | apply St.alloc | apply St.drewN | apply St.drew | exact Upd.here | apply Upd.there | exact Del.here | apply Del.there | exact In.here | apply In.there | apply St.set)); clear H; intro w H; simp only [List.setIfInBounds_toArray, List.set_cons_zero, List.set_cons_succ] at H)
  exact ret_arr4 rfl H .here rfl undW szW rfl ⟨rfl, st_drop H⟩

set_option maxHeartbeats 400000 in
theorem undone_any (x : W4) (w0 : World) : Calls Try.prog 85 #[x.v] w0 fun e w' => e = .returned (backW x).v ∧ St w0 [] w' := by
  have H := St.start w0
  go_enter Try.func85, Try.ntmps85
  go_wp2_with fail
  (apply abs_calls; (repeat (first | exact H | apply St.alloc | apply St.drewN | apply St.drew | exact Upd.here | apply Upd.there | exact Del.here | apply Del.there | exact In.here | apply In.there | apply St.set)); clear H; intro w H; try simp only [World.size_alloc] at H)
  (with_reducible refine (halfBack_any _ 9 6 23 26 (.inr ⟨rfl, rfl, rfl, rfl⟩) x _ (H.heap (by (repeat (first | exact H | apply St.alloc | apply St.drewN | apply St.drew | exact Upd.here | apply Upd.there | exact Del.here | apply Del.there | exact In.here | apply In.there | apply St.set))))).mono ?_)
  rintro e w1 ⟨rfl, hg, hx⟩
  replace H := H.callBox hg hx (by (repeat (first | exact H | apply St.alloc | apply St.drewN | apply St.drew | exact Upd.here | apply Upd.there | exact Del.here | apply Del.there | exact In.here | apply In.there | apply St.set)))
  clear hg hx
  go_wp2_with fail
  (with_reducible refine (halfBack_any _ 15 11 17 21 (.inl ⟨rfl, rfl, rfl, rfl⟩) (back 23 26 x) _ (H.heap (by (repeat (first | exact H | apply St.alloc | apply St.drewN | apply St.drew | exact Upd.here | apply Upd.there | exact Del.here | apply Del.there | exact In.here | apply In.there | apply St.set))))).mono ?_)
  rintro e w2 ⟨rfl, hg, hx⟩
  replace H := H.callBox hg hx (by (repeat (first | exact H | apply St.alloc | apply St.drewN | apply St.drew | exact Upd.here | apply Upd.there | exact Del.here | apply Del.there | exact In.here | apply In.there | apply St.set)))
  clear hg hx
  obtain ⟨c0, c1, c2, c3, _⟩ := H.cells4 (b := w0.heap.size) (by (repeat (first | exact H | apply St.alloc | apply St.drewN | apply St.drew | exact Upd.here | apply Upd.there | exact Del.here | apply Del.there | exact In.here | apply In.there | apply St.set)))
  obtain ⟨d0, d1, d2, d3, fz⟩ := H.cells4 (b := w0.heap.size + 1) (by (repeat (first | exact H | apply St.alloc | apply St.drewN | apply St.drew | exact Upd.here | apply Upd.there | exact Del.here | apply Del.there | exact In.here | apply In.there | apply St.set)))
  go_wp2_with fail
  (apply abs_post; (repeat (first | exact H | apply St.alloc | apply St.drewN | apply St.drew | exact Upd.here | apply Upd.there | exact Del.here | apply Del.there | exact In.here | apply In.there | apply St.set)); clear H; intro w H; simp only [List.setIfInBounds_toArray, List.set_cons_zero, List.set_cons_succ] at H)
  exact ret_arr4 rfl H .here rfl undW szW rfl ⟨rfl, st_drop H⟩

end Go.Proofs.Ytcmhobabbklnhaa
