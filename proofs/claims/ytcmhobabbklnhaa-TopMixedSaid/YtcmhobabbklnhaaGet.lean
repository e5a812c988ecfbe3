/- Walks and laws behind the proofs of the given rows of this seat (each: the law returns true whatever the input, and the input reads as it did). Conditions: none. -/
import Derived.Test.YtcmhobabbklnhaaProg
import Derived.Test.YtcmhobabbklnhaaReg
import Derived.WalkSpells
import Derived.Deep.DeepMust
import Derived.WalkLawsBesides
import Derived.BigQuiet
import Derived.Deep.RegionHeld3
import Derived.Test.YtcmhobabbklnhaaIter
namespace Go.Proofs.Ytcmhobabbklnhaa
open Go.RowKit Go.BigFrame
attribute [local go_sem] Oper.semAt_some

/-- the number of bytes, the lowest first -/
def leN (l : List Int) : Int := l.foldr (fun c n => 256 * n + c) 0

set_option maxHeartbeats 400000 in
theorem sized_t (sz : Int) (h1 : 1 ≤ sz) (h2 : sz ≤ 4) (w0 : World) : Calls Try.prog 81 #[.int .i64 sz] w0 fun e w' => e = .returned (.bool true) ∧ w0 = w' := by
  go_enter Try.func81, Try.ntmps81
  go_wp2
  go_ret
  exact ⟨rfl, rfl⟩
set_option maxHeartbeats 400000 in
theorem sized_f (sz : Int) (h : sz < 1 ∨ 4 < sz) (w0 : World) : Calls Try.prog 81 #[.int .i64 sz] w0 fun e w' => e = .returned (.bool false) ∧ w0 = w' := by
  by_cases h1 : sz < 1
  · go_enter Try.func81, Try.ntmps81
    go_wp2
    go_ret
    exact ⟨rfl, rfl⟩
  · have h2 : 4 < sz := by omega
    have h3 : 0 < sz := by omega
    clear h
    go_enter Try.func81, Try.ntmps81
    go_wp2
    go_ret
    exact ⟨by simp; omega, rfl⟩

set_option maxHeartbeats 400000 in
theorem Get_arg (a : Option Addr) (len cap : Nat) (at_ sz : Int) (hlen : (len : Int) ≤ 140737488351232) (h : sz < 1 ∨ 4 < sz ∨ at_ < 0 ∨ len < at_) (w0 : World) :
    Calls Try.prog 28 #[.slice a len cap, .int .i64 at_, .int .i64 sz] w0 fun e w' => e = .returned (.tuple #[.int .i64 0, .int .i64 2]) ∧ St w0 [] w' := by
  have H := St.start w0
  by_cases h1 : sz < 1 ∨ 4 < sz
  · go_enter Try.func28, Try.ntmps28
    go_wp2_with (go_at_call 81; (with_reducible refine (sized_f _ h1 _).mono ?_); rintro e w' ⟨rfl, rfl⟩)
    go_ret2
    exact ⟨rfl, H⟩
  · have h4 : 1 ≤ sz := by omega
    have h5 : sz ≤ 4 := by omega
    by_cases h3 : at_ < 0
    · clear h h1
      go_enter Try.func28, Try.ntmps28
      go_wp2_with (go_at_call 81; (with_reducible refine (sized_t _ h4 h5 _).mono ?_); rintro e w' ⟨rfl, rfl⟩)
      go_ret2
      exact ⟨rfl, H⟩
    · have h6 : len < at_ := by omega
      clear h h1
      go_enter Try.func28, Try.ntmps28
      go_wp2_with (go_at_call 81; (with_reducible refine (sized_t _ h4 h5 _).mono ?_); rintro e w' ⟨rfl, rfl⟩)
      go_ret2
      exact ⟨rfl, H⟩

set_option maxHeartbeats 400000 in
theorem Get_bad (a : Option Addr) (len cap : Nat) (at_ sz : Int) (hlen : (len : Int) ≤ 140737488351232) (h1 : 1 ≤ sz) (h2 : sz ≤ 4) (h3 : 0 ≤ at_) (h4 : at_ ≤ len) (h5 : len < at_ + sz) (w0 : World) :
    Calls Try.prog 28 #[.slice a len cap, .int .i64 at_, .int .i64 sz] w0 fun e w' => e = .returned (.tuple #[.int .i64 0, .int .i64 8]) ∧ St w0 [] w' := by
  have H := St.start w0
  go_enter Try.func28, Try.ntmps28
  go_wp2_with (go_at_call 81; (with_reducible refine (sized_t _ h1 h2 _).mono ?_); rintro e w' ⟨rfl, rfl⟩)
  go_ret2
  exact ⟨rfl, H⟩

set_option maxHeartbeats 400000 in
theorem Backward_any (a : Option Addr) (n c : Nat) (w0 : World) : Calls Try.prog 82 #[.slice a n c] w0 fun e w' => ∃ b, e = .returned (.func (.func 114) #[] #[.pointer (some ⟨b, 0, none⟩)]) ∧ St w0 [.box b (.cells #[.slice a n c] 22 (0, 0))] w' := by
  have H := St.start w0
  go_enter Try.func82, Try.ntmps82
  go_wp2
  go_ret
  exact ⟨_, rfl, St.alloc1 _ _⟩

def accB (xs : List Int) (pre : List Nat) : Int := pre.foldl (fun n i => wrap64 (wrap64 (256 * n) + wrap64 (xs[i]?.getD 0))) 0
theorem accB_snoc (xs : List Int) (pre : List Nat) (i : Nat) : accB xs (pre ++ [i]) = wrap64 (wrap64 (256 * accB xs pre) + wrap64 (xs[i]?.getD 0)) := by simp [accB]

theorem w64 {x : Int} (h0 : 0 ≤ x) (h1 : x < 9223372036854775808) : wrap64 x = x := by unfold wrap64; omega
theorem Byt.mem {l : List Int} (h : Byt l) {x : Int} (hx : x ∈ l) : 0 ≤ x ∧ x < 256 := h x hx
theorem accB_all (ys : List Int) (m : Nat) (hl : ys.length = m) (h4 : m ≤ 4) (hB : Byt ys) : accB ys (upto (fun j => m - 1 - j) m) = leN ys := by
  subst hl
  exact match ys, h4, hB with
  | [], _, _ => rfl
  | [a], _, hB => by
    have ha := hB.mem (x := a) (by simp)
    simp only [accB, upto, leN, List.length_cons, List.length_nil, List.range_succ, List.range_zero, List.map_append, List.map_nil, List.map_cons, List.nil_append, List.foldl_cons, List.foldl_nil, List.foldr_cons, List.foldr_nil]
    simp [wrap64]
    omega
  | [a, b], _, hB => by
    have ha := hB.mem (x := a) (by simp)
    have hb := hB.mem (x := b) (by simp)
    simp only [accB, upto, leN, List.length_cons, List.length_nil, List.range_succ, List.range_zero, List.map_append, List.map_nil, List.map_cons, List.nil_append, List.foldl_cons, List.foldl_nil, List.foldr_cons, List.foldr_nil, List.cons_append]
    simp
    unfold wrap64; omega
  | [a, b, c], _, hB => by
    have ha := hB.mem (x := a) (by simp)
    have hb := hB.mem (x := b) (by simp)
    have hc := hB.mem (x := c) (by simp)
    simp only [accB, upto, leN, List.length_cons, List.length_nil, List.range_succ, List.range_zero, List.map_append, List.map_nil, List.map_cons, List.nil_append, List.foldl_cons, List.foldl_nil, List.foldr_cons, List.foldr_nil, List.cons_append]
    simp
    unfold wrap64; omega
  | [a, b, c, d], _, hB => by
    have ha := hB.mem (x := a) (by simp)
    have hb := hB.mem (x := b) (by simp)
    have hc := hB.mem (x := c) (by simp)
    have hd := hB.mem (x := d) (by simp)
    simp only [accB, upto, leN, List.length_cons, List.length_nil, List.range_succ, List.range_zero, List.map_append, List.map_nil, List.map_cons, List.nil_append, List.foldl_cons, List.foldl_nil, List.foldr_cons, List.foldr_nil, List.cons_append]
    simp
    unfold wrap64; omega
  | _ :: _ :: _ :: _ :: _ :: _, h, _ => by simp at h
theorem Byt.drop {l : List Int} (h : Byt l) (k : Nat) : Byt (l.drop k) := fun x hx => h x (List.mem_of_mem_drop hx)
theorem Byt.take {l : List Int} (h : Byt l) (k : Nat) : Byt (l.take k) := fun x hx => h x (List.mem_of_mem_take hx)

set_option maxHeartbeats 1000000 in
theorem Get_ok (a : Option Addr) (len cap : Nat) (xs : List Int) (at_ sz : Int) (hlen : (len : Int) ≤ 140737488351232) (h1 : 1 ≤ sz) (h2 : sz ≤ 4) (h3 : 0 ≤ at_) (h5 : at_ + sz ≤ len) (w0 : World) (R : Rd w0 a len cap (bs xs) 1) (hB : Byt xs) :
    Calls Try.prog 28 #[.slice a len cap, .int .i64 at_, .int .i64 sz] w0 fun e w' => e = .returned (.tuple #[.int .i64 (leN ((xs.drop at_.toNat).take sz.toNat)), .int .i64 0]) ∧ St w0 [] w' := by
  have H := St.start w0
  have hcl := R.le
  refine callsIn_wide.1 (callsIn_of_wp_marks (n := 5) Try.func28 rfl trivial (wpIn_wide.2 ?_) rfl)
  simp only [Try.ntmps28, List.size_toArray, List.length_cons, List.length_nil, Nat.reduceAdd, Nat.reduceSub, Array.replicate_succ, Array.replicate_zero, List.push_toArray, List.append_toArray, List.nil_append, List.cons_append]
  go_wp2_with (first
    | (go_at_call 81; (with_reducible refine (sized_t _ h1 h2 _).mono ?_); rintro e w' ⟨rfl, rfl⟩)
    | ((with_reducible apply y_slice_lh rfl _ _ _ tfB rfl rfl rfl rfl); omega; omega; omega; omega; intro a' c' HP)
    | (go_at_call 82; (apply abs_calls; (repeat (first | exact H | apply St.alloc | apply St.drewN | apply St.drew | exact Upd.here | apply Upd.there | exact Del.here | apply Del.there | exact In.here | apply In.there | apply St.set)); clear H; intro w H; try simp only [World.size_alloc] at H); (with_reducible refine (Backward_any _ _ _ _).mono ?_); rintro e w1 ⟨b, rfl, hs⟩; replace H := H.call hs; clear hs))
  simp only [show at_ + sz - at_ = sz by omega] at H HP ⊢
  obtain ⟨m, rfl⟩ : ∃ m : Nat, sz = m := ⟨sz.toNat, by omega⟩
  simp only [Int.toNat_natCast] at H HP ⊢
  obtain ⟨ys, hys⟩ : ∃ ys, ys = (xs.drop at_.toNat).take m := ⟨_, rfl⟩
  have HY := Lib.hid hys
  have hyl : ys.length = m := by rw [hys, List.length_take, List.length_drop]; have := R.len; rw [bs_len] at this; omega
  have R' : Rd w1 a' m c' (bs ys) 1 := by
    have := HP.rd w1 _ (R.st H)
    rw [hys]; simpa [bs, List.map_take, List.map_drop] using this
  have hbl : b < w1.heap.size := (H.holds _ List.mem_cons_self).lt (k := b) rfl
  have hbne : b ≠ w0.heap.size := fun e => by
    have := List.pairwise_cons.1 H.apart
    exact this.1 _ List.mem_cons_self b rfl e
  have hblk : ∀ p, a' = some p → 0 < (bs ys).length → p.block < w1.heap.size ∧ p.block ≠ w0.heap.size := by
    intro p hp h0
    obtain ⟨q, hq, e⟩ := HP.blk p hp
    obtain ⟨b', off, ha, hc⟩ := R.at (by rw [bs_len] at h0 ⊢; have := R.len; rw [bs_len] at this; omega)
    have h1 := World.block_lt_of_cell? w0 _ (hc 0 _ (List.getElem?_eq_getElem (by have := R.len; rw [this]; omega)))
    rw [ha] at hq
    cases hq
    rw [e]
    have := H.size
    exact ⟨by simp at h1 ⊢; omega, by simp at h1 ⊢; omega⟩
  have hBs : w1.cell? ⟨b, 0, none⟩ = some (.slice a' m c') := H.cell .here rfl
  have hseq : SeqStopsK Fence.wide 4 Try.prog 114 #[.pointer (some ⟨b, 0, none⟩)] (fun i : Nat => #[Value.int .i64 (i : Int), Value.int .u8 (ys[i]?.getD 0)]) (Kx w1.heap.size w0.heap.size)
      (fun l => l = upto (fun j => m - 1 - j) m) (fun _ => True) m w1 := by
    intro l J Jx W hW _ _ hY h0
    refine (backward1_in 4 l b w1.heap.size w0.heap.size a' m c' ys hyl (by omega) hbl hbne hblk J Jx hY W ((hW.cell (p := ⟨b, 0, none⟩) hbl).trans hBs) (R'.below fun k hk => hW.block k hk) h0).mono ?_
    rintro e W' ⟨he, ⟨zs, hz, hj⟩ | ⟨pre, _, hj⟩⟩
    · exact ⟨he, .inl ⟨zs, hz, hj⟩⟩
    · exact ⟨he, .inr ⟨pre, trivial, hj⟩⟩
  clear hys R' hblk hBs
  have hsz1 := H.size
  refine (wpIn_wide (n := 5)).1 ?_
  apply wpIn_rangeFunc_ownF (F := Fence.wide) (n := 5) rfl (by omega) (gf := 114) (lb := #[.pointer (some ⟨b, 0, none⟩)]) rfl trivial (Go.Proofs.enters_of Try.func114 (by kernel_rfl) rfl) hseq
    (fun h k => h.trans k) (fun W l o o' hl _ _ _ => Kx.put W l o' hl) (Below.refl _ _) (fun _ => rfl)
    (fun pre W => St w0 [.box b (.cells #[.slice a' m c'] 22 (0, 0)), .box w0.heap.size (.cells #[.int .i64 (accB ys pre)] 3 (0, 0))] W)
    (fun _ _ _ => False) (ownFrom_st (by simp [Res.plain]) H.size) (fun _ _ _ _ _ h _ _ => h) H
  · intro l x W K hK
    gi_wp2
    exact hK
  · rintro l pre x W H _
    refine wpIn_block ?_
    obtain ⟨c0, fz⟩ := H.cells1 (b := w0.heap.size) (by (repeat (first | exact H | apply St.alloc | apply St.drewN | apply St.drew | exact Upd.here | apply Upd.there | exact Del.here | apply Del.there | exact In.here | apply In.there | apply St.set)))
    refine region_rn (by kernel_rfl) (letsOut_inBlock letsOut_own) ?_
    go_wp2
    exact ⟨KeepsOthers.setCell _ _ _, fun k _ hne => heap_setCell_other _ _ _ _ hne, by simp only [accB_snoc]; exact H.set (by (repeat (first | exact H | apply St.alloc | apply St.drewN | apply St.drew | exact Upd.here | apply Upd.there | exact Del.here | apply Del.there | exact In.here | apply In.there | apply St.set)))⟩
  · rintro D zs W hD hz H hK
    have HM := H.mark (by simp [Res.plain]) (Nat.le_trans hsz1 hD) hK rfl
    obtain ⟨c0, fz⟩ := H.cells1 (b := w0.heap.size) (by (repeat (first | exact H | apply St.alloc | apply St.drewN | apply St.drew | exact Upd.here | apply Upd.there | exact Del.here | apply Del.there | exact In.here | apply In.there | apply St.set)))
    clear H
    go_wp2
    refine bodyPostM_mark HM rfl (fun w => results_tmp2 rfl _ _ w) fun w' hs => ⟨?_, st_drop hs⟩
    have e := accB_all ys m hyl (by omega) (by rw [HY.out]; exact (hB.drop _).take _)
    rw [Int.toNat_natCast, ← HY.out, ← e]
    rfl
  · rintro D c pre W hD _ h _
    exact h.elim

end Go.Proofs.Ytcmhobabbklnhaa
