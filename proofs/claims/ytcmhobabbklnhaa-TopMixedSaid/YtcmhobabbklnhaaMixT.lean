/- Walks and laws behind the proofs of the given rows of this seat (each: the law returns true whatever the input, and the input reads as it did). Conditions: none. -/
import Derived.Test.YtcmhobabbklnhaaProg
import Derived.Test.YtcmhobabbklnhaaReg
import Derived.WalkSpells
import Derived.Deep.DeepMust
import Derived.WalkLawsBesides
import Derived.BigQuiet
import Derived.Deep.RegionHeld3
import Derived.Test.YtcmhobabbklnhaaMix
namespace Go.Proofs.Ytcmhobabbklnhaa
open Go.RowKit Go.BigFrame
attribute [local go_sem] xr_fold

set_option maxHeartbeats 1000000 in
theorem turn01_any (x : W4) (w0 : World) : Calls Try.prog 22 #[x.v] w0 fun e w' => e = .returned (turnW x).v ∧ St w0 [] w' := by
  have H := St.start w0
  go_enter Try.func22, Try.ntmps22
  go_wp2_with fail
  (apply abs_wp; (repeat (first | exact H | apply St.alloc | apply St.drewN | apply St.drew | exact Upd.here | apply Upd.there | exact Del.here | apply Del.there | exact In.here | apply In.there | apply St.set)); clear H; intro w H; try simp only [World.size_alloc] at H)
  obtain ⟨q0, q1, q2, q3⟩ := H.of4 (b := w0.heap.size) (by (repeat (first | exact H | apply St.alloc | apply St.drewN | apply St.drew | exact Upd.here | apply Upd.there | exact Del.here | apply Del.there | exact In.here | apply In.there | apply St.set)))
  (have hne := Nonempty.intro (Wd.mk _ H); refine y_quiet H (by kernel_rfl) (by kernel_rfl) ?_; (repeat (go_big_quiet_step (fail))); refine wpQuiet_nil ?_; clear H hne; rintro _ ⟨⟨w, H⟩, rfl⟩)
  clear q0 q1 q2 q3
  go_wp2_with (go_at_call 80; (apply abs_calls; (repeat (first | exact H | apply St.alloc | apply St.drewN | apply St.drew | exact Upd.here | apply Upd.there | exact Del.here | apply Del.there | exact In.here | apply In.there | apply St.set)); clear H; intro w H; try simp only [World.size_alloc] at H); (with_reducible refine (left01_any _ _ (by omega) (by omega) _).mono ?_); rintro e w1 ⟨rfl, hs⟩; replace H := H.call0 hs; clear hs; obtain ⟨d0, d1, d2, d3, fz⟩ := H.cells4 (b := w0.heap.size + 1) (by (repeat (first | exact H | apply St.alloc | apply St.drewN | apply St.drew | exact Upd.here | apply Upd.there | exact Del.here | apply Del.there | exact In.here | apply In.there | apply St.set))))
  (apply abs_post; (repeat (first | exact H | apply St.alloc | apply St.drewN | apply St.drew | exact Upd.here | apply Upd.there | exact Del.here | apply Del.there | exact In.here | apply In.there | apply St.set)); clear H; intro w H; simp only [List.setIfInBounds_toArray, List.set_cons_zero, List.set_cons_succ] at H)
  exact ret_arr4 rfl H .here rfl und4 sz4 rfl ⟨by simp [turnW, half], st_drop H⟩

set_option maxHeartbeats 1000000 in
theorem back01_any (x : W4) (w0 : World) : Calls Try.prog 23 #[x.v] w0 fun e w' => e = .returned (backW x).v ∧ St w0 [] w' := by
  have H := St.start w0
  go_enter Try.func23, Try.ntmps23
  go_wp2_with fail
  (apply abs_wp; (repeat (first | exact H | apply St.alloc | apply St.drewN | apply St.drew | exact Upd.here | apply Upd.there | exact Del.here | apply Del.there | exact In.here | apply In.there | apply St.set)); clear H; intro w H; try simp only [World.size_alloc] at H)
  obtain ⟨q0, q1, q2, q3⟩ := H.of4 (b := w0.heap.size) (by (repeat (first | exact H | apply St.alloc | apply St.drewN | apply St.drew | exact Upd.here | apply Upd.there | exact Del.here | apply Del.there | exact In.here | apply In.there | apply St.set)))
  (have hne := Nonempty.intro (Wd.mk _ H); refine y_quiet H (by kernel_rfl) (by kernel_rfl) ?_; (repeat (go_big_quiet_step (fail))); refine wpQuiet_nil ?_; clear H hne; rintro _ ⟨⟨w, H⟩, rfl⟩)
  clear q0 q1 q2 q3
  go_wp2_with (go_at_call 80; (apply abs_calls; (repeat (first | exact H | apply St.alloc | apply St.drewN | apply St.drew | exact Upd.here | apply Upd.there | exact Del.here | apply Del.there | exact In.here | apply In.there | apply St.set)); clear H; intro w H; try simp only [World.size_alloc] at H); (with_reducible refine (left01_any _ _ (by omega) (by omega) _).mono ?_); rintro e w1 ⟨rfl, hs⟩; replace H := H.call0 hs; clear hs; obtain ⟨d0, d1, d2, d3, fz⟩ := H.cells4 (b := w0.heap.size + 1) (by (repeat (first | exact H | apply St.alloc | apply St.drewN | apply St.drew | exact Upd.here | apply Upd.there | exact Del.here | apply Del.there | exact In.here | apply In.there | apply St.set))))
  (apply abs_post; (repeat (first | exact H | apply St.alloc | apply St.drewN | apply St.drew | exact Upd.here | apply Upd.there | exact Del.here | apply Del.there | exact In.here | apply In.there | apply St.set)); clear H; intro w H; simp only [List.setIfInBounds_toArray, List.set_cons_zero, List.set_cons_succ] at H)
  exact ret_arr4 rfl H .here rfl und4 sz4 rfl ⟨by simp [backW, back], st_drop H⟩

set_option maxHeartbeats 400000 in
theorem Turn_any (x : W4) (w0 : World) : Calls Try.prog 21 #[x.v] w0 fun e w' => e = .returned (turnW x).v ∧ St w0 [] w' := by
  have H := St.start w0
  go_enter Try.func21, Try.ntmps21
  go_wp2_with (go_at_call 79; (apply abs_calls; (repeat (first | exact H | apply St.alloc | apply St.drewN | apply St.drew | exact Upd.here | apply Upd.there | exact Del.here | apply Del.there | exact In.here | apply In.there | apply St.set)); clear H; intro w H; try simp only [World.size_alloc] at H); (with_reducible refine (turned_any x _).mono ?_); rintro e w1 ⟨rfl, hs⟩; replace H := H.call0 hs; clear hs; obtain ⟨d0, d1, d2, d3, fz⟩ := H.cells4 (b := w0.heap.size + 1) (by (repeat (first | exact H | apply St.alloc | apply St.drewN | apply St.drew | exact Upd.here | apply Upd.there | exact Del.here | apply Del.there | exact In.here | apply In.there | apply St.set))))
  (apply abs_post; (repeat (first | exact H | apply St.alloc | apply St.drewN | apply St.drew | exact Upd.here | apply Upd.there | exact Del.here | apply Del.there | exact In.here | apply In.there | apply St.set)); clear H; intro w H; simp only [List.setIfInBounds_toArray, List.set_cons_zero, List.set_cons_succ] at H)
  exact ret_arr4 rfl H .here rfl und4 sz4 rfl ⟨rfl, st_drop H⟩

set_option maxHeartbeats 400000 in
theorem Back_any (x : W4) (w0 : World) : Calls Try.prog 34 #[x.v] w0 fun e w' => e = .returned (backW x).v ∧ St w0 [] w' := by
  have H := St.start w0
  go_enter Try.func34, Try.ntmps34
  go_wp2_with (go_at_call 85; (apply abs_calls; (repeat (first | exact H | apply St.alloc | apply St.drewN | apply St.drew | exact Upd.here | apply Upd.there | exact Del.here | apply Del.there | exact In.here | apply In.there | apply St.set)); clear H; intro w H; try simp only [World.size_alloc] at H); (with_reducible refine (undone_any x _).mono ?_); rintro e w1 ⟨rfl, hs⟩; replace H := H.call0 hs; clear hs; obtain ⟨d0, d1, d2, d3, fz⟩ := H.cells4 (b := w0.heap.size + 1) (by (repeat (first | exact H | apply St.alloc | apply St.drewN | apply St.drew | exact Upd.here | apply Upd.there | exact Del.here | apply Del.there | exact In.here | apply In.there | apply St.set))))
  (apply abs_post; (repeat (first | exact H | apply St.alloc | apply St.drewN | apply St.drew | exact Upd.here | apply Upd.there | exact Del.here | apply Del.there | exact In.here | apply In.there | apply St.set)); clear H; intro w H; simp only [List.setIfInBounds_toArray, List.set_cons_zero, List.set_cons_succ] at H)
  exact ret_arr4 rfl H .here rfl und4 sz4 rfl ⟨rfl, st_drop H⟩

def oftenW : Nat → W4 → W4
  | 0, x => x
  | n + 1, x => turnW (oftenW n x)

set_option maxHeartbeats 400000 in
theorem often_any (x : W4) (n : Int) (h0 : 0 ≤ n) (hn : n ≤ 1000) (w0 : World) : Calls Try.prog 117 #[x.v, .int .i64 n] w0 fun e w' => e = .returned (oftenW n.toNat x).v ∧ St w0 [] w' := by
  have H := St.start w0
  go_enter Try.func117, Try.ntmps117
  go_wp2_with fail
  (apply abs_wp; (repeat (first | exact H | apply St.alloc | apply St.drewN | apply St.drew | exact Upd.here | apply Upd.there | exact Del.here | apply Del.there | exact In.here | apply In.there | apply St.set)); clear H; intro w H; try simp only [World.size_alloc] at H)
  go_loopw [6] (fun i wr => ∃ (k : Nat), i = .int .i64 k ∧ (k : Int) ≤ n ∧ St w0 [B4 (w0.heap.size + 1) ⟨0, 0, 0, 0⟩ 115, B4 w0.heap.size (oftenW k x) 115] wr) (fun i _ => n.toNat - (intOf i).toNat)
  case atStart => exact ⟨0, rfl, h0, H⟩
  case round =>
    clear H
    obtain ⟨k, rfl, hk, H⟩ := hrel
    obtain ⟨c0, c1, c2, c3, fc⟩ := H.cells4 (b := w0.heap.size) (by (repeat (first | exact H | apply St.alloc | apply St.drewN | apply St.drew | exact Upd.here | apply Upd.there | exact Del.here | apply Del.there | exact In.here | apply In.there | apply St.set)))
    obtain ⟨d0, d1, d2, d3, fz⟩ := H.cells4 (b := w0.heap.size + 1) (by (repeat (first | exact H | apply St.alloc | apply St.drewN | apply St.drew | exact Upd.here | apply Upd.there | exact Del.here | apply Del.there | exact In.here | apply In.there | apply St.set)))
    go_wp2_with (go_at_call 79; (apply abs_calls; (repeat (first | exact H | apply St.alloc | apply St.drewN | apply St.drew | exact Upd.here | apply Upd.there | exact Del.here | apply Del.there | exact In.here | apply In.there | apply St.set)); clear H; intro w H; try simp only [World.size_alloc] at H); (with_reducible refine (turned_any (oftenW k x) _).mono ?_); rintro e w1 ⟨rfl, hs⟩; replace H := H.call0 hs; clear hs; obtain ⟨d0, d1, d2, d3, fz⟩ := H.cells4 (b := w0.heap.size) (by (repeat (first | exact H | apply St.alloc | apply St.drewN | apply St.drew | exact Upd.here | apply Upd.there | exact Del.here | apply Del.there | exact In.here | apply In.there | apply St.set))))
    · exact ⟨⟨k + 1, by go_num, by omega, H.set4 (by (repeat (first | exact H | apply St.alloc | apply St.drewN | apply St.drew | exact Upd.here | apply Upd.there | exact Del.here | apply Del.there | exact In.here | apply In.there | apply St.set)))⟩, by simp [intOf]; omega⟩
    · obtain rfl : n = k := by omega
      (apply abs_post; (repeat (first | exact H | apply St.alloc | apply St.drewN | apply St.drew | exact Upd.here | apply Upd.there | exact Del.here | apply Del.there | exact In.here | apply In.there | apply St.set)); clear H; intro w H; simp only [List.setIfInBounds_toArray, List.set_cons_zero, List.set_cons_succ] at H)
      exact ret_arr4 rfl H .here rfl undW szW rfl ⟨rfl, st_drop H⟩

end Go.Proofs.Ytcmhobabbklnhaa
