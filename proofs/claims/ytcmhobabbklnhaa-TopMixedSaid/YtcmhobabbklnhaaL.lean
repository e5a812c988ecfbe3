/- Walks and laws behind the proofs of the given rows of this seat (each: the law returns true whatever the input, and the input reads as it did). Conditions: none. -/
import Derived.Test.YtcmhobabbklnhaaProg
import Derived.Test.YtcmhobabbklnhaaReg
import Derived.WalkSpells
import Derived.Deep.DeepMust
import Derived.WalkLawsBesides
import Derived.BigQuiet
import Derived.Deep.RegionHeld3
import Derived.Test.YtcmhobabbklnhaaI
import Derived.Test.YtcmhobabbklnhaaK
import Derived.ChangeKeysEq
namespace Go.Proofs.Ytcmhobabbklnhaa
open Go.RowKit Go.BigFrame
attribute [local go_sem] Oper.semAt_some

theorem undU : Try.prog.underlying 23 = some (.int .u32) := by kernel_rfl
theorem eq4 (x : W4) (w : World) : (Op.equalIn 10000 24 (.agg #[.int .u32 x.a, .int .u32 x.b, .int .u32 x.c, .int .u32 x.d]) (.agg #[.int .u32 x.a, .int .u32 x.b, .int .u32 x.c, .int .u32 x.d])).run Try.prog w = .ok true w := by
  have hs : (Try.prog.info? 23).isSome = true := by kernel_rfl
  obtain ⟨i, hi⟩ := Option.isSome_iff_exists.1 hs
  have p0 : (part 23 #[.int .u32 x.a, .int .u32 x.b, .int .u32 x.c, .int .u32 x.d] 0).run Try.prog w = .ok (.int .u32 x.a) w := by kernel_rfl
  have p1 : (part 23 #[.int .u32 x.a, .int .u32 x.b, .int .u32 x.c, .int .u32 x.d] 1).run Try.prog w = .ok (.int .u32 x.b) w := by kernel_rfl
  have p2 : (part 23 #[.int .u32 x.a, .int .u32 x.b, .int .u32 x.c, .int .u32 x.d] 2).run Try.prog w = .ok (.int .u32 x.c) w := by kernel_rfl
  have p3 : (part 23 #[.int .u32 x.a, .int .u32 x.b, .int .u32 x.c, .int .u32 x.d] 3).run Try.prog w = .ok (.int .u32 x.d) w := by kernel_rfl
  have hc : Try.prog.cellsOf 23 = 1 := by kernel_rfl
  rw [show (10000 : Nat) = 9998 + 1 + 1 from rfl, run_equalIn_array w (9998 + 1) _ _ und4 hi, hc]
  simp [Op.eqItems, List.range_succ, List.range_zero, p0, p1, p2, p3, run_equalIn_int w 9998 23 .u32 .u32 _ _ undU]

/-- the key of one text -/
theorem key01_1 {w0 w : World} {L : List Res} {B n c : Nat} {a : Option Addr} {xs : List Int} (H : St w0 L w) (hb : In (.box B (.cells #[.slice a n c] 22 (0, 0))) L) (hn : n ≤ 1000000) (R : Rd w0 a n c (bs xs) 1) (hB : Byt xs) :
    Calls Try.prog 33 #[.slice (some ⟨B, 0, none⟩) 1 1] w fun e w' => ∃ a' c', e = .returned (.slice a' 16 c') ∧ St w [OwB a' 16 c' (keyW (fourW xs))] w' := by
  have R1 := H.rdBox (n := 1) (sz := 1) hb rfl (by unfold maxLen; omega) (by simp [Value.oneCell'])
  have e1 : cat [⟨a, n, c, xs⟩] = xs := by simp [cat]
  have hl : xs.length = n := by have := R.len; rw [bs_len] at this; omega
  have h := key01_any (some ⟨B, 0, none⟩) 1 1 [⟨a, n, c, xs⟩] (by decide) (by rw [e1]; omega) w R1 (by
    intro p hp
    simp only [List.mem_cons, List.not_mem_nil, or_false] at hp
    subst hp
    exact R.st H) (by rw [e1]; exact hB)
  rw [e1] at h
  exact h

set_option maxRecDepth 100000 in
set_option maxHeartbeats 8000000 in
theorem mixed_any (a : Option Addr) (n c : Nat) (xs : List Int) (x : W4) (hx : x.ok) (hn : n ≤ 1000000) (w0 : World) (R : Rd w0 a n c (bs xs) 1) (hB : Byt xs) :
    Calls Try.prog 9 #[.slice a n c, x.v] w0 fun e w' => e = .returned (.bool true) ∧ St w0 [] w' := by
  have H := St.start w0
  obtain ⟨f, hf⟩ : ∃ f, f = fourW xs := ⟨_, rfl⟩
  have hs := fun w (Q : Rd w a n c (bs xs) 1) => run_str w a n c xs Q
  have HS := Lib.hid hs
  have HF := Lib.hid hf
  clear hf
  have hs0 := hs w0 R
  have hs1 := hs _ (R.st (H.alloc (.cells #[.int .u32 x.a, .int .u32 x.b, .int .u32 x.c, .int .u32 x.d] 24 (0, 0))))
  clear hs
  go_enter Try.func9, Try.ntmps9
  go_wp2_with (first
    | (go_at_call 24; (apply abs_calls; (repeat (first | exact H | apply St.alloc | apply St.drewN | apply St.drew | exact Upd.here | apply Upd.there | exact Del.here | apply Del.there | exact In.here | apply In.there | apply St.set)); clear H; intro w H; try simp only [World.size_alloc] at H); (with_reducible refine (four01_any a n c xs hn _ (R.st H) hB).mono ?_); rintro e w1 ⟨rfl, hs⟩; replace H := H.call0 hs; clear hs))
  (apply abs_wp; (repeat (first | exact H | apply St.alloc | apply St.drewN | apply St.drew | exact Upd.here | apply Upd.there | exact Del.here | apply Del.there | exact In.here | apply In.there | apply St.set)); clear H; intro w H; try simp only [World.size_alloc] at H)
  generalize w1.heap.size = b at H ⊢
  clear hs0 hs1
  obtain ⟨s, hs⟩ : ∃ s, s = strOfNums xs := ⟨_, rfl⟩
  rw [← hs]
  have HT := Lib.hid hs
  clear hs HF
  have hF := fun w R => Four_any a n c xs hn w R hB
  have hSu := fun w R => Sum_any a n c xs hn w R hB
  have hK := fun w R => Key_any a n c xs hn w R hB
  have hKy := fun {w L B} (H : St w0 L w) (hb : In (.box B (.cells #[.slice a n c] 22 (0, 0))) L) => key01_1 H hb hn R hB
  have HFo := Lib.hid hF
  have HSu := Lib.hid hSu
  have HKe := Lib.hid hK
  clear hF hSu hK
  generalize fourW xs = f at H HFo HSu HKe hKy ⊢
  have HXo := Lib.hid hx
  clear hx
  have e4 := eq4 f
  have e4x := eq4 x
  have e4t := eq4 (turnW x)
  have e4b := eq4 (backW x)
  have hbt := fun w => Back_any (turnW x) w
  have htb := fun w => Turn_any (backW x) w
  rw [back_turn x HXo.out] at hbt
  rw [turn_back x HXo.out] at htb
  have HBT := Lib.hid hbt
  have HTB := Lib.hid htb
  clear hbt htb
  have hX : ∀ w', St w0 [B4 b f 24, B4 w0.heap.size x 24] w' → (w'.cell? ⟨w0.heap.size, 0, none⟩ = some (.int .u32 x.a) ∧ w'.cell? ⟨w0.heap.size, 1, none⟩ = some (.int .u32 x.b) ∧ w'.cell? ⟨w0.heap.size, 2, none⟩ = some (.int .u32 x.c) ∧ w'.cell? ⟨w0.heap.size, 3, none⟩ = some (.int .u32 x.d)) ∧
      (convert 22 9 (.slice a n c)).run Try.prog w' = .ok (.string s) w' := by
    intro w' H
    exact ⟨⟨H.cell (by (repeat (first | exact H | apply St.alloc | apply St.drewN | apply St.drew | exact Upd.here | apply Upd.there | exact Del.here | apply Del.there | exact In.here | apply In.there | apply St.set))) rfl, H.cell (by (repeat (first | exact H | apply St.alloc | apply St.drewN | apply St.drew | exact Upd.here | apply Upd.there | exact Del.here | apply Del.there | exact In.here | apply In.there | apply St.set))) rfl, H.cell (by (repeat (first | exact H | apply St.alloc | apply St.drewN | apply St.drew | exact Upd.here | apply Upd.there | exact Del.here | apply Del.there | exact In.here | apply In.there | apply St.set))) rfl, H.cell (by (repeat (first | exact H | apply St.alloc | apply St.drewN | apply St.drew | exact Upd.here | apply Upd.there | exact Del.here | apply Del.there | exact In.here | apply In.there | apply St.set))) rfl⟩, by rw [HT.out]; exact HS.out _ (R.st H)⟩
  have HX := Lib.hid hX
  clear hX
  dsimp only [W4.v]
  obtain ⟨c0, c1, c2, c3, fc⟩ := H.cells4 (b := b) (by (repeat (first | exact H | apply St.alloc | apply St.drewN | apply St.drew | exact Upd.here | apply Upd.there | exact Del.here | apply Del.there | exact In.here | apply In.there | apply St.set)))
  obtain ⟨d0, d1, d2, d3, fz⟩ := H.cells4 (b := w0.heap.size) (by (repeat (first | exact H | apply St.alloc | apply St.drewN | apply St.drew | exact Upd.here | apply Upd.there | exact Del.here | apply Del.there | exact In.here | apply In.there | apply St.set)))
  go_region_held3 (fun w' => (w'.cell? ⟨b, 0, none⟩ = some (.int .u32 f.a) ∧ w'.cell? ⟨b, 1, none⟩ = some (.int .u32 f.b) ∧ w'.cell? ⟨b, 2, none⟩ = some (.int .u32 f.c) ∧ w'.cell? ⟨b, 3, none⟩ = some (.int .u32 f.d)) ∧
      w'.cell? ⟨w0.heap.size, 0, none⟩ = some (.int .u32 x.a) ∧ w'.cell? ⟨w0.heap.size, 1, none⟩ = some (.int .u32 x.b) ∧ w'.cell? ⟨w0.heap.size, 2, none⟩ = some (.int .u32 x.c) ∧ w'.cell? ⟨w0.heap.size, 3, none⟩ = some (.int .u32 x.d))
    (first | go_keep | exact ⟨⟨H.cell (by (repeat (first | exact H | apply St.alloc | apply St.drewN | apply St.drew | exact Upd.here | apply Upd.there | exact Del.here | apply Del.there | exact In.here | apply In.there | apply St.set))) rfl, H.cell (by (repeat (first | exact H | apply St.alloc | apply St.drewN | apply St.drew | exact Upd.here | apply Upd.there | exact Del.here | apply Del.there | exact In.here | apply In.there | apply St.set))) rfl, H.cell (by (repeat (first | exact H | apply St.alloc | apply St.drewN | apply St.drew | exact Upd.here | apply Upd.there | exact Del.here | apply Del.there | exact In.here | apply In.there | apply St.set))) rfl, H.cell (by (repeat (first | exact H | apply St.alloc | apply St.drewN | apply St.drew | exact Upd.here | apply Upd.there | exact Del.here | apply Del.there | exact In.here | apply In.there | apply St.set))) rfl⟩, H.cell (by (repeat (first | exact H | apply St.alloc | apply St.drewN | apply St.drew | exact Upd.here | apply Upd.there | exact Del.here | apply Del.there | exact In.here | apply In.there | apply St.set))) rfl, H.cell (by (repeat (first | exact H | apply St.alloc | apply St.drewN | apply St.drew | exact Upd.here | apply Upd.there | exact Del.here | apply Del.there | exact In.here | apply In.there | apply St.set))) rfl, H.cell (by (repeat (first | exact H | apply St.alloc | apply St.drewN | apply St.drew | exact Upd.here | apply Upd.there | exact Del.here | apply Del.there | exact In.here | apply In.there | apply St.set))) rfl, H.cell (by (repeat (first | exact H | apply St.alloc | apply St.drewN | apply St.drew | exact Upd.here | apply Upd.there | exact Del.here | apply Del.there | exact In.here | apply In.there | apply St.set))) rfl⟩)
    (first
      | (go_at_call 30; (apply abs_calls; (repeat (first | exact H | apply St.alloc | apply St.drewN | apply St.drew | exact Upd.here | apply Upd.there | exact Del.here | apply Del.there | exact In.here | apply In.there | apply St.set)); clear H; intro w H; try simp only [World.size_alloc] at H); (with_reducible refine (HFo.out _ (R.st H)).mono ?_); rintro e w1 ⟨rfl, hs⟩; replace H := H.call0 hs; clear hs)
      | (go_at_call 31; (apply abs_calls; (repeat (first | exact H | apply St.alloc | apply St.drewN | apply St.drew | exact Upd.here | apply Upd.there | exact Del.here | apply Del.there | exact In.here | apply In.there | apply St.set)); clear H; intro w H; try simp only [World.size_alloc] at H); (with_reducible refine (HSu.out _ (R.st H)).mono ?_); rintro e w1 ⟨rfl, hs⟩; replace H := H.call0 hs; clear hs)
      | (go_at_call 32; (apply abs_calls; (repeat (first | exact H | apply St.alloc | apply St.drewN | apply St.drew | exact Upd.here | apply Upd.there | exact Del.here | apply Del.there | exact In.here | apply In.there | apply St.set)); clear H; intro w H; try simp only [World.size_alloc] at H); (with_reducible refine (HKe.out _ (R.st H)).mono ?_); rintro e w1 ⟨a', c', rfl, hs⟩; replace H := H.call hs; clear hs)
      | (go_at_call 33; (apply abs_calls; (repeat (first | exact H | apply St.alloc | apply St.drewN | apply St.drew | exact Upd.here | apply Upd.there | exact Del.here | apply Del.there | exact In.here | apply In.there | apply St.set)); clear H; intro w H; try simp only [World.size_alloc] at H); (with_reducible refine (hKy H (by (repeat (first | exact H | apply St.alloc | apply St.drewN | apply St.drew | exact Upd.here | apply Upd.there | exact Del.here | apply Del.there | exact In.here | apply In.there | apply St.set)))).mono ?_); rintro e w1 ⟨a', c', rfl, hs⟩; replace H := H.call hs; clear hs)
      | (go_at_call 26; (apply abs_calls; (repeat (first | exact H | apply St.alloc | apply St.drewN | apply St.drew | exact Upd.here | apply Upd.there | exact Del.here | apply Del.there | exact In.here | apply In.there | apply St.set)); clear H; intro w H; try simp only [World.size_alloc] at H); (with_reducible refine (same01_eq _ _ _ _ _ _ _ _ (H.rd (xs := bs (keyW f)) (t := 5) (by (repeat (first | exact H | apply St.alloc | apply St.drewN | apply St.drew | exact Upd.here | apply Upd.there | exact Del.here | apply Del.there | exact In.here | apply In.there | apply St.set))) (bs_one _)) (H.rd (xs := bs (keyW f)) (t := 5) (by (repeat (first | exact H | apply St.alloc | apply St.drewN | apply St.drew | exact Upd.here | apply Upd.there | exact Del.here | apply Del.there | exact In.here | apply In.there | apply St.set))) (bs_one _)) (keyW_byt _)).mono ?_); rintro e w1 ⟨rfl, hs⟩; replace H := H.call0 hs; clear hs)
      | (go_at_call 21; (apply abs_calls; (repeat (first | exact H | apply St.alloc | apply St.drewN | apply St.drew | exact Upd.here | apply Upd.there | exact Del.here | apply Del.there | exact In.here | apply In.there | apply St.set)); clear H; intro w H; try simp only [World.size_alloc] at H); (with_reducible refine (Turn_any x _).mono ?_); rintro e w1 ⟨rfl, hs⟩; replace H := H.call0 hs; clear hs)
      | (go_at_call 34; (apply abs_calls; (repeat (first | exact H | apply St.alloc | apply St.drewN | apply St.drew | exact Upd.here | apply Upd.there | exact Del.here | apply Del.there | exact In.here | apply In.there | apply St.set)); clear H; intro w H; try simp only [World.size_alloc] at H); (with_reducible refine (Back_any x _).mono ?_); rintro e w1 ⟨rfl, hs⟩; replace H := H.call0 hs; clear hs)
      | (go_at_call 22; (apply abs_calls; (repeat (first | exact H | apply St.alloc | apply St.drewN | apply St.drew | exact Upd.here | apply Upd.there | exact Del.here | apply Del.there | exact In.here | apply In.there | apply St.set)); clear H; intro w H; try simp only [World.size_alloc] at H); (with_reducible refine (turn01_any x _).mono ?_); rintro e w1 ⟨rfl, hs⟩; replace H := H.call0 hs; clear hs)
      | (go_at_call 23; (apply abs_calls; (repeat (first | exact H | apply St.alloc | apply St.drewN | apply St.drew | exact Upd.here | apply Upd.there | exact Del.here | apply Del.there | exact In.here | apply In.there | apply St.set)); clear H; intro w H; try simp only [World.size_alloc] at H); (with_reducible refine (back01_any x _).mono ?_); rintro e w1 ⟨rfl, hs⟩; replace H := H.call0 hs; clear hs))
  all_goals (replace H : St w0 [B4 b f 24, B4 w0.heap.size x 24] _ := H.sub (.cons _ (.cons _ (.cons _ (List.Sublist.refl _)))))
  all_goals clear c0 c1 c2 c3 fc d0 d1 d2 d3 fz
  all_goals obtain ⟨d0, d1, d2, d3, fz⟩ := H.cells4 (b := w0.heap.size) (by (repeat (first | exact H | apply St.alloc | apply St.drewN | apply St.drew | exact Upd.here | apply Upd.there | exact Del.here | apply Del.there | exact In.here | apply In.there | apply St.set)))
  all_goals go_wp2_with fail
  all_goals go_region_held3 (fun w' => (w'.cell? ⟨w0.heap.size, 0, none⟩ = some (.int .u32 x.a) ∧ w'.cell? ⟨w0.heap.size, 1, none⟩ = some (.int .u32 x.b) ∧ w'.cell? ⟨w0.heap.size, 2, none⟩ = some (.int .u32 x.c) ∧ w'.cell? ⟨w0.heap.size, 3, none⟩ = some (.int .u32 x.d)) ∧
      (convert 22 9 (.slice a n c)).run Try.prog w' = .ok (.string s) w')
    (first | exact HX.out _ H | exact HX.out _ H.drew)
    (first
      | (go_at_call 22; (apply abs_calls; (repeat (first | exact H | apply St.alloc | apply St.drewN | apply St.drew | exact Upd.here | apply Upd.there | exact Del.here | apply Del.there | exact In.here | apply In.there | apply St.set)); clear H; intro w H; try simp only [World.size_alloc] at H); (with_reducible refine (turn01_any x _).mono ?_); rintro e w1 ⟨rfl, hs⟩; replace H := H.call0 hs; clear hs)
      | (go_at_call 23; (apply abs_calls; (repeat (first | exact H | apply St.alloc | apply St.drewN | apply St.drew | exact Upd.here | apply Upd.there | exact Del.here | apply Del.there | exact In.here | apply In.there | apply St.set)); clear H; intro w H; try simp only [World.size_alloc] at H); (with_reducible refine (back01_any x _).mono ?_); rintro e w1 ⟨rfl, hs⟩; replace H := H.call0 hs; clear hs)
      | (go_at_call 34; (apply abs_calls; (repeat (first | exact H | apply St.alloc | apply St.drewN | apply St.drew | exact Upd.here | apply Upd.there | exact Del.here | apply Del.there | exact In.here | apply In.there | apply St.set)); clear H; intro w H; try simp only [World.size_alloc] at H); (with_reducible refine (HBT.out _).mono ?_); rintro e w1 ⟨rfl, hs⟩; replace H := H.call0 hs; clear hs)
      | (go_at_call 21; (apply abs_calls; (repeat (first | exact H | apply St.alloc | apply St.drewN | apply St.drew | exact Upd.here | apply Upd.there | exact Del.here | apply Del.there | exact In.here | apply In.there | apply St.set)); clear H; intro w H; try simp only [World.size_alloc] at H); (with_reducible refine (HTB.out _).mono ?_); rintro e w1 ⟨rfl, hs⟩; replace H := H.call0 hs; clear hs))
  all_goals go_wp2
  all_goals go_ret
  all_goals exact ⟨rfl, st_drop H⟩

end Go.Proofs.Ytcmhobabbklnhaa
