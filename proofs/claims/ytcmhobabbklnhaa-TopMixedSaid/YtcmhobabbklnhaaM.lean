/- Walks and laws behind the proofs of the given rows of this seat (each: the law returns true whatever the input, and the input reads as it did). Conditions: none. -/
import Derived.Test.YtcmhobabbklnhaaProg
import Derived.Test.YtcmhobabbklnhaaReg
import Derived.WalkSpells
import Derived.Deep.DeepMust
import Derived.WalkLawsBesides
import Derived.BigQuiet
import Derived.Deep.RegionHeld3
import Derived.Test.YtcmhobabbklnhaaL
import Derived.Lib.SlBytesConst
import Derived.Deep.OwnRows
namespace Go.Proofs.Ytcmhobabbklnhaa
open Go.RowKit Go.BigFrame
attribute [local go_sem] Oper.semAt_some

theorem turn_zero : turnW ⟨0, 0, 0, 0⟩ = ⟨0, 0, 0, 0⟩ := by kernel_rfl
theorem turn_one : turnW ⟨0, 0, 0, 1⟩ = ⟨67108864, 1075839489, 16809992, 16777224⟩ := by kernel_rfl
theorem back_some : backW ⟨67108864, 1075839489, 16809992, 16777224⟩ = ⟨0, 0, 0, 1⟩ := by kernel_rfl

theorem Turn_zero (w : World) : Calls Try.prog 21 #[.agg #[.int .u32 0, .int .u32 0, .int .u32 0, .int .u32 0]] w fun e w' => e = .returned (.agg #[.int .u32 0, .int .u32 0, .int .u32 0, .int .u32 0]) ∧ St w [] w' := by
  have h := Turn_any ⟨0, 0, 0, 0⟩ w
  rw [turn_zero] at h; exact h
theorem Turn_one (w : World) : Calls Try.prog 21 #[.agg #[.int .u32 0, .int .u32 0, .int .u32 0, .int .u32 1]] w fun e w' => e = .returned (.agg #[.int .u32 67108864, .int .u32 1075839489, .int .u32 16809992, .int .u32 16777224]) ∧ St w [] w' := by
  have h := Turn_any ⟨0, 0, 0, 1⟩ w
  rw [turn_one] at h; exact h
theorem turn01_one (w : World) : Calls Try.prog 22 #[.agg #[.int .u32 0, .int .u32 0, .int .u32 0, .int .u32 1]] w fun e w' => e = .returned (.agg #[.int .u32 67108864, .int .u32 1075839489, .int .u32 16809992, .int .u32 16777224]) ∧ St w [] w' := by
  have h := turn01_any ⟨0, 0, 0, 1⟩ w
  rw [turn_one] at h; exact h
theorem back01_some (w : World) : Calls Try.prog 23 #[.agg #[.int .u32 67108864, .int .u32 1075839489, .int .u32 16809992, .int .u32 16777224]] w fun e w' => e = .returned (.agg #[.int .u32 0, .int .u32 0, .int .u32 0, .int .u32 1]) ∧ St w [] w' := by
  have h := back01_any ⟨67108864, 1075839489, 16809992, 16777224⟩ w
  rw [back_some] at h; exact h

theorem undB : Try.prog.underlying 22 = some (.slice 5) := by kernel_rfl
theorem undb : Try.prog.underlying 5 = some (.int .u8) := by kernel_rfl
theorem infob : (Try.prog.info? 5).map (fun i => (i.zero, i.size, i.bytes)) = some (some (.int .u8 0), 1, 1) := by kernel_rfl
theorem byt_of {l : List Int} (h : (l.all fun x => decide (0 ≤ x ∧ x < 256)) = true) : Byt l := fun x hx => by simpa using List.all_eq_true.1 h x hx
theorem bytes_const (w : World) (C : Array Value) (n c k : Nat) (hk : w.heap.size = k) :
    (convert 22 22 (.slice (some ⟨k, 0, Option.none⟩) n c)).run Try.prog (w.alloc (.cells C 5)) = .ok (.slice (some ⟨k, 0, Option.none⟩) n c) (w.alloc (.cells C 5 (C.size, C.size + 1))) := by
  subst hk
  exact Lib.run_convert_bytes_const (P := Try.prog) w 22 5 C n c undB undb
theorem mk300 (w : World) : (Instr.makeSlice 22 (.int .i64 300) (.int .i64 300)).run Try.prog w = .ok (.slice (some ⟨w.heap.size, 0, Option.none⟩) 300 300) (w.alloc (.cells (madeCells #[.int .u8 0] 300) 5)) := by
  have h := run_make_row' (P := Try.prog) 22 5 (.int .u8 0) 1 undB infob rfl .i64 .i64 300 (by decide) (by decide) w
  simpa using h
theorem St.rdF {w0 w : World} {L : List Res} {F : Nat → Prop} {b n t : Nat} {cur : Array Value} {fr : Nat × Nat} {xs : List Int} (H : St w0 L w F) (hi : In (.box b (.cells cur t fr)) L) (hx : cur.toList = bs xs) (hn : xs.length = n) (hm : n ≤ maxLen) :
    Rd w (some ⟨b, 0, Option.none⟩) n n (bs xs) 1 := by
  have h : w.heap[b]? = _ := H.holds _ hi.mem
  refine ⟨by rw [bs_len]; omega, Nat.le_refl _, hm, (fun h => by cases h), bs_one _, fun i u hu => ⟨_, rfl, ?_⟩⟩
  have hu' : cur[i]? = some u := by rw [← hx] at hu; simpa using hu
  have e : (Addr.add ⟨b, 0, Option.none⟩ i) = ⟨b, i, Option.none⟩ := by unfold Addr.add; split <;> simp_all
  rw [e]
  simp [World.cell?, h, hu']

abbrev KL (b : Nat) : List Res := [.box (b + 1 + 1 + 1 + 1) (.cells #[.slice none 0 0, .slice (some ⟨b, 0, Option.none⟩) 1 1, .slice (some ⟨b + 1, 0, none⟩) 7 7, .slice (some ⟨b + 1 + 1, 0, none⟩) 8 8, .slice (some ⟨b + 1 + 1 + 1, 0, none⟩) 300 300] 22 (0, 0)),
      .box (b + 1 + 1 + 1) (.cells (madeCells #[.int .u8 0] 300) 5 (0, 0)), .box (b + 1 + 1) (.cells #[.int .u8 97, .int .u8 98, .int .u8 99, .int .u8 100, .int .u8 101, .int .u8 102, .int .u8 103, .int .u8 104] 5 (8, 9)),
      .box (b + 1) (.cells #[.int .u8 97, .int .u8 98, .int .u8 99, .int .u8 100, .int .u8 101, .int .u8 102, .int .u8 103] 5 (7, 8)), .box b (.cells #[.int .u8 1] 5 (0, 0))]

set_option maxRecDepth 100000 in
set_option maxHeartbeats 8000000 in
theorem knows_any (w0 : World) : Calls Try.prog 7 #[] w0 fun e w' => e = .returned (.bool true) ∧ St w0 [] w' := by
  have H := St.start w0
  have ez := eq4 ⟨0, 0, 0, 0⟩
  have es := eq4 ⟨67108864, 1075839489, 16809992, 16777224⟩
  have eo := eq4 ⟨0, 0, 0, 1⟩
  dsimp only at ez es eo
  have kc := bytes_const
  have km := mk300
  go_enter Try.func7, Try.ntmps7
  go_wp2_with fail
  (apply abs_wp; (repeat (first | exact H | apply St.alloc | apply St.drewN | apply St.drew | exact Upd.here | apply Upd.there | exact Del.here | apply Del.there | exact In.here | apply In.there | apply St.set)); clear H; intro w H; try simp only [World.size_alloc] at H)
  obtain ⟨c0, c1, c2, c3, fc⟩ := H.cells4 (b := w0.heap.size) (by (repeat (first | exact H | apply St.alloc | apply St.drewN | apply St.drew | exact Upd.here | apply Upd.there | exact Del.here | apply Del.there | exact In.here | apply In.there | apply St.set)))
  obtain ⟨d0, d1, d2, d3, fz⟩ := H.cells4 (b := w0.heap.size + 1) (by (repeat (first | exact H | apply St.alloc | apply St.drewN | apply St.drew | exact Upd.here | apply Upd.there | exact Del.here | apply Del.there | exact In.here | apply In.there | apply St.set)))
  go_region_held3 (fun w' => (w'.cell? ⟨w0.heap.size, 0, none⟩ = some (.int .u32 0) ∧ w'.cell? ⟨w0.heap.size, 1, none⟩ = some (.int .u32 0) ∧ w'.cell? ⟨w0.heap.size, 2, none⟩ = some (.int .u32 0) ∧ w'.cell? ⟨w0.heap.size, 3, none⟩ = some (.int .u32 0)) ∧
      (w'.cell? ⟨w0.heap.size + 1, 0, none⟩ = some (.int .u32 67108864) ∧ w'.cell? ⟨w0.heap.size + 1, 1, none⟩ = some (.int .u32 1075839489) ∧ w'.cell? ⟨w0.heap.size + 1, 2, none⟩ = some (.int .u32 16809992) ∧ w'.cell? ⟨w0.heap.size + 1, 3, none⟩ = some (.int .u32 16777224)))
    (first
      | exact ⟨⟨H.cell (by (repeat (first | exact H | apply St.alloc | apply St.drewN | apply St.drew | exact Upd.here | apply Upd.there | exact Del.here | apply Del.there | exact In.here | apply In.there | apply St.set))) rfl, H.cell (by (repeat (first | exact H | apply St.alloc | apply St.drewN | apply St.drew | exact Upd.here | apply Upd.there | exact Del.here | apply Del.there | exact In.here | apply In.there | apply St.set))) rfl, H.cell (by (repeat (first | exact H | apply St.alloc | apply St.drewN | apply St.drew | exact Upd.here | apply Upd.there | exact Del.here | apply Del.there | exact In.here | apply In.there | apply St.set))) rfl, H.cell (by (repeat (first | exact H | apply St.alloc | apply St.drewN | apply St.drew | exact Upd.here | apply Upd.there | exact Del.here | apply Del.there | exact In.here | apply In.there | apply St.set))) rfl⟩, H.cell (by (repeat (first | exact H | apply St.alloc | apply St.drewN | apply St.drew | exact Upd.here | apply Upd.there | exact Del.here | apply Del.there | exact In.here | apply In.there | apply St.set))) rfl, H.cell (by (repeat (first | exact H | apply St.alloc | apply St.drewN | apply St.drew | exact Upd.here | apply Upd.there | exact Del.here | apply Del.there | exact In.here | apply In.there | apply St.set))) rfl, H.cell (by (repeat (first | exact H | apply St.alloc | apply St.drewN | apply St.drew | exact Upd.here | apply Upd.there | exact Del.here | apply Del.there | exact In.here | apply In.there | apply St.set))) rfl, H.cell (by (repeat (first | exact H | apply St.alloc | apply St.drewN | apply St.drew | exact Upd.here | apply Upd.there | exact Del.here | apply Del.there | exact In.here | apply In.there | apply St.set))) rfl⟩
      | go_keep)
    (first
      | (go_at_call 21; (apply abs_calls; (repeat (first | exact H | apply St.alloc | apply St.drewN | apply St.drew | exact Upd.here | apply Upd.there | exact Del.here | apply Del.there | exact In.here | apply In.there | apply St.set)); clear H; intro w H; try simp only [World.size_alloc] at H); (with_reducible refine (Turn_zero _).mono ?_); rintro e w1 ⟨rfl, hs⟩; replace H := H.call0 hs; clear hs)
      | (go_at_call 21; (apply abs_calls; (repeat (first | exact H | apply St.alloc | apply St.drewN | apply St.drew | exact Upd.here | apply Upd.there | exact Del.here | apply Del.there | exact In.here | apply In.there | apply St.set)); clear H; intro w H; try simp only [World.size_alloc] at H); (with_reducible refine (Turn_one _).mono ?_); rintro e w1 ⟨rfl, hs⟩; replace H := H.call0 hs; clear hs)
      | (go_at_call 22; (apply abs_calls; (repeat (first | exact H | apply St.alloc | apply St.drewN | apply St.drew | exact Upd.here | apply Upd.there | exact Del.here | apply Del.there | exact In.here | apply In.there | apply St.set)); clear H; intro w H; try simp only [World.size_alloc] at H); (with_reducible refine (turn01_one _).mono ?_); rintro e w1 ⟨rfl, hs⟩; replace H := H.call0 hs; clear hs)
      | (go_at_call 23; (apply abs_calls; (repeat (first | exact H | apply St.alloc | apply St.drewN | apply St.drew | exact Upd.here | apply Upd.there | exact Del.here | apply Del.there | exact In.here | apply In.there | apply St.set)); clear H; intro w H; try simp only [World.size_alloc] at H); (with_reducible refine (back01_some _).mono ?_); rintro e w1 ⟨rfl, hs⟩; replace H := H.call0 hs; clear hs))
  clear c0 c1 c2 c3 fc d0 d1 d2 d3 fz ez es eo
  replace H := st_drop H
  go_wp2_with fail
  (apply abs_wp; (repeat (first | exact H | apply St.alloc | apply St.drewN | apply St.drew | exact Upd.here | apply Upd.there | exact Del.here | apply Del.there | exact In.here | apply In.there | apply St.set)); clear H; intro w H; try simp only [World.size_alloc] at H)
  generalize w1.heap.size = b at H ⊢
  clear kc km
  go_loopw [4, 38] (fun _ i wr => ∃ k : Nat, i = .int .i64 k ∧ k ≤ 5 ∧ St w0 (KL b) wr) (fun _ i _ => 5 - (intOf i).toNat)
  case atStart => exact ⟨0, rfl, by omega, H⟩
  case round =>
    clear H
    obtain ⟨k, rfl, hk, H⟩ := hrel
    by_cases hlt : k < 5
    · obtain ⟨pa, pn, pc, pl, hc, Rp, hBp, hpn⟩ : ∃ (pa : Option Addr) (pn pc : Nat) (pl : List Int), wr.cell? ⟨b + 1 + 1 + 1 + 1, k, none⟩ = some (.slice pa pn pc) ∧ (∀ w', St w0 (KL b) w' → Rd w' pa pn pc (bs pl) 1) ∧ Byt pl ∧ pn ≤ 1000 := by
        match k, hlt with
        | 0, _ => exact ⟨none, 0, 0, [], H.cell .here rfl, fun _ _ => Rd.nilR _ _, byt_of rfl, by decide⟩
        | 1, _ => exact ⟨some ⟨b, 0, none⟩, 1, 1, [1], H.cell .here rfl, fun _ H => H.rdF (.there (.there (.there (.there .here)))) rfl rfl (by decide), byt_of rfl, by decide⟩
        | 2, _ => exact ⟨some ⟨b + 1, 0, none⟩, 7, 7, [97, 98, 99, 100, 101, 102, 103], H.cell .here rfl, fun _ H => H.rdF (.there (.there (.there .here))) rfl rfl (by decide), byt_of rfl, by decide⟩
        | 3, _ => exact ⟨some ⟨b + 1 + 1, 0, none⟩, 8, 8, [97, 98, 99, 100, 101, 102, 103, 104], H.cell .here rfl, fun _ H => H.rdF (.there (.there .here)) rfl rfl (by decide), byt_of rfl, by decide⟩
        | 4, _ => exact ⟨some ⟨b + 1 + 1 + 1, 0, none⟩, 300, 300, List.replicate 300 0, H.cell .here rfl, fun _ H => H.rdF (.there .here) (by rw [toList_madeCells_one]; simp [bs]) (by simp) (by decide), by intro x hx; have := List.eq_of_mem_replicate hx; omega, by decide⟩
      have HRp := Lib.hid Rp
      have HBp := Lib.hid hBp
      clear Rp hBp
      go_wp2_with (first
        | (go_at_call 24; (apply abs_calls; (repeat (first | exact H | apply St.alloc | apply St.drewN | apply St.drew | exact Upd.here | apply Upd.there | exact Del.here | apply Del.there | exact In.here | apply In.there | apply St.set)); clear H; intro w H; try simp only [World.size_alloc] at H); (with_reducible refine (four01_any pa pn pc pl (by omega) _ (HRp.out _ H) HBp.out).mono ?_); rintro e w1 ⟨rfl, hs⟩; replace H := H.call0 hs; clear hs)
        | (go_at_call 9; (apply abs_calls; (repeat (first | exact H | apply St.alloc | apply St.drewN | apply St.drew | exact Upd.here | apply Upd.there | exact Del.here | apply Del.there | exact In.here | apply In.there | apply St.set)); clear H; intro w H; try simp only [World.size_alloc] at H); (with_reducible refine (mixed_any pa pn pc pl (fourW pl) (fourW_ok _) (by omega) _ (HRp.out _ H) HBp.out).mono ?_); rintro e w1 ⟨rfl, hs⟩; replace H := H.call0 hs; clear hs))
      exact ⟨⟨k + 1, by go_num, by omega, H⟩, by simp [intOf]; omega⟩
    · obtain rfl : k = 5 := by omega
      replace H := st_drop H
      go_wp2_with (first
        | (go_at_call 8; (apply abs_calls; (repeat (first | exact H | apply St.alloc | apply St.drewN | apply St.drew | exact Upd.here | apply Upd.there | exact Del.here | apply Del.there | exact In.here | apply In.there | apply St.set)); clear H; intro w H; try simp only [World.size_alloc] at H); (with_reducible refine (coded_any _ _ _ _ 3 3 [7, 2, 1] (by decide) _ (H.rdF (cur := #[.int .u8 7, .int .u8 2, .int .u8 1]) (t := 5) (fr := (0, 0)) (by (repeat (first | exact H | apply St.alloc | apply St.drewN | apply St.drew | exact Upd.here | apply Upd.there | exact Del.here | apply Del.there | exact In.here | apply In.there | apply St.set))) rfl rfl (by decide)) (byt_of rfl)).mono ?_); rintro e w1 ⟨rfl, hs⟩; replace H := H.call0 hs; clear hs)
        | (go_at_call 8; (apply abs_calls; (repeat (first | exact H | apply St.alloc | apply St.drewN | apply St.drew | exact Upd.here | apply Upd.there | exact Del.here | apply Del.there | exact In.here | apply In.there | apply St.set)); clear H; intro w H; try simp only [World.size_alloc] at H); (with_reducible refine (coded_any _ _ _ _ 4 4 [255, 255, 255, 255] (by decide) _ (H.rdF (cur := #[.int .u8 255, .int .u8 255, .int .u8 255, .int .u8 255]) (t := 5) (fr := (0, 0)) (by (repeat (first | exact H | apply St.alloc | apply St.drewN | apply St.drew | exact Upd.here | apply Upd.there | exact Del.here | apply Del.there | exact In.here | apply In.there | apply St.set))) rfl rfl (by decide)) (byt_of rfl)).mono ?_); rintro e w1 ⟨rfl, hs⟩; replace H := H.call0 hs; clear hs))
      go_ret
      exact ⟨rfl, st_drop H⟩

set_option maxRecDepth 100000 in
set_option maxHeartbeats 4000000 in
/-- the top: yes, whatever the input -/
theorem mixedTop_any (n sz at_ : Int) (a : Option Addr) (len c : Nat) (xs : List Int) (x : W4) (hx : x.ok) (w0 : World) (R : Rd w0 a len c (bs xs) 1) (hB : Byt xs) :
    Calls Try.prog 3 #[.int .i64 n, .int .i64 sz, .int .i64 at_, .slice a len c, x.v] w0 fun e w' => e = .returned (.bool true) ∧ St w0 [] w' := by
  have H := St.start w0
  have HX := Lib.hid hx
  clear hx
  by_cases hlen : (2000 : Int) < len
  · go_enter Try.func3, Try.ntmps3
    go_wp2_with (first
      | (go_at_call 7; (apply abs_calls; (repeat (first | exact H | apply St.alloc | apply St.drewN | apply St.drew | exact Upd.here | apply Upd.there | exact Del.here | apply Del.there | exact In.here | apply In.there | apply St.set)); clear H; intro w H; try simp only [World.size_alloc] at H); (with_reducible refine (knows_any _).mono ?_); rintro e w1 ⟨rfl, hs⟩; replace H := H.call0 hs; clear hs))
    go_ret
    exact ⟨rfl, st_drop H⟩
  · go_enter Try.func3, Try.ntmps3
    go_wp2_with (first
      | (go_at_call 8; (apply abs_calls; (repeat (first | exact H | apply St.alloc | apply St.drewN | apply St.drew | exact Upd.here | apply Upd.there | exact Del.here | apply Del.there | exact In.here | apply In.there | apply St.set)); clear H; intro w H; try simp only [World.size_alloc] at H); (with_reducible refine (coded_any n sz at_ a len c xs (by omega) _ (R.st H) hB).mono ?_); rintro e w1 ⟨rfl, hs⟩; replace H := H.call0 hs; clear hs; obtain ⟨d0, d1, d2, d3, fz⟩ := H.cells4 (b := w0.heap.size) (by (repeat (first | exact H | apply St.alloc | apply St.drewN | apply St.drew | exact Upd.here | apply Upd.there | exact Del.here | apply Del.there | exact In.here | apply In.there | apply St.set))))
      | (go_at_call 9; (apply abs_calls; (repeat (first | exact H | apply St.alloc | apply St.drewN | apply St.drew | exact Upd.here | apply Upd.there | exact Del.here | apply Del.there | exact In.here | apply In.there | apply St.set)); clear H; intro w H; try simp only [World.size_alloc] at H); (with_reducible refine (mixed_any a len c xs x HX.out (by omega) _ (R.st H) hB).mono ?_); rintro e w1 ⟨rfl, hs⟩; replace H := H.call0 hs; clear hs)
      | (go_at_call 7; (apply abs_calls; (repeat (first | exact H | apply St.alloc | apply St.drewN | apply St.drew | exact Upd.here | apply Upd.there | exact Del.here | apply Del.there | exact In.here | apply In.there | apply St.set)); clear H; intro w H; try simp only [World.size_alloc] at H); (with_reducible refine (knows_any _).mono ?_); rintro e w1 ⟨rfl, hs⟩; replace H := H.call0 hs; clear hs))
    go_ret
    exact ⟨rfl, st_drop H⟩

end Go.Proofs.Ytcmhobabbklnhaa
