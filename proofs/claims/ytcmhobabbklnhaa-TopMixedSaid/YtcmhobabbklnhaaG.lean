/- Walks and laws behind the proofs of the given rows of this seat (each: the law returns true whatever the input, and the input reads as it did). Conditions: none. -/
import Derived.Test.YtcmhobabbklnhaaProg
import Derived.Test.YtcmhobabbklnhaaReg
import Derived.WalkSpells
import Derived.Deep.DeepMust
import Derived.WalkLawsBesides
import Derived.BigQuiet
import Derived.Deep.RegionHeld3
import Derived.Test.YtcmhobabbklnhaaF
namespace Go.Proofs.Ytcmhobabbklnhaa
open Go.RowKit Go.BigFrame
attribute [local go_sem] xr_fold Oper.semAt_some

set_option maxHeartbeats 4000000 in
theorem four01_any (a : Option Addr) (n c : Nat) (xs : List Int) (hn : n ≤ 1000000) (w0 : World) (R : Rd w0 a n c (bs xs) 1) (hB : Byt xs) :
    Calls Try.prog 24 #[.slice a n c] w0 fun e w' => e = .returned (fourW xs).v ∧ St w0 [] w' := by
  have H := (St.start w0).nil 5 1
  have hl : xs.length = n := by have := R.len; rw [bs_len] at this; omega
  have HL := Lib.hid hl
  clear hl
  go_enter Try.func24, Try.ntmps24
  go_wp2_with (first
    | (at_builtin; (with_reducible apply y_append rfl _ _ tfB rfl rfl rfl); (repeat (first | exact H | apply St.alloc | apply St.drewN | apply St.drew | exact Upd.here | apply Upd.there | exact Del.here | apply Del.there | exact In.here | apply In.there | apply St.set)); exact R.st (H.alloc _); (unfold maxLen; omega); omega; clear H; intro a2 c2 w1 H; simp only [List.nil_append, Nat.zero_add] at H)
    | (at_builtin; go_must ((with_reducible apply y_append1 rfl _ _ tfB rfl rfl rfl); (repeat (first | exact H | apply St.alloc | apply St.drewN | apply St.drew | exact Upd.here | apply Upd.there | exact Del.here | apply Del.there | exact In.here | apply In.there | apply St.set)); rfl; (unfold maxLen; omega); omega; clear H; intro a cap w1 H)))
  rw [pd_zero] at H
  go_loopw [3] (fun v wr => ∃ (j : Nat) (a4 : Option Addr) (c4 : Nat), j ≤ padN n ∧ v = .slice a4 (n + 1 + j) c4 ∧ St w0 [OwB a4 (n + 1 + j) c4 (pd xs j), B4 w0.heap.size ⟨0, 0, 0, 0⟩ 24] wr) (fun v _ => n + 9 - lenOf v)
  case atStart => exact ⟨0, _, _, Nat.zero_le _, rfl, H⟩
  case round =>
    clear H
    obtain ⟨j, a4, c4, hj, rfl, H⟩ := hrel
    by_cases hlt : j < padN n
    · have h8 : 0 < ((n + 1 + j : Nat) : Int) % 8 := by unfold padN at hlt; omega
      unfold padN at hlt
      go_wp2_with ((at_builtin; go_must ((with_reducible apply y_append1 rfl _ _ tfB rfl rfl rfl); (repeat (first | exact H | apply St.alloc | apply St.drewN | apply St.drew | exact Upd.here | apply Upd.there | exact Del.here | apply Del.there | exact In.here | apply In.there | apply St.set)); rfl; (unfold maxLen; omega); omega; clear H; intro a cap w1 H)))
      rw [pd_succ] at H
      go_roundw
      case rel => exact ⟨j + 1, _, _, by unfold padN; omega, rfl, H⟩
      case measure => simp [lenOf]; omega
    · have h8 : ((n + 1 + j : Nat) : Int) % 8 = 0 := by unfold padN at hlt hj; omega
      obtain ⟨g, rfl, hgl⟩ := H.rowAt .here (by omega)
      have hj' : j = padN n := by omega
      obtain ⟨m, hm⟩ : ∃ m, n + 1 + j = 8 * m := ⟨(n + 1 + j) / 8, by omega⟩
      have hm2 : 8 * m ≤ 2000000 := by rw [← hm, hj']; unfold padN; omega
      have ef : pd xs j = fullB xs := by rw [hj', ← HL.out]; rfl
      have em : m = (fullB xs).length / 8 := by rw [← ef, pd_len, HL.out, hm]; omega
      have ey : fourW xs = lastW (accW (pd xs j) (List.range m)) n := by rw [fourW, ef, em, HL.out]
      have hpB := pd_byt hB j
      have HY := Lib.hid ey
      clear ef em ey hj hlt hj'
      obtain ⟨N, hN⟩ : ∃ N, n + 1 + j = N := ⟨_, rfl⟩
      rw [hN] at H hm h8 ⊢
      have hN2 : N ≤ 2000000 := by omega
      have HM := Lib.hid hm
      clear hN hm hm2
      go_wp2_with fail
      (apply abs_wp; (repeat (first | exact H | apply St.alloc | apply St.drewN | apply St.drew | exact Upd.here | apply Upd.there | exact Del.here | apply Del.there | exact In.here | apply In.there | apply St.set)); clear H; intro w H; try simp only [World.size_alloc] at H)
      generalize wr.heap.size = b at H ⊢
      clear h8
      go_loopw [5] (fun i wr => ∃ (k i' : Nat), k ≤ m ∧ i = .int .i64 i' ∧ Hid (i' = 8 * k) ∧ St w0 [B4 b (accW (pd xs j) (List.range k)) 24, OwB (some ⟨g, 0, none⟩) N c4 (pd xs j), B4 w0.heap.size ⟨0, 0, 0, 0⟩ 24] wr) (fun i _ => N - (intOf i).toNat)
      case atStart => exact ⟨0, 0, Nat.zero_le _, rfl, rfl, H⟩
      case round =>
        clear H
        obtain ⟨k, i', hk, rfl, hi, H⟩ := hrel
        by_cases hlt : k < m
        · obtain ⟨p, hp⟩ : ∃ p, p = ((pd xs j).drop (8 * k)).take 8 := ⟨_, rfl⟩
          obtain ⟨y, hy⟩ : ∃ y, y = accW (pd xs j) (List.range k) := ⟨_, rfl⟩
          have hle : i' + 8 ≤ N := by rw [hi.out, HM.out]; omega
          have hlt2 : i' < N := by omega
          have hcap := (H.rd (.there .here) (bs_one _)).le
          have Ra : ∀ w, Rd w (some ⟨g, 0, none⟩) N c4 (bs (pd xs j)) 1 → Rd w (some ⟨g, i', none⟩) 4 (c4 - i') (bs (p.take 4)) 1 := by
            intro w R8
            have h := R8.piece i' 4 (c4 - i') (by omega) (by omega) (by have := R8.max; omega)
            rw [Nat.zero_add] at h
            rw [hp, List.take_take, ← hi.out]; exact h
          rw [← hy] at H
          have HP := Lib.hid hp
          have HYy := Lib.hid hy
          have Rb : ∀ w, Rd w (some ⟨g, 0, none⟩) N c4 (bs (pd xs j)) 1 → Rd w (some ⟨g, i' + 4, none⟩) 4 (c4 - (i' + 4)) (bs ((p.drop 4).take 4)) 1 := by
            intro w R9
            have h := R9.piece (i' + 4) 4 (c4 - (i' + 4)) (by omega) (by omega) (by have := R9.max; omega)
            rw [Nat.zero_add] at h
            rw [hp, List.drop_take, List.take_take, List.drop_drop, ← hi.out]; exact h
          have HRb := Lib.hid Rb
          have HRa := Lib.hid Ra
          have hpB' : Byt p := by rw [hp]; exact (hpB.drop _).take _
          clear hp hy Ra Rb
          go_wp2_with fail
          obtain ⟨q0, q1, q2, q3⟩ := H.of4 (b := b) (by (repeat (first | exact H | apply St.alloc | apply St.drewN | apply St.drew | exact Upd.here | apply Upd.there | exact Del.here | apply Del.there | exact In.here | apply In.there | apply St.set)))
          (have hne := Nonempty.intro (Wd.mk _ H); refine y_quiet_tail 9 H (by kernel_rfl) (by kernel_rfl) ?_; simp only [List.take_succ_cons, List.take_zero, List.drop_succ_cons, List.drop_zero]; (repeat (go_big_quiet_step ((go_at_call 29; exact quiet_call _ ((number01_any _ 4 (c4 - i') (p.take 4) (by omega) _ (HRa.out _ ((Wd.st _).rd (.there .here) (bs_one _))) (hpB'.take 4)).mono fun _ _ h => ⟨h.1, h.2 ▸ St.start _⟩))))); refine wpQuiet_nil ?_; clear H hne; rintro _ ⟨⟨w, H⟩, rfl⟩)
          clear q0 q1 q2 q3
          obtain ⟨c0, c1, c2, c3, fc⟩ := H.cells4 (b := b) (by (repeat (first | exact H | apply St.alloc | apply St.drewN | apply St.drew | exact Upd.here | apply Upd.there | exact Del.here | apply Del.there | exact In.here | apply In.there | apply St.set)))
          go_wp2_with fail
          (apply abs_wp; (repeat (first | exact H | apply St.alloc | apply St.drewN | apply St.drew | exact Upd.here | apply Upd.there | exact Del.here | apply Del.there | exact In.here | apply In.there | apply St.set)); clear H; intro w H; simp only [List.setIfInBounds_toArray, List.set_cons_zero, List.set_cons_succ] at H)
          clear c0 c1 c2 c3 fc
          obtain ⟨q0, q1, q2, q3⟩ := H.of4 (b := b) (by (repeat (first | exact H | apply St.alloc | apply St.drewN | apply St.drew | exact Upd.here | apply Upd.there | exact Del.here | apply Del.there | exact In.here | apply In.there | apply St.set)))
          (have hne := Nonempty.intro (Wd.mk _ H); refine y_quiet_tail 10 H (by kernel_rfl) (by kernel_rfl) ?_; simp only [List.take_succ_cons, List.take_zero, List.drop_succ_cons, List.drop_zero]; (repeat (go_big_quiet_step ((go_at_call 29; exact quiet_call _ ((number01_any _ 4 (c4 - (i' + 4)) ((p.drop 4).take 4) (by omega) _ (HRb.out _ ((Wd.st _).rd (.there .here) (bs_one _))) ((hpB'.drop 4).take 4)).mono fun _ _ h => ⟨h.1, h.2 ▸ St.start _⟩))))); refine wpQuiet_nil ?_; clear H hne; rintro _ ⟨⟨w, H⟩, rfl⟩)
          clear q0 q1 q2 q3
          obtain ⟨c0, c1, c2, c3, fc⟩ := H.cells4 (b := b) (by (repeat (first | exact H | apply St.alloc | apply St.drewN | apply St.drew | exact Upd.here | apply Upd.there | exact Del.here | apply Del.there | exact In.here | apply In.there | apply St.set)))
          go_wp2_with fail
          (apply abs_wp; (repeat (first | exact H | apply St.alloc | apply St.drewN | apply St.drew | exact Upd.here | apply Upd.there | exact Del.here | apply Del.there | exact In.here | apply In.there | apply St.set)); clear H; intro w H; simp only [List.setIfInBounds_toArray, List.set_cons_zero, List.set_cons_succ] at H)
          clear c0 c1 c2 c3 fc
          have e : accW (pd xs j) (List.range (k + 1)) = oftenW 4 ⟨xr y.a (leN (p.take 4)), y.b, xr y.c (leN ((p.drop 4).take 4)), y.d⟩ := by
            rw [List.range_succ, accW_snoc, ← HP.out, ← HYy.out]; rfl
          obtain ⟨z, hz⟩ : ∃ z : W4, z = ⟨xr y.a (leN (p.take 4)), y.b, xr y.c (leN ((p.drop 4).take 4)), y.d⟩ := ⟨_, rfl⟩
          rw [← hz] at e
          replace H : St w0 [B4 b z 24, OwB (some ⟨g, 0, none⟩) N c4 (pd xs j), B4 w0.heap.size ⟨0, 0, 0, 0⟩ 24] w := by rw [hz]; exact H
          have HZ := Lib.hid e
          clear e hz hpB' HRa HRb
          go_wp2_with fail
          simp only [Nat.add_sub_cancel_left, show i' + 8 - (i' + 4) = 4 by omega]
          go_loopw [6] (fun i wr => ∃ (q : Nat), i = .int .i64 q ∧ q ≤ 4 ∧ St w0 [B4 b (oftenW q z) 24, OwB (some ⟨g, 0, none⟩) N c4 (pd xs j), B4 w0.heap.size ⟨0, 0, 0, 0⟩ 24] wr) (fun i _ => 4 - (intOf i).toNat)
          case atStart => exact ⟨0, rfl, by omega, H⟩
          case round =>
            clear H
            obtain ⟨q, rfl, hq, H⟩ := hrel
            by_cases hlt : q < 4
            · obtain ⟨c0, c1, c2, c3, fc⟩ := H.cells4 (b := b) (by (repeat (first | exact H | apply St.alloc | apply St.drewN | apply St.drew | exact Upd.here | apply Upd.there | exact Del.here | apply Del.there | exact In.here | apply In.there | apply St.set)))
              go_wp2_with (go_at_call 22; (apply abs_calls; (repeat (first | exact H | apply St.alloc | apply St.drewN | apply St.drew | exact Upd.here | apply Upd.there | exact Del.here | apply Del.there | exact In.here | apply In.there | apply St.set)); clear H; intro w H; try simp only [World.size_alloc] at H); (with_reducible refine (turn01_any (oftenW q z) _).mono ?_); rintro e w1 ⟨rfl, hs⟩; replace H := H.call0 hs; clear hs; obtain ⟨d0, d1, d2, d3, fz⟩ := H.cells4 (b := b) (by (repeat (first | exact H | apply St.alloc | apply St.drewN | apply St.drew | exact Upd.here | apply Upd.there | exact Del.here | apply Del.there | exact In.here | apply In.there | apply St.set))))
              have H2 := H.setW (turnW (oftenW q z)) (by (repeat (first | exact H | apply St.alloc | apply St.drewN | apply St.drew | exact Upd.here | apply Upd.there | exact Del.here | apply Del.there | exact In.here | apply In.there | apply St.set)))
              first
                | exact ⟨⟨q + 1, by go_num, by omega, H2⟩, by simp [intOf]; omega⟩
                | exact ⟨⟨.int .i64 ((q : Int) + 1), _, _, _, _, _, _, ⟨q + 1, by go_num, by omega, H2⟩, rfl⟩, by simp [intOf]; omega⟩
            · obtain rfl : q = 4 := by omega
              go_wp2_with fail
              exact ⟨⟨k + 1, i' + 8, by omega, by go_num, by show i' + 8 = _; rw [hi.out]; omega, by rw [HZ.out]; exact H⟩, by simp [intOf]; omega⟩
        · obtain rfl : k = m := by omega
          obtain rfl : i' = N := by rw [hi.out, HM.out]
          obtain ⟨c0, c1, c2, c3, fc⟩ := H.cells4 (b := b) (by (repeat (first | exact H | apply St.alloc | apply St.drewN | apply St.drew | exact Upd.here | apply Upd.there | exact Del.here | apply Del.there | exact In.here | apply In.there | apply St.set)))
          go_wp2_with fail
          (apply abs_wp; (repeat (first | exact H | apply St.alloc | apply St.drewN | apply St.drew | exact Upd.here | apply Upd.there | exact Del.here | apply Del.there | exact In.here | apply In.there | apply St.set)); clear H; intro w H; simp only [List.setIfInBounds_toArray, List.set_cons_zero, List.set_cons_succ] at H)
          clear c0 c1 c2 c3 fc
          obtain ⟨z, hz⟩ : ∃ z : W4, z = ⟨(accW (pd xs j) (List.range k)).a, xr (accW (pd xs j) (List.range k)).b n, (accW (pd xs j) (List.range k)).c, (accW (pd xs j) (List.range k)).d⟩ := ⟨_, rfl⟩
          have e : fourW xs = oftenW 8 z := by
            rw [HY.out, lastW, hz]; congr; omega
          replace H : St w0 [B4 b z 24, OwB (some ⟨g, 0, none⟩) i' c4 (pd xs j), B4 w0.heap.size ⟨0, 0, 0, 0⟩ 24] w := by rw [hz]; exact H
          have HZ := Lib.hid e
          clear e hz
          go_loopw [7] (fun i wr => ∃ (q : Nat), i = .int .i64 q ∧ q ≤ 8 ∧ St w0 [B4 b (oftenW q z) 24, OwB (some ⟨g, 0, none⟩) i' c4 (pd xs j), B4 w0.heap.size ⟨0, 0, 0, 0⟩ 24] wr) (fun i _ => 8 - (intOf i).toNat)
          case atStart => exact ⟨0, rfl, by omega, H⟩
          case round =>
            clear H
            obtain ⟨q, rfl, hq, H⟩ := hrel
            by_cases hlt : q < 8
            · obtain ⟨c0, c1, c2, c3, fc⟩ := H.cells4 (b := b) (by (repeat (first | exact H | apply St.alloc | apply St.drewN | apply St.drew | exact Upd.here | apply Upd.there | exact Del.here | apply Del.there | exact In.here | apply In.there | apply St.set)))
              go_wp2_with (go_at_call 22; (apply abs_calls; (repeat (first | exact H | apply St.alloc | apply St.drewN | apply St.drew | exact Upd.here | apply Upd.there | exact Del.here | apply Del.there | exact In.here | apply In.there | apply St.set)); clear H; intro w H; try simp only [World.size_alloc] at H); (with_reducible refine (turn01_any (oftenW q z) _).mono ?_); rintro e w1 ⟨rfl, hs⟩; replace H := H.call0 hs; clear hs; obtain ⟨d0, d1, d2, d3, fz⟩ := H.cells4 (b := b) (by (repeat (first | exact H | apply St.alloc | apply St.drewN | apply St.drew | exact Upd.here | apply Upd.there | exact Del.here | apply Del.there | exact In.here | apply In.there | apply St.set))))
              have H2 := H.setW (turnW (oftenW q z)) (by (repeat (first | exact H | apply St.alloc | apply St.drewN | apply St.drew | exact Upd.here | apply Upd.there | exact Del.here | apply Del.there | exact In.here | apply In.there | apply St.set)))
              first
                | exact ⟨⟨q + 1, by go_num, by omega, H2⟩, by simp [intOf]; omega⟩
                | exact ⟨⟨.int .i64 ((q : Int) + 1), _, _, _, _, _, _, ⟨q + 1, by go_num, by omega, H2⟩, rfl⟩, by simp [intOf]; omega⟩
            · obtain rfl : q = 8 := by omega
              obtain ⟨c0, c1, c2, c3, fc⟩ := H.cells4 (b := b) (by (repeat (first | exact H | apply St.alloc | apply St.drewN | apply St.drew | exact Upd.here | apply Upd.there | exact Del.here | apply Del.there | exact In.here | apply In.there | apply St.set)))
              obtain ⟨d0, d1, d2, d3, fz⟩ := H.cells4 (b := w0.heap.size) (by (repeat (first | exact H | apply St.alloc | apply St.drewN | apply St.drew | exact Upd.here | apply Upd.there | exact Del.here | apply Del.there | exact In.here | apply In.there | apply St.set)))
              go_wp2_with fail
              have H2 := H.setW (b := w0.heap.size) (oftenW 8 z) (by (repeat (first | exact H | apply St.alloc | apply St.drewN | apply St.drew | exact Upd.here | apply Upd.there | exact Del.here | apply Del.there | exact In.here | apply In.there | apply St.set)))
              exact ret_arr4 rfl H2 (.there (.there .here)) rfl und4 sz4 rfl ⟨by rw [HZ.out], st_drop H2⟩

end Go.Proofs.Ytcmhobabbklnhaa
