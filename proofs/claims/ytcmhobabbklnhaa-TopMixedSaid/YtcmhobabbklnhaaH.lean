/- Walks and laws behind the proofs of the given rows of this seat (each: the law returns true whatever the input, and the input reads as it did). Conditions: none. -/
import Derived.Test.YtcmhobabbklnhaaProg
import Derived.Test.YtcmhobabbklnhaaReg
import Derived.WalkSpells
import Derived.Deep.DeepMust
import Derived.WalkLawsBesides
import Derived.BigQuiet
import Derived.Deep.RegionHeld3
import Derived.Test.YtcmhobabbklnhaaG
namespace Go.Proofs.Ytcmhobabbklnhaa
open Go.RowKit Go.BigFrame
attribute [local go_sem] xr_fold Oper.semAt_some

theorem bits_range (o : BinOp) (x y : Int) : 0 ≤ bits o .u32 x y ∧ bits o .u32 x y < 4294967296 := by
  unfold bits
  simp only [IntKind.wrap_u32']
  omega
def W4.ok (x : W4) : Prop := (0 ≤ x.a ∧ x.a < 4294967296) ∧ (0 ≤ x.b ∧ x.b < 4294967296) ∧ (0 ≤ x.c ∧ x.c < 4294967296) ∧ (0 ≤ x.d ∧ x.d < 4294967296)
theorem xr_range (x y : Int) : 0 ≤ xr x y ∧ xr x y < 4294967296 := bits_range _ _ _
theorem rotl_range (x y : Int) : 0 ≤ rotl x y ∧ rotl x y < 4294967296 := bits_range _ _ _
theorem half_ok (f n : Int) (x : W4) : (half f n x).ok := by
  unfold half W4.ok
  exact ⟨by simp only; omega, rotl_range _ _, by simp only; omega, rotl_range _ _⟩
theorem turnW_ok (x : W4) : (turnW x).ok := half_ok _ _ _
theorem fourW_ok (xs : List Int) : (fourW xs).ok := turnW_ok _

set_option maxHeartbeats 400000 in
theorem Four_any (a : Option Addr) (n c : Nat) (xs : List Int) (hn : n ≤ 1000000) (w0 : World) (R : Rd w0 a n c (bs xs) 1) (hB : Byt xs) :
    Calls Try.prog 30 #[.slice a n c] w0 fun e w' => e = .returned (fourW xs).v ∧ St w0 [] w' := by
  have H := St.start w0
  go_enter Try.func30, Try.ntmps30
  go_wp2_with (go_at_call 83; (apply abs_calls; (repeat (first | exact H | apply St.alloc | apply St.drewN | apply St.drew | exact Upd.here | apply Upd.there | exact Del.here | apply Del.there | exact In.here | apply In.there | apply St.set)); clear H; intro w H; try simp only [World.size_alloc] at H); (with_reducible refine (four_any a n c xs hn _ (R.st H) hB).mono ?_); rintro e w1 ⟨rfl, hs⟩; replace H := H.call0 hs; clear hs; obtain ⟨d0, d1, d2, d3, fz⟩ := H.cells4 (b := w0.heap.size) (by (repeat (first | exact H | apply St.alloc | apply St.drewN | apply St.drew | exact Upd.here | apply Upd.there | exact Del.here | apply Del.there | exact In.here | apply In.there | apply St.set))))
  have H2 := H.setW (b := w0.heap.size) (fourW xs) (by (repeat (first | exact H | apply St.alloc | apply St.drewN | apply St.drew | exact Upd.here | apply Upd.there | exact Del.here | apply Del.there | exact In.here | apply In.there | apply St.set)))
  exact ret_arr4 rfl H2 .here rfl und4 sz4 rfl ⟨rfl, st_drop H2⟩

theorem ix0 (x : W4) (w : World) : (Instr.index 115 (.agg #[.int .u32 x.a, .int .u32 x.b, .int .u32 x.c, .int .u32 x.d]) (.int .i64 0)).run Try.prog w = .ok (.int .u32 x.a) w := by kernel_rfl
theorem ix1 (x : W4) (w : World) : (Instr.index 115 (.agg #[.int .u32 x.a, .int .u32 x.b, .int .u32 x.c, .int .u32 x.d]) (.int .i64 1)).run Try.prog w = .ok (.int .u32 x.b) w := by kernel_rfl
theorem ix2 (x : W4) (w : World) : (Instr.index 115 (.agg #[.int .u32 x.a, .int .u32 x.b, .int .u32 x.c, .int .u32 x.d]) (.int .i64 2)).run Try.prog w = .ok (.int .u32 x.c) w := by kernel_rfl
theorem ix3 (x : W4) (w : World) : (Instr.index 115 (.agg #[.int .u32 x.a, .int .u32 x.b, .int .u32 x.c, .int .u32 x.d]) (.int .i64 3)).run Try.prog w = .ok (.int .u32 x.d) w := by kernel_rfl

set_option maxHeartbeats 400000 in
theorem Sum_any (a : Option Addr) (n c : Nat) (xs : List Int) (hn : n ≤ 1000000) (w0 : World) (R : Rd w0 a n c (bs xs) 1) (hB : Byt xs) :
    Calls Try.prog 31 #[.slice a n c] w0 fun e w' => e = .returned (.int .u32 (fourW xs).a) ∧ St w0 [] w' := by
  have H := St.start w0
  have i0 := ix0 (fourW xs)
  go_enter Try.func31, Try.ntmps31
  go_wp2_with (go_at_call 83; (apply abs_calls; (repeat (first | exact H | apply St.alloc | apply St.drewN | apply St.drew | exact Upd.here | apply Upd.there | exact Del.here | apply Del.there | exact In.here | apply In.there | apply St.set)); clear H; intro w H; try simp only [World.size_alloc] at H); (with_reducible refine (four_any a n c xs hn _ (R.st H) hB).mono ?_); rintro e w1 ⟨rfl, hs⟩; replace H := H.call0 hs; clear hs)
  dsimp only [W4.v]
  go_wp2
  go_ret
  exact ⟨rfl, H⟩

def keyW (x : W4) : List Int := leB x.a 4 ++ leB x.b 4 ++ leB x.c 4 ++ leB x.d 4
theorem keyW_len (x : W4) : (keyW x).length = 16 := by simp [keyW, leB_len]
theorem keyW_byt (x : W4) : Byt (keyW x) := by
  intro y hy
  simp only [keyW, List.mem_append] at hy
  rcases hy with ((hy | hy) | hy) | hy <;> exact leB_nonneg _ _ y hy

theorem bytes01_4 (n : Int) (hn : 0 ≤ n) (hn' : n < 4294967296) (w : World) :
    Calls Try.prog 27 #[.int .u32 n, .int .i64 4] w fun e w' => ∃ a cap, e = .returned (.slice a 4 cap) ∧ St w [OwB a 4 cap (leB n 4)] w' := bytes01_any n 4 hn hn' (by decide) (by decide) w
theorem join4 {w0 w : World} {L : List Res} {B : Nat} {a1 a2 a3 a4 : Option Addr} {c1 c2 c3 c4 : Nat} {l1 l2 l3 l4 : List Int} (H : St w0 L w)
    (hb : In (.box B (.cells #[.slice a1 4 c1, .slice a2 4 c2, .slice a3 4 c3, .slice a4 4 c4] 22 (0, 0))) L) (h1 : In (OwB a1 4 c1 l1) L) (h2 : In (OwB a2 4 c2 l2) L) (h3 : In (OwB a3 4 c3 l3) L) (h4 : In (OwB a4 4 c4 l4) L) :
    Calls Try.prog 84 #[.slice (some ⟨B, 0, none⟩) 4 4] w fun e w' => ∃ a' c', e = .returned (.slice a' 16 c') ∧ St w0 (OwB a' 16 c' (l1 ++ l2 ++ l3 ++ l4) :: L) w' := by
  have R := H.rdBox (n := 4) (sz := 1) hb rfl (by unfold maxLen; omega) (by simp [Value.oneCell'])
  have r1 := H.rd h1 (bs_one _)
  have r2 := H.rd h2 (bs_one _)
  have r3 := H.rd h3 (bs_one _)
  have r4 := H.rd h4 (bs_one _)
  have e1 : cat [⟨a1, 4, c1, l1⟩, ⟨a2, 4, c2, l2⟩, ⟨a3, 4, c3, l3⟩, ⟨a4, 4, c4, l4⟩] = l1 ++ l2 ++ l3 ++ l4 := by simp [cat]
  have e2 : (l1 ++ l2 ++ l3 ++ l4).length = 16 := by
    have q1 := r1.len; have q2 := r2.len; have q3 := r3.len; have q4 := r4.len
    rw [bs_len] at q1 q2 q3 q4
    simp only [List.length_append]; omega
  refine (join01_any _ 4 4 [⟨a1, 4, c1, l1⟩, ⟨a2, 4, c2, l2⟩, ⟨a3, 4, c3, l3⟩, ⟨a4, 4, c4, l4⟩] (by decide) (by rw [e1, e2]; decide) w R ?_).mono ?_
  · intro p hp
    simp only [List.mem_cons, List.not_mem_nil, or_false] at hp
    rcases hp with rfl | rfl | rfl | rfl <;> assumption
  · rintro e w' ⟨a', c', rfl, hs⟩
    rw [e1, e2] at *
    exact ⟨a', c', rfl, H.call hs⟩

set_option maxRecDepth 100000 in
set_option maxHeartbeats 4000000 in
theorem key01_any (a : Option Addr) (n c : Nat) (ps : List Pc) (hn : n ≤ 1000) (ht : (cat ps).length ≤ 1000000) (w0 : World) (R : Rd w0 a n c (ps.map Pc.v) 1) (hS : Bss w0 ps) (hB : Byt (cat ps)) :
    Calls Try.prog 33 #[.slice a n c] w0 fun e w' => ∃ a' c', e = .returned (.slice a' 16 c') ∧ St w0 [OwB a' 16 c' (keyW (fourW (cat ps)))] w' := by
  have H := St.start w0
  obtain ⟨z, hz⟩ : ∃ z, z = fourW (cat ps) := ⟨_, rfl⟩
  obtain ⟨⟨za, za'⟩, ⟨zb, zb'⟩, ⟨zc, zc'⟩, ⟨zd, zd'⟩⟩ : z.ok := hz ▸ fourW_ok _
  rw [← hz]
  go_enter Try.func33, Try.ntmps33
  go_wp2_with (first
    | (go_at_call 84; (apply abs_calls; (repeat (first | exact H | apply St.alloc | apply St.drewN | apply St.drew | exact Upd.here | apply Upd.there | exact Del.here | apply Del.there | exact In.here | apply In.there | apply St.set)); clear H; intro w H; try simp only [World.size_alloc] at H); (with_reducible refine (join01_any a n c ps hn (by omega) _ (R.st H) (hS.st H)).mono ?_); rintro e w1 ⟨a', c', rfl, hs⟩; replace H := H.call hs; clear hs)
    | (go_at_call 24; (apply abs_calls; (repeat (first | exact H | apply St.alloc | apply St.drewN | apply St.drew | exact Upd.here | apply Upd.there | exact Del.here | apply Del.there | exact In.here | apply In.there | apply St.set)); clear H; intro w H; try simp only [World.size_alloc] at H); (with_reducible refine (four01_any _ _ _ (cat ps) ht _ (H.rd .here (bs_one _)) hB).mono ?_); rintro e w1 ⟨rfl, hs⟩; replace H := H.call0 hs; clear hs))
  rw [← hz]
  (apply abs_wp; (repeat (first | exact H | apply St.alloc | apply St.drewN | apply St.drew | exact Upd.here | apply Upd.there | exact Del.here | apply Del.there | exact In.here | apply In.there | apply St.set)); clear H; intro w H; try simp only [World.size_alloc] at H)
  generalize w1.heap.size = b at H ⊢
  clear hz R hS
  obtain ⟨c0, c1, c2, c3, fc⟩ := H.cells4 (b := b) (by (repeat (first | exact H | apply St.alloc | apply St.drewN | apply St.drew | exact Upd.here | apply Upd.there | exact Del.here | apply Del.there | exact In.here | apply In.there | apply St.set)))
  go_region_held3 (fun w' => w'.cell? ⟨b, 0, none⟩ = some (.int .u32 z.a) ∧ w'.cell? ⟨b, 1, none⟩ = some (.int .u32 z.b) ∧ w'.cell? ⟨b, 2, none⟩ = some (.int .u32 z.c) ∧ w'.cell? ⟨b, 3, none⟩ = some (.int .u32 z.d))
    (first | go_keep | exact ⟨H.cell (by (repeat (first | exact H | apply St.alloc | apply St.drewN | apply St.drew | exact Upd.here | apply Upd.there | exact Del.here | apply Del.there | exact In.here | apply In.there | apply St.set))) rfl, H.cell (by (repeat (first | exact H | apply St.alloc | apply St.drewN | apply St.drew | exact Upd.here | apply Upd.there | exact Del.here | apply Del.there | exact In.here | apply In.there | apply St.set))) rfl, H.cell (by (repeat (first | exact H | apply St.alloc | apply St.drewN | apply St.drew | exact Upd.here | apply Upd.there | exact Del.here | apply Del.there | exact In.here | apply In.there | apply St.set))) rfl, H.cell (by (repeat (first | exact H | apply St.alloc | apply St.drewN | apply St.drew | exact Upd.here | apply Upd.there | exact Del.here | apply Del.there | exact In.here | apply In.there | apply St.set))) rfl⟩)
    (first
      | (go_at_call 27; (apply abs_calls; (repeat (first | exact H | apply St.alloc | apply St.drewN | apply St.drew | exact Upd.here | apply Upd.there | exact Del.here | apply Del.there | exact In.here | apply In.there | apply St.set)); clear H; intro w H; try simp only [World.size_alloc] at H); (with_reducible refine (bytes01_4 z.a za za' _).mono ?_); rintro e w1 ⟨a', c', rfl, hs⟩; replace H := H.call hs; clear hs)
      | (go_at_call 27; (apply abs_calls; (repeat (first | exact H | apply St.alloc | apply St.drewN | apply St.drew | exact Upd.here | apply Upd.there | exact Del.here | apply Del.there | exact In.here | apply In.there | apply St.set)); clear H; intro w H; try simp only [World.size_alloc] at H); (with_reducible refine (bytes01_4 z.b zb zb' _).mono ?_); rintro e w1 ⟨a', c', rfl, hs⟩; replace H := H.call hs; clear hs)
      | (go_at_call 27; (apply abs_calls; (repeat (first | exact H | apply St.alloc | apply St.drewN | apply St.drew | exact Upd.here | apply Upd.there | exact Del.here | apply Del.there | exact In.here | apply In.there | apply St.set)); clear H; intro w H; try simp only [World.size_alloc] at H); (with_reducible refine (bytes01_4 z.c zc zc' _).mono ?_); rintro e w1 ⟨a', c', rfl, hs⟩; replace H := H.call hs; clear hs)
      | (go_at_call 27; (apply abs_calls; (repeat (first | exact H | apply St.alloc | apply St.drewN | apply St.drew | exact Upd.here | apply Upd.there | exact Del.here | apply Del.there | exact In.here | apply In.there | apply St.set)); clear H; intro w H; try simp only [World.size_alloc] at H); (with_reducible refine (bytes01_4 z.d zd zd' _).mono ?_); rintro e w1 ⟨a', c', rfl, hs⟩; replace H := H.call hs; clear hs)
      | (go_at_call 84; (apply abs_calls; (repeat (first | exact H | apply St.alloc | apply St.drewN | apply St.drew | exact Upd.here | apply Upd.there | exact Del.here | apply Del.there | exact In.here | apply In.there | apply St.set)); clear H; intro w H; try simp only [World.size_alloc] at H); (with_reducible refine (join4 H (by (repeat (first | exact H | apply St.alloc | apply St.drewN | apply St.drew | exact Upd.here | apply Upd.there | exact Del.here | apply Del.there | exact In.here | apply In.there | apply St.set))) (by (repeat (first | exact H | apply St.alloc | apply St.drewN | apply St.drew | exact Upd.here | apply Upd.there | exact Del.here | apply Del.there | exact In.here | apply In.there | apply St.set))) (by (repeat (first | exact H | apply St.alloc | apply St.drewN | apply St.drew | exact Upd.here | apply Upd.there | exact Del.here | apply Del.there | exact In.here | apply In.there | apply St.set))) (by (repeat (first | exact H | apply St.alloc | apply St.drewN | apply St.drew | exact Upd.here | apply Upd.there | exact Del.here | apply Del.there | exact In.here | apply In.there | apply St.set))) (by (repeat (first | exact H | apply St.alloc | apply St.drewN | apply St.drew | exact Upd.here | apply Upd.there | exact Del.here | apply Del.there | exact In.here | apply In.there | apply St.set)))).mono ?_); rintro e w1 ⟨a9, c9, rfl, hs⟩; replace H := hs; clear hs))
  go_wp2
  go_ret
  exact ⟨_, _, rfl, H.sub (List.Sublist.cons_cons _ (List.nil_sublist _))⟩

def keyAt (x : W4) (k : Nat) : List Int := (keyW x).take (4 * k)

theorem Put4_any (n : Int) (h0 : 0 ≤ n) (hlt : n < 4294967296) (w0 : World) :
    Calls Try.prog 25 #[.int .i64 n, .int .i64 4] w0 fun e w' => ∃ a c, e = .returned (.tuple #[.slice a 4 c, .int .i64 0]) ∧ St w0 [OwB a 4 c (leB n 4)] w' := Put_ok n 4 (by decide) (by decide) h0 (by simpa using hlt) w0
theorem key_step (z : W4) (hz : z.ok) (k : Nat) (hk : k < 4) : ∃ y, (∀ w : World, (Instr.index 115 (.agg #[.int .u32 z.a, .int .u32 z.b, .int .u32 z.c, .int .u32 z.d]) (.int .i64 (k : Int))).run Try.prog w = .ok (.int .u32 y) w) ∧
    0 ≤ y ∧ y < 4294967296 ∧ keyAt z (k + 1) = keyAt z k ++ leB y 4 := by
  obtain ⟨⟨za, za'⟩, ⟨zb, zb'⟩, ⟨zc, zc'⟩, ⟨zd, zd'⟩⟩ := hz
  match k, hk with
  | 0, _ => exact ⟨z.a, fun w => ix0 z w, za, za', rfl⟩
  | 1, _ => exact ⟨z.b, fun w => ix1 z w, zb, zb', rfl⟩
  | 2, _ => exact ⟨z.c, fun w => ix2 z w, zc, zc', rfl⟩
  | 3, _ => exact ⟨z.d, fun w => ix3 z w, zd, zd', rfl⟩

set_option maxRecDepth 100000 in
set_option maxHeartbeats 2000000 in
theorem Key_any (a : Option Addr) (n c : Nat) (xs : List Int) (hn : n ≤ 1000000) (w0 : World) (R : Rd w0 a n c (bs xs) 1) (hB : Byt xs) :
    Calls Try.prog 32 #[.slice a n c] w0 fun e w' => ∃ a' c', e = .returned (.slice a' 16 c') ∧ St w0 [OwB a' 16 c' (keyW (fourW xs))] w' := by
  have H := (St.start w0).nil 5 1
  obtain ⟨z, hz⟩ : ∃ z, z = fourW xs := ⟨_, rfl⟩
  obtain ⟨⟨za, za'⟩, ⟨zb, zb'⟩, ⟨zc, zc'⟩, ⟨zd, zd'⟩⟩ : z.ok := hz ▸ fourW_ok _
  have h4 := fun w => four_any a n c xs hn w
  rw [← hz] at h4 ⊢
  have H4 := Lib.hid h4
  clear h4 hz
  have i0 := ix0 z
  have i1 := ix1 z
  have i2 := ix2 z
  have i3 := ix3 z
  go_enter Try.func32, Try.ntmps32
  go_wp2_with (go_at_call 83; (apply abs_calls; (repeat (first | exact H | apply St.alloc | apply St.drewN | apply St.drew | exact Upd.here | apply Upd.there | exact Del.here | apply Del.there | exact In.here | apply In.there | apply St.set)); clear H; intro w H; try simp only [World.size_alloc] at H); (with_reducible refine (H4.out _ (R.st H) hB).mono ?_); rintro e w1 ⟨rfl, hs⟩; replace H := H.call0 hs; clear hs)
  go_loopw [3, 5, 6, 7, 10] (fun v _ _ _ i wr => ∃ (k : Nat) (a' : Option Addr) (c' : Nat), k ≤ 4 ∧ i = .int .i64 k ∧ v = .slice a' (4 * k) c' ∧ St w0 [OwB a' (4 * k) c' (keyAt z k)] wr) (fun _ _ _ _ i _ => 4 - (intOf i).toNat)
  case atStart => exact ⟨0, none, 0, by omega, rfl, rfl, H⟩
  case round =>
    clear H
    obtain ⟨k, a', c', hk, rfl, rfl, H⟩ := hrel
    dsimp only [W4.v]
    by_cases hlt : k < 4
    · obtain ⟨y, hi, hy0, hy1, hyk⟩ := key_step z ⟨⟨za, za'⟩, ⟨zb, zb'⟩, ⟨zc, zc'⟩, ⟨zd, zd'⟩⟩ k hlt
      have HK := Lib.hid hyk
      clear i0 i1 i2 i3 hyk
      go_wp2_with (first
        | (go_at_call 25; (apply abs_calls; (repeat (first | exact H | apply St.alloc | apply St.drewN | apply St.drew | exact Upd.here | apply Upd.there | exact Del.here | apply Del.there | exact In.here | apply In.there | apply St.set)); clear H; intro w H; try simp only [World.size_alloc] at H); (with_reducible refine (Put4_any y hy0 hy1 _).mono ?_); rintro e w1 ⟨a5, c5, rfl, hs⟩; replace H := H.call hs; clear hs)
        | (at_builtin; (with_reducible apply y_append rfl _ _ tfB rfl rfl rfl); exact H; exact .there .here; exact H.rd .here (bs_one _); (unfold maxLen; omega); omega; clear H; intro a2 c2 w1 H))
      rw [← bs_append, ← HK.out] at H
      exact ⟨⟨k + 1, a2, c2, by omega, by go_num, rfl, H.sub (List.Sublist.cons_cons _ (List.nil_sublist _))⟩, by simp [intOf]; omega⟩
    · obtain rfl : k = 4 := by omega
      go_wp2
      go_ret
      exact ⟨_, _, rfl, H⟩

end Go.Proofs.Ytcmhobabbklnhaa
