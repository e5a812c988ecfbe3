/- Walks and laws behind the proofs of the given rows of this seat (each: the law returns true whatever the input, and the input reads as it did). Conditions: none. -/
import Derived.Test.YtcmhobabbklnhaaProg
import Derived.Test.YtcmhobabbklnhaaReg
import Derived.WalkSpells
import Derived.Deep.DeepMust
import Derived.WalkLawsBesides
import Derived.BigQuiet
import Derived.Deep.RegionHeld3
import Derived.Test.YtcmhobabbklnhaaGet
namespace Go.Proofs.Ytcmhobabbklnhaa
open Go.RowKit Go.BigFrame

set_option maxHeartbeats 400000 in
theorem Clone_any (a : Option Addr) (n c : Nat) (xs : List Int) (hn : n ≤ 1000000000) (w0 : World) (R : Rd w0 a n c (bs xs) 1) :
    Calls Try.prog 96 #[.slice a n c] w0 fun e w' => ∃ a' c', e = .returned (.slice a' n c') ∧ St w0 [OwB a' n c' xs] w' := by
  have H := St.start w0
  have he := fun w => Lib.run_eql_slice_nil (P := Try.prog) w 22 5 a n c 0 0 (by kernel_rfl)
  cases a with
  | none =>
    obtain rfl := R.nil rfl
    obtain rfl : n = 0 := by have := R.le; omega
    have hx : xs = [] := by have := R.len; rw [bs_len] at this; exact List.eq_nil_of_length_eq_zero (by simpa using this)
    subst hx
    go_enter Try.func96, Try.ntmps96
    go_wp2
    go_ret
    exact ⟨_, _, rfl, H.nil _ _⟩
  | some p =>
    go_enter Try.func96, Try.ntmps96
    go_wp2_with (at_builtin; refine y_append rfl _ _ tfB rfl rfl rfl (St.ownBox (n := 0) (sz := 1) (H.alloc _) .here (by simp) (by simp)) .here (R.st (H.alloc _)) (by unfold maxLen; omega) (by omega) ?_; clear H; intro a' c' w1 H)
    go_ret
    simp only [Nat.zero_add, List.nil_append] at H
    exact ⟨a', c', by simp, H⟩

set_option maxHeartbeats 400000 in
theorem Clip_any (a : Option Addr) (n c : Nat) (h : n ≤ c) (hn : n ≤ 1000000000) (w0 : World) :
    Calls Try.prog 115 #[.slice a n c] w0 fun e w' => ∃ a', e = .returned (.slice a' n n) ∧ Part a n c 0 a' n n 1 ∧ St w0 [] w' := by
  have H := St.start w0
  go_enter Try.func115, Try.ntmps115
  go_wp2_with ((with_reducible apply y_slice_hm rfl _ _ _ tfB rfl rfl rfl rfl); omega; omega; omega; omega; omega; intro a' HP)
  go_ret
  exact ⟨_, rfl, by simpa using HP, H⟩

set_option maxHeartbeats 400000 in
theorem Put_arg (n sz : Int) (h : sz < 1 ∨ 4 < sz ∨ n < 0 ∨ (1 ≤ sz ∧ sz ≤ 4 ∧ 2 ^ (8 * sz.toNat) ≤ n)) (w0 : World) : Calls Try.prog 25 #[.int .i64 n, .int .i64 sz] w0 fun e w' => e = .returned (.tuple #[.slice none 0 0, .int .i64 2]) ∧ St w0 [] w' := by
  have H := St.start w0
  by_cases h1 : sz < 1 ∨ 4 < sz
  · go_enter Try.func25, Try.ntmps25
    go_wp2_with (go_at_call 81; (with_reducible refine (sized_f _ h1 _).mono ?_); rintro e w' ⟨rfl, rfl⟩)
    go_ret2
    exact ⟨rfl, H⟩
  · have h4 : 1 ≤ sz := by omega
    have h5 : sz ≤ 4 := by omega
    by_cases h3 : n < 0
    · clear h h1
      go_enter Try.func25, Try.ntmps25
      go_wp2_with (go_at_call 81; (with_reducible refine (sized_t _ h4 h5 _).mono ?_); rintro e w' ⟨rfl, rfl⟩)
      go_ret2
      exact ⟨rfl, H⟩
    · have h6 : 2 ^ (8 * sz.toNat) ≤ n := by omega
      clear h h1
      have : sz = 1 ∨ sz = 2 ∨ sz = 3 ∨ sz = 4 := by omega
      rcases this with rfl | rfl | rfl | rfl
      all_goals
        simp at h6
        go_enter Try.func25, Try.ntmps25
        go_wp2_with (go_at_call 81; (with_reducible refine (sized_t _ h4 h5 _).mono ?_); rintro e w' ⟨rfl, rfl⟩)
        go_ret2
        exact ⟨rfl, H⟩

theorem leB_nonneg (n : Int) (k : Nat) : Byt (leB n k) := by
  intro x hx
  simp [leB] at hx
  obtain ⟨i, _, rfl⟩ := hx
  omega

def lenOf : Value → Nat | .slice _ k _ => k | _ => 0
theorem div_step (n : Int) (k : Nat) : n / 2 ^ (8 * k) / 256 = n / 2 ^ (8 * (k + 1)) := by
  rw [Int.ediv_ediv_of_nonneg (Int.le_of_lt (Int.pow_pos (by decide)))]
  congr 1
  rw [Nat.mul_add, Int.pow_add]
  rfl

set_option maxHeartbeats 1000000 in
theorem Put_1 (n : Int) (h0 : 0 ≤ n) (hlt : n < 256) (w0 : World) :
    Calls Try.prog 25 #[.int .i64 n, .int .i64 1] w0 fun e w' => ∃ a c, e = .returned (.tuple #[.slice a 1 c, .int .i64 0]) ∧ St w0 [OwB a 1 c (leB n 1)] w' := by
  have H := (St.start w0).nil 5 1
  go_enter Try.func25, Try.ntmps25
  go_wp2_with (go_at_call 81; (with_reducible refine (sized_t _ (by omega) (by omega) _).mono ?_); rintro e w' ⟨rfl, rfl⟩)
  go_loopw [0, 6] (fun x v wr => ∃ (k : Nat) (y : Int) (a : Option Addr) (c : Nat), x = .int .i64 y ∧ 0 ≤ y ∧ y < 4294967296 ∧ Hid (y = n / 2 ^ (8 * k)) ∧ v = .slice a k c ∧ k ≤ 1 ∧ St w0 [OwB a k c (leB n k)] wr) (fun _ v _ => 4 - lenOf v)
  case atStart => exact ⟨0, n, none, 0, rfl, h0, by omega, by show n = _; simp, rfl, by omega, H⟩
  case round =>
    clear H
    obtain ⟨k, y, a, cap, rfl, hy0, hy1, hy, rfl, hk4, H⟩ := hrel
    go_wp2_with ((at_builtin; go_must ((with_reducible apply y_append1 rfl _ _ tfB rfl rfl rfl); (repeat (first | exact H | apply St.alloc | apply St.drewN | apply St.drew | exact Upd.here | apply Upd.there | exact Del.here | apply Del.there | exact In.here | apply In.there | apply St.set)); rfl; (unfold maxLen; omega); omega; clear H; intro a cap w1 H)))
    · exact ⟨⟨k + 1, y / 256, _, _, rfl, by omega, by omega, by show y / 256 = _; rw [hy.out, div_step], rfl, by omega, by rw [leB_succ, ← hy.out]; simpa [OwB, bs] using H⟩, by simp [lenOf]; omega⟩
    · obtain rfl : k = 1 := by omega
      go_wp2
      go_ret2
      exact ⟨_, _, rfl, H⟩

set_option maxHeartbeats 1000000 in
theorem Put_2 (n : Int) (h0 : 0 ≤ n) (hlt : n < 65536) (w0 : World) :
    Calls Try.prog 25 #[.int .i64 n, .int .i64 2] w0 fun e w' => ∃ a c, e = .returned (.tuple #[.slice a 2 c, .int .i64 0]) ∧ St w0 [OwB a 2 c (leB n 2)] w' := by
  have H := (St.start w0).nil 5 1
  go_enter Try.func25, Try.ntmps25
  go_wp2_with (go_at_call 81; (with_reducible refine (sized_t _ (by omega) (by omega) _).mono ?_); rintro e w' ⟨rfl, rfl⟩)
  go_loopw [0, 6] (fun x v wr => ∃ (k : Nat) (y : Int) (a : Option Addr) (c : Nat), x = .int .i64 y ∧ 0 ≤ y ∧ y < 4294967296 ∧ Hid (y = n / 2 ^ (8 * k)) ∧ v = .slice a k c ∧ k ≤ 2 ∧ St w0 [OwB a k c (leB n k)] wr) (fun _ v _ => 4 - lenOf v)
  case atStart => exact ⟨0, n, none, 0, rfl, h0, by omega, by show n = _; simp, rfl, by omega, H⟩
  case round =>
    clear H
    obtain ⟨k, y, a, cap, rfl, hy0, hy1, hy, rfl, hk4, H⟩ := hrel
    go_wp2_with ((at_builtin; go_must ((with_reducible apply y_append1 rfl _ _ tfB rfl rfl rfl); (repeat (first | exact H | apply St.alloc | apply St.drewN | apply St.drew | exact Upd.here | apply Upd.there | exact Del.here | apply Del.there | exact In.here | apply In.there | apply St.set)); rfl; (unfold maxLen; omega); omega; clear H; intro a cap w1 H)))
    · exact ⟨⟨k + 1, y / 256, _, _, rfl, by omega, by omega, by show y / 256 = _; rw [hy.out, div_step], rfl, by omega, by rw [leB_succ, ← hy.out]; simpa [OwB, bs] using H⟩, by simp [lenOf]; omega⟩
    · obtain rfl : k = 2 := by omega
      go_wp2
      go_ret2
      exact ⟨_, _, rfl, H⟩

set_option maxHeartbeats 1000000 in
theorem Put_3 (n : Int) (h0 : 0 ≤ n) (hlt : n < 16777216) (w0 : World) :
    Calls Try.prog 25 #[.int .i64 n, .int .i64 3] w0 fun e w' => ∃ a c, e = .returned (.tuple #[.slice a 3 c, .int .i64 0]) ∧ St w0 [OwB a 3 c (leB n 3)] w' := by
  have H := (St.start w0).nil 5 1
  go_enter Try.func25, Try.ntmps25
  go_wp2_with (go_at_call 81; (with_reducible refine (sized_t _ (by omega) (by omega) _).mono ?_); rintro e w' ⟨rfl, rfl⟩)
  go_loopw [0, 6] (fun x v wr => ∃ (k : Nat) (y : Int) (a : Option Addr) (c : Nat), x = .int .i64 y ∧ 0 ≤ y ∧ y < 4294967296 ∧ Hid (y = n / 2 ^ (8 * k)) ∧ v = .slice a k c ∧ k ≤ 3 ∧ St w0 [OwB a k c (leB n k)] wr) (fun _ v _ => 4 - lenOf v)
  case atStart => exact ⟨0, n, none, 0, rfl, h0, by omega, by show n = _; simp, rfl, by omega, H⟩
  case round =>
    clear H
    obtain ⟨k, y, a, cap, rfl, hy0, hy1, hy, rfl, hk4, H⟩ := hrel
    go_wp2_with ((at_builtin; go_must ((with_reducible apply y_append1 rfl _ _ tfB rfl rfl rfl); (repeat (first | exact H | apply St.alloc | apply St.drewN | apply St.drew | exact Upd.here | apply Upd.there | exact Del.here | apply Del.there | exact In.here | apply In.there | apply St.set)); rfl; (unfold maxLen; omega); omega; clear H; intro a cap w1 H)))
    · exact ⟨⟨k + 1, y / 256, _, _, rfl, by omega, by omega, by show y / 256 = _; rw [hy.out, div_step], rfl, by omega, by rw [leB_succ, ← hy.out]; simpa [OwB, bs] using H⟩, by simp [lenOf]; omega⟩
    · obtain rfl : k = 3 := by omega
      go_wp2
      go_ret2
      exact ⟨_, _, rfl, H⟩

set_option maxHeartbeats 1000000 in
theorem Put_4 (n : Int) (h0 : 0 ≤ n) (hlt : n < 4294967296) (w0 : World) :
    Calls Try.prog 25 #[.int .i64 n, .int .i64 4] w0 fun e w' => ∃ a c, e = .returned (.tuple #[.slice a 4 c, .int .i64 0]) ∧ St w0 [OwB a 4 c (leB n 4)] w' := by
  have H := (St.start w0).nil 5 1
  go_enter Try.func25, Try.ntmps25
  go_wp2_with (go_at_call 81; (with_reducible refine (sized_t _ (by omega) (by omega) _).mono ?_); rintro e w' ⟨rfl, rfl⟩)
  go_loopw [0, 6] (fun x v wr => ∃ (k : Nat) (y : Int) (a : Option Addr) (c : Nat), x = .int .i64 y ∧ 0 ≤ y ∧ y < 4294967296 ∧ Hid (y = n / 2 ^ (8 * k)) ∧ v = .slice a k c ∧ k ≤ 4 ∧ St w0 [OwB a k c (leB n k)] wr) (fun _ v _ => 4 - lenOf v)
  case atStart => exact ⟨0, n, none, 0, rfl, h0, by omega, by show n = _; simp, rfl, by omega, H⟩
  case round =>
    clear H
    obtain ⟨k, y, a, cap, rfl, hy0, hy1, hy, rfl, hk4, H⟩ := hrel
    go_wp2_with ((at_builtin; go_must ((with_reducible apply y_append1 rfl _ _ tfB rfl rfl rfl); (repeat (first | exact H | apply St.alloc | apply St.drewN | apply St.drew | exact Upd.here | apply Upd.there | exact Del.here | apply Del.there | exact In.here | apply In.there | apply St.set)); rfl; (unfold maxLen; omega); omega; clear H; intro a cap w1 H)))
    · exact ⟨⟨k + 1, y / 256, _, _, rfl, by omega, by omega, by show y / 256 = _; rw [hy.out, div_step], rfl, by omega, by rw [leB_succ, ← hy.out]; simpa [OwB, bs] using H⟩, by simp [lenOf]; omega⟩
    · obtain rfl : k = 4 := by omega
      go_wp2
      go_ret2
      exact ⟨_, _, rfl, H⟩

/-- as data: what Put hands back where it may -/
theorem Put_ok (n sz : Int) (h1 : 1 ≤ sz) (h2 : sz ≤ 4) (h0 : 0 ≤ n) (hlt : n < 2 ^ (8 * sz.toNat)) (w0 : World) :
    Calls Try.prog 25 #[.int .i64 n, .int .i64 sz] w0 fun e w' => ∃ a c, e = .returned (.tuple #[.slice a sz.toNat c, .int .i64 0]) ∧ St w0 [OwB a sz.toNat c (leB n sz.toNat)] w' := by
  have : sz = 1 ∨ sz = 2 ∨ sz = 3 ∨ sz = 4 := by omega
  rcases this with rfl | rfl | rfl | rfl <;> simp at hlt
  · exact Put_1 n h0 (by omega) w0
  · exact Put_2 n h0 (by omega) w0
  · exact Put_3 n h0 (by omega) w0
  · exact Put_4 n h0 (by omega) w0

end Go.Proofs.Ytcmhobabbklnhaa
