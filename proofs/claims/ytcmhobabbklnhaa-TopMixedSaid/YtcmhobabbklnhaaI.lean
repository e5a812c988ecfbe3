/- Walks and laws behind the proofs of the given rows of this seat (each: the law returns true whatever the input, and the input reads as it did). Conditions: none. -/
import Derived.Test.YtcmhobabbklnhaaProg
import Derived.Test.YtcmhobabbklnhaaReg
import Derived.WalkSpells
import Derived.Deep.DeepMust
import Derived.WalkLawsBesides
import Derived.BigQuiet
import Derived.Deep.RegionHeld3
import Derived.Test.YtcmhobabbklnhaaH
namespace Go.Proofs.Ytcmhobabbklnhaa
open Go.RowKit Go.BigFrame
attribute [local go_sem] Oper.semAt_some

theorem bytes01_mod (n : Int) (m : Nat) (hn : 0 ≤ n) (hn' : n < 4294967296) (hm : m ≤ 4) (w : World) :
    Calls Try.prog 27 #[.int .u32 n, .int .i64 (m : Int)] w fun e w' => ∃ a cap, e = .returned (.slice a m cap) ∧ St w [OwB a m cap (leB n m)] w' := by
  exact bytes01_any n m hn hn' (by omega) (by omega) w
theorem same01_eq (a b : Option Addr) (n c m d : Nat) (xs : List Int) (w0 : World) (R : Rd w0 a n c (bs xs) 1) (S : Rd w0 b m d (bs xs) 1) (hx : Byt xs) :
    Calls Try.prog 26 #[.slice a n c, .slice b m d] w0 fun e w' => e = .returned (.bool true) ∧ St w0 [] w' := by
  refine (same01_any a b n c m d xs xs w0 R S hx hx).mono ?_
  rintro e w' ⟨rfl, rfl⟩
  exact ⟨by simp, St.start _⟩
theorem Put_okN (n : Int) (m : Nat) (h1 : 1 ≤ m) (h2 : m ≤ 4) (h0 : 0 ≤ n) (hlt : n < 2 ^ (8 * m)) (w0 : World) :
    Calls Try.prog 25 #[.int .i64 n, .int .i64 (m : Int)] w0 fun e w' => ∃ a c, e = .returned (.tuple #[.slice a m c, .int .i64 0]) ∧ St w0 [OwB a m c (leB n m)] w' :=
  Put_ok n m (by omega) (by omega) h0 (by simpa using hlt) w0
theorem pow_le {m : Nat} (h : m ≤ 4) : (2 : Int) ^ (8 * m) ≤ 4294967296 := by
  have : m = 0 ∨ m = 1 ∨ m = 2 ∨ m = 3 ∨ m = 4 := by omega
  rcases this with rfl | rfl | rfl | rfl | rfl <;> decide
theorem pow_wrap {m : Nat} (h : m ≤ 4) : wrap64 (2 ^ (8 * (m : Int)).toNat) = 2 ^ (8 * m) := by
  have : m = 0 ∨ m = 1 ∨ m = 2 ∨ m = 3 ∨ m = 4 := by omega
  rcases this with rfl | rfl | rfl | rfl | rfl <;> simp [wrap64]
theorem Get_okN (a : Option Addr) (len cap : Nat) (xs : List Int) (t m : Nat) (hlen : (len : Int) ≤ 140737488351232) (h1 : 1 ≤ m) (h2 : m ≤ 4) (h5 : t + m ≤ len) (w0 : World) (R : Rd w0 a len cap (bs xs) 1) (hB : Byt xs) :
    Calls Try.prog 28 #[.slice a len cap, .int .i64 (t : Int), .int .i64 (m : Int)] w0 fun e w' => e = .returned (.tuple #[.int .i64 (leN ((xs.drop t).take m)), .int .i64 0]) ∧ St w0 [] w' :=
  Get_ok a len cap xs t m hlen (by omega) (by omega) (by omega) (by omega) w0 R hB

theorem piece_w64 {xs : List Int} (hB : Byt xs) (t m : Nat) (h2 : m ≤ 4) : wrap64 (leN ((xs.drop t).take m)) = leN ((xs.drop t).take m) := by
  have h0 := leN_nonneg ((hB.drop t).take m)
  have h1 := leN_lt ((hB.drop t).take m) 4 (by rw [List.length_take]; omega)
  exact w64 h0 (Int.lt_of_lt_of_le h1 (by decide))
theorem number01_st (a : Option Addr) (n c : Nat) (xs : List Int) (hn : n ≤ 4) (w0 : World) (R : Rd w0 a n c (bs xs) 1) (hB : Byt xs) :
    Calls Try.prog 29 #[.slice a n c] w0 fun e w' => e = .returned (.int .u32 (leN xs)) ∧ St w0 [] w' :=
  (number01_any a n c xs hn w0 R hB).mono fun _ _ h => ⟨h.1, h.2 ▸ St.start _⟩
theorem Put_big (n : Int) (m : Nat) (h1 : 1 ≤ m) (h2 : m ≤ 4) (h : (2 : Int) ^ (8 * m) ≤ n) (w0 : World) : Calls Try.prog 25 #[.int .i64 n, .int .i64 (m : Int)] w0 fun e w' => e = .returned (.tuple #[.slice none 0 0, .int .i64 2]) ∧ St w0 [] w' :=
  Put_arg n m (.inr (.inr (.inr ⟨by omega, by omega, by simpa using h⟩))) w0
theorem Put_out (n sz : Int) (h : sz < 1 ∨ 4 < sz ∨ n < 0) (w0 : World) : Calls Try.prog 25 #[.int .i64 n, .int .i64 sz] w0 fun e w' => e = .returned (.tuple #[.slice none 0 0, .int .i64 2]) ∧ St w0 [] w' :=
  Put_arg n sz (by rcases h with h | h | h <;> simp [h]) w0
set_option maxRecDepth 100000 in
set_option maxHeartbeats 4000000 in
theorem coded_ok_ok (n : Int) (m : Nat) (t : Nat) (a : Option Addr) (len c : Nat) (xs : List Int) (hlen : len ≤ 2000) (h1 : 1 ≤ m) (h2 : m ≤ 4) (hnn : 0 ≤ n) (hp : n < 2 ^ (8 * m)) (ht : t + m ≤ len) (w0 : World) (R : Rd w0 a len c (bs xs) 1) (hB : Byt xs) :
    Calls Try.prog 8 #[.int .i64 n, .int .i64 (m : Int), .int .i64 (t : Int), .slice a len c] w0 fun e w' => e = .returned (.bool true) ∧ St w0 [] w' := by
  have H := St.start w0
  have hq : n < wrap64 (2 ^ (8 * (m : Int)).toNat) := (by rw [pow_wrap h2]; exact hp)
  have hn32 : n < 4294967296 := Int.lt_of_lt_of_le hp (pow_le h2)
  have HP := Lib.hid hp
  clear hp
  obtain ⟨b, off, rfl, _⟩ := R.at (by have := R.len; omega)
  have hcl := R.le
  have hcm := R.max
  go_enter Try.func8, Try.ntmps8
  go_wp2_with (first
    | (go_at_call 25; (apply abs_calls; (repeat (first | exact H | apply St.alloc | apply St.drewN | apply St.drew | exact Upd.here | apply Upd.there | exact Del.here | apply Del.there | exact In.here | apply In.there | apply St.set)); clear H; intro w H; try simp only [World.size_alloc] at H); (with_reducible refine (Put_okN n m h1 h2 hnn HP.out _).mono ?_); rintro e w1 ⟨a', c', rfl, hs⟩; replace H := H.call hs; clear hs)
    | (go_at_call 27; (apply abs_calls; (repeat (first | exact H | apply St.alloc | apply St.drewN | apply St.drew | exact Upd.here | apply Upd.there | exact Del.here | apply Del.there | exact In.here | apply In.there | apply St.set)); clear H; intro w H; try simp only [World.size_alloc] at H); (with_reducible refine (bytes01_mod n m hnn hn32 h2 _).mono ?_); rintro e w1 ⟨a', c', rfl, hs⟩; replace H := H.call hs; clear hs)
    | (go_at_call 26; (apply abs_calls; (repeat (first | exact H | apply St.alloc | apply St.drewN | apply St.drew | exact Upd.here | apply Upd.there | exact Del.here | apply Del.there | exact In.here | apply In.there | apply St.set)); clear H; intro w H; try simp only [World.size_alloc] at H); (with_reducible refine (same01_eq _ _ _ _ _ _ _ _ (H.rd (.there .here) (bs_one _)) (H.rd .here (bs_one _)) (leB_nonneg _ _)).mono ?_); rintro e w1 ⟨rfl, hs⟩; replace H := H.call0 hs; clear hs)
    | (go_at_call 28; (apply abs_calls; (repeat (first | exact H | apply St.alloc | apply St.drewN | apply St.drew | exact Upd.here | apply Upd.there | exact Del.here | apply Del.there | exact In.here | apply In.there | apply St.set)); clear H; intro w H; try simp only [World.size_alloc] at H); (with_reducible refine (Get_okN _ len c xs t m (by omega) h1 h2 ht _ (R.st H) hB).mono ?_); rintro e w1 ⟨rfl, hs⟩; replace H := H.call0 hs; clear hs)
    | (go_at_call 29; (apply abs_calls; (repeat (first | exact H | apply St.alloc | apply St.drewN | apply St.drew | exact Upd.here | apply Upd.there | exact Del.here | apply Del.there | exact In.here | apply In.there | apply St.set)); clear H; intro w H; try simp only [World.size_alloc] at H); (with_reducible refine (number01_st _ m (c - t) ((xs.drop t).take m) h2 _ ((R.st H).piece t m (c - t) ht (by omega) (by omega)) ((hB.drop t).take m)).mono ?_); rintro e w1 ⟨rfl, hs⟩; replace H := H.call0 hs; clear hs))
  go_ret
  first
    | exact ⟨rfl, st_drop H⟩
    | exact ⟨by have hw := piece_w64 hB t m h2; simp [hw], st_drop H⟩
set_option maxRecDepth 100000 in
set_option maxHeartbeats 4000000 in
theorem coded_ok_bad (n : Int) (m : Nat) (t : Nat) (a : Option Addr) (len c : Nat) (xs : List Int) (hlen : len ≤ 2000) (h1 : 1 ≤ m) (h2 : m ≤ 4) (hnn : 0 ≤ n) (hp : n < 2 ^ (8 * m)) (ht : t ≤ len) (ht2 : len < t + m) (w0 : World) (R : Rd w0 a len c (bs xs) 1) (hB : Byt xs) :
    Calls Try.prog 8 #[.int .i64 n, .int .i64 (m : Int), .int .i64 (t : Int), .slice a len c] w0 fun e w' => e = .returned (.bool true) ∧ St w0 [] w' := by
  have H := St.start w0
  have hq : n < wrap64 (2 ^ (8 * (m : Int)).toNat) := (by rw [pow_wrap h2]; exact hp)
  have hn32 : n < 4294967296 := Int.lt_of_lt_of_le hp (pow_le h2)
  have HP := Lib.hid hp
  clear hp
  skip
  go_enter Try.func8, Try.ntmps8
  go_wp2_with (first
    | (go_at_call 25; (apply abs_calls; (repeat (first | exact H | apply St.alloc | apply St.drewN | apply St.drew | exact Upd.here | apply Upd.there | exact Del.here | apply Del.there | exact In.here | apply In.there | apply St.set)); clear H; intro w H; try simp only [World.size_alloc] at H); (with_reducible refine (Put_okN n m h1 h2 hnn HP.out _).mono ?_); rintro e w1 ⟨a', c', rfl, hs⟩; replace H := H.call hs; clear hs)
    | (go_at_call 27; (apply abs_calls; (repeat (first | exact H | apply St.alloc | apply St.drewN | apply St.drew | exact Upd.here | apply Upd.there | exact Del.here | apply Del.there | exact In.here | apply In.there | apply St.set)); clear H; intro w H; try simp only [World.size_alloc] at H); (with_reducible refine (bytes01_mod n m hnn hn32 h2 _).mono ?_); rintro e w1 ⟨a', c', rfl, hs⟩; replace H := H.call hs; clear hs)
    | (go_at_call 26; (apply abs_calls; (repeat (first | exact H | apply St.alloc | apply St.drewN | apply St.drew | exact Upd.here | apply Upd.there | exact Del.here | apply Del.there | exact In.here | apply In.there | apply St.set)); clear H; intro w H; try simp only [World.size_alloc] at H); (with_reducible refine (same01_eq _ _ _ _ _ _ _ _ (H.rd (.there .here) (bs_one _)) (H.rd .here (bs_one _)) (leB_nonneg _ _)).mono ?_); rintro e w1 ⟨rfl, hs⟩; replace H := H.call0 hs; clear hs)
    | (go_at_call 28; (apply abs_calls; (repeat (first | exact H | apply St.alloc | apply St.drewN | apply St.drew | exact Upd.here | apply Upd.there | exact Del.here | apply Del.there | exact In.here | apply In.there | apply St.set)); clear H; intro w H; try simp only [World.size_alloc] at H); (with_reducible refine (Get_bad _ len c t m (by omega) (by omega) (by omega) (by omega) (by omega) (by omega) _).mono ?_); rintro e w1 ⟨rfl, hs⟩; replace H := H.call0 hs; clear hs)
    | (go_at_call 29; (apply abs_calls; (repeat (first | exact H | apply St.alloc | apply St.drewN | apply St.drew | exact Upd.here | apply Upd.there | exact Del.here | apply Del.there | exact In.here | apply In.there | apply St.set)); clear H; intro w H; try simp only [World.size_alloc] at H); (with_reducible refine (number01_st _ m (c - t) ((xs.drop t).take m) h2 _ ((R.st H).piece t m (c - t) ht (by omega) (by omega)) ((hB.drop t).take m)).mono ?_); rintro e w1 ⟨rfl, hs⟩; replace H := H.call0 hs; clear hs))
  go_ret
  first
    | exact ⟨rfl, st_drop H⟩
    | exact ⟨by have hw := piece_w64 hB t m h2; simp [hw], st_drop H⟩
set_option maxRecDepth 100000 in
set_option maxHeartbeats 4000000 in
theorem coded_ok_neg (n : Int) (m : Nat) (at_ : Int) (a : Option Addr) (len c : Nat) (xs : List Int) (hlen : len ≤ 2000) (h1 : 1 ≤ m) (h2 : m ≤ 4) (hnn : 0 ≤ n) (hp : n < 2 ^ (8 * m)) (ht : at_ < 0) (w0 : World) (R : Rd w0 a len c (bs xs) 1) (hB : Byt xs) :
    Calls Try.prog 8 #[.int .i64 n, .int .i64 (m : Int), .int .i64 at_, .slice a len c] w0 fun e w' => e = .returned (.bool true) ∧ St w0 [] w' := by
  have H := St.start w0
  have hq : n < wrap64 (2 ^ (8 * (m : Int)).toNat) := (by rw [pow_wrap h2]; exact hp)
  have hn32 : n < 4294967296 := Int.lt_of_lt_of_le hp (pow_le h2)
  have HP := Lib.hid hp
  clear hp
  skip
  go_enter Try.func8, Try.ntmps8
  go_wp2_with (first
    | (go_at_call 25; (apply abs_calls; (repeat (first | exact H | apply St.alloc | apply St.drewN | apply St.drew | exact Upd.here | apply Upd.there | exact Del.here | apply Del.there | exact In.here | apply In.there | apply St.set)); clear H; intro w H; try simp only [World.size_alloc] at H); (with_reducible refine (Put_okN n m h1 h2 hnn HP.out _).mono ?_); rintro e w1 ⟨a', c', rfl, hs⟩; replace H := H.call hs; clear hs)
    | (go_at_call 27; (apply abs_calls; (repeat (first | exact H | apply St.alloc | apply St.drewN | apply St.drew | exact Upd.here | apply Upd.there | exact Del.here | apply Del.there | exact In.here | apply In.there | apply St.set)); clear H; intro w H; try simp only [World.size_alloc] at H); (with_reducible refine (bytes01_mod n m hnn hn32 h2 _).mono ?_); rintro e w1 ⟨a', c', rfl, hs⟩; replace H := H.call hs; clear hs)
    | (go_at_call 26; (apply abs_calls; (repeat (first | exact H | apply St.alloc | apply St.drewN | apply St.drew | exact Upd.here | apply Upd.there | exact Del.here | apply Del.there | exact In.here | apply In.there | apply St.set)); clear H; intro w H; try simp only [World.size_alloc] at H); (with_reducible refine (same01_eq _ _ _ _ _ _ _ _ (H.rd (.there .here) (bs_one _)) (H.rd .here (bs_one _)) (leB_nonneg _ _)).mono ?_); rintro e w1 ⟨rfl, hs⟩; replace H := H.call0 hs; clear hs)
    | (go_at_call 28; (apply abs_calls; (repeat (first | exact H | apply St.alloc | apply St.drewN | apply St.drew | exact Upd.here | apply Upd.there | exact Del.here | apply Del.there | exact In.here | apply In.there | apply St.set)); clear H; intro w H; try simp only [World.size_alloc] at H); (with_reducible refine (Get_arg _ len c at_ m (by omega) (.inr (.inr (.inl ht))) _).mono ?_); rintro e w1 ⟨rfl, hs⟩; replace H := H.call0 hs; clear hs)
    | (go_at_call 29; (apply abs_calls; (repeat (first | exact H | apply St.alloc | apply St.drewN | apply St.drew | exact Upd.here | apply Upd.there | exact Del.here | apply Del.there | exact In.here | apply In.there | apply St.set)); clear H; intro w H; try simp only [World.size_alloc] at H); (with_reducible refine (number01_st _ m (c - t) ((xs.drop t).take m) h2 _ ((R.st H).piece t m (c - t) ht (by omega) (by omega)) ((hB.drop t).take m)).mono ?_); rintro e w1 ⟨rfl, hs⟩; replace H := H.call0 hs; clear hs))
  go_ret
  first
    | exact ⟨rfl, st_drop H⟩
    | exact ⟨by have hw := piece_w64 hB t m h2; simp [hw], st_drop H⟩
set_option maxRecDepth 100000 in
set_option maxHeartbeats 4000000 in
theorem coded_ok_over (n : Int) (m : Nat) (at_ : Int) (a : Option Addr) (len c : Nat) (xs : List Int) (hlen : len ≤ 2000) (h1 : 1 ≤ m) (h2 : m ≤ 4) (hnn : 0 ≤ n) (hp : n < 2 ^ (8 * m)) (ht : 0 ≤ at_) (ht2 : (len : Int) < at_) (w0 : World) (R : Rd w0 a len c (bs xs) 1) (hB : Byt xs) :
    Calls Try.prog 8 #[.int .i64 n, .int .i64 (m : Int), .int .i64 at_, .slice a len c] w0 fun e w' => e = .returned (.bool true) ∧ St w0 [] w' := by
  have H := St.start w0
  have hq : n < wrap64 (2 ^ (8 * (m : Int)).toNat) := (by rw [pow_wrap h2]; exact hp)
  have hn32 : n < 4294967296 := Int.lt_of_lt_of_le hp (pow_le h2)
  have HP := Lib.hid hp
  clear hp
  skip
  go_enter Try.func8, Try.ntmps8
  go_wp2_with (first
    | (go_at_call 25; (apply abs_calls; (repeat (first | exact H | apply St.alloc | apply St.drewN | apply St.drew | exact Upd.here | apply Upd.there | exact Del.here | apply Del.there | exact In.here | apply In.there | apply St.set)); clear H; intro w H; try simp only [World.size_alloc] at H); (with_reducible refine (Put_okN n m h1 h2 hnn HP.out _).mono ?_); rintro e w1 ⟨a', c', rfl, hs⟩; replace H := H.call hs; clear hs)
    | (go_at_call 27; (apply abs_calls; (repeat (first | exact H | apply St.alloc | apply St.drewN | apply St.drew | exact Upd.here | apply Upd.there | exact Del.here | apply Del.there | exact In.here | apply In.there | apply St.set)); clear H; intro w H; try simp only [World.size_alloc] at H); (with_reducible refine (bytes01_mod n m hnn hn32 h2 _).mono ?_); rintro e w1 ⟨a', c', rfl, hs⟩; replace H := H.call hs; clear hs)
    | (go_at_call 26; (apply abs_calls; (repeat (first | exact H | apply St.alloc | apply St.drewN | apply St.drew | exact Upd.here | apply Upd.there | exact Del.here | apply Del.there | exact In.here | apply In.there | apply St.set)); clear H; intro w H; try simp only [World.size_alloc] at H); (with_reducible refine (same01_eq _ _ _ _ _ _ _ _ (H.rd (.there .here) (bs_one _)) (H.rd .here (bs_one _)) (leB_nonneg _ _)).mono ?_); rintro e w1 ⟨rfl, hs⟩; replace H := H.call0 hs; clear hs)
    | (go_at_call 28; (apply abs_calls; (repeat (first | exact H | apply St.alloc | apply St.drewN | apply St.drew | exact Upd.here | apply Upd.there | exact Del.here | apply Del.there | exact In.here | apply In.there | apply St.set)); clear H; intro w H; try simp only [World.size_alloc] at H); (with_reducible refine (Get_arg _ len c at_ m (by omega) (.inr (.inr (.inr ht2))) _).mono ?_); rintro e w1 ⟨rfl, hs⟩; replace H := H.call0 hs; clear hs)
    | (go_at_call 29; (apply abs_calls; (repeat (first | exact H | apply St.alloc | apply St.drewN | apply St.drew | exact Upd.here | apply Upd.there | exact Del.here | apply Del.there | exact In.here | apply In.there | apply St.set)); clear H; intro w H; try simp only [World.size_alloc] at H); (with_reducible refine (number01_st _ m (c - t) ((xs.drop t).take m) h2 _ ((R.st H).piece t m (c - t) ht (by omega) (by omega)) ((hB.drop t).take m)).mono ?_); rintro e w1 ⟨rfl, hs⟩; replace H := H.call0 hs; clear hs))
  go_ret
  first
    | exact ⟨rfl, st_drop H⟩
    | exact ⟨by have hw := piece_w64 hB t m h2; simp [hw], st_drop H⟩
set_option maxRecDepth 100000 in
set_option maxHeartbeats 4000000 in
theorem coded_big_ok (n : Int) (m : Nat) (t : Nat) (a : Option Addr) (len c : Nat) (xs : List Int) (hlen : len ≤ 2000) (h1 : 1 ≤ m) (h2 : m ≤ 4) (hnn : 0 ≤ n) (hp : (2 : Int) ^ (8 * m) ≤ n) (ht : t + m ≤ len) (w0 : World) (R : Rd w0 a len c (bs xs) 1) (hB : Byt xs) :
    Calls Try.prog 8 #[.int .i64 n, .int .i64 (m : Int), .int .i64 (t : Int), .slice a len c] w0 fun e w' => e = .returned (.bool true) ∧ St w0 [] w' := by
  have H := St.start w0
  have hq : wrap64 (2 ^ (8 * (m : Int)).toNat) ≤ n := (by rw [pow_wrap h2]; exact hp)
  have HP := Lib.hid hp
  clear hp
  obtain ⟨b, off, rfl, _⟩ := R.at (by have := R.len; omega)
  have hcl := R.le
  have hcm := R.max
  go_enter Try.func8, Try.ntmps8
  go_wp2_with (first
    | (go_at_call 25; (apply abs_calls; (repeat (first | exact H | apply St.alloc | apply St.drewN | apply St.drew | exact Upd.here | apply Upd.there | exact Del.here | apply Del.there | exact In.here | apply In.there | apply St.set)); clear H; intro w H; try simp only [World.size_alloc] at H); (with_reducible refine (Put_big n m h1 h2 HP.out _).mono ?_); rintro e w1 ⟨rfl, hs⟩; replace H := H.call0 hs; clear hs)
    | (go_at_call 27; (apply abs_calls; (repeat (first | exact H | apply St.alloc | apply St.drewN | apply St.drew | exact Upd.here | apply Upd.there | exact Del.here | apply Del.there | exact In.here | apply In.there | apply St.set)); clear H; intro w H; try simp only [World.size_alloc] at H); (with_reducible refine (bytes01_mod n m hnn hn32 h2 _).mono ?_); rintro e w1 ⟨a', c', rfl, hs⟩; replace H := H.call hs; clear hs)
    | (go_at_call 26; (apply abs_calls; (repeat (first | exact H | apply St.alloc | apply St.drewN | apply St.drew | exact Upd.here | apply Upd.there | exact Del.here | apply Del.there | exact In.here | apply In.there | apply St.set)); clear H; intro w H; try simp only [World.size_alloc] at H); (with_reducible refine (same01_eq _ _ _ _ _ _ _ _ (H.rd (.there .here) (bs_one _)) (H.rd .here (bs_one _)) (leB_nonneg _ _)).mono ?_); rintro e w1 ⟨rfl, hs⟩; replace H := H.call0 hs; clear hs)
    | (go_at_call 28; (apply abs_calls; (repeat (first | exact H | apply St.alloc | apply St.drewN | apply St.drew | exact Upd.here | apply Upd.there | exact Del.here | apply Del.there | exact In.here | apply In.there | apply St.set)); clear H; intro w H; try simp only [World.size_alloc] at H); (with_reducible refine (Get_okN _ len c xs t m (by omega) h1 h2 ht _ (R.st H) hB).mono ?_); rintro e w1 ⟨rfl, hs⟩; replace H := H.call0 hs; clear hs)
    | (go_at_call 29; (apply abs_calls; (repeat (first | exact H | apply St.alloc | apply St.drewN | apply St.drew | exact Upd.here | apply Upd.there | exact Del.here | apply Del.there | exact In.here | apply In.there | apply St.set)); clear H; intro w H; try simp only [World.size_alloc] at H); (with_reducible refine (number01_st _ m (c - t) ((xs.drop t).take m) h2 _ ((R.st H).piece t m (c - t) ht (by omega) (by omega)) ((hB.drop t).take m)).mono ?_); rintro e w1 ⟨rfl, hs⟩; replace H := H.call0 hs; clear hs))
  go_ret
  first
    | exact ⟨rfl, st_drop H⟩
    | exact ⟨by have hw := piece_w64 hB t m h2; simp [hw], st_drop H⟩
set_option maxRecDepth 100000 in
set_option maxHeartbeats 4000000 in
theorem coded_big_bad (n : Int) (m : Nat) (t : Nat) (a : Option Addr) (len c : Nat) (xs : List Int) (hlen : len ≤ 2000) (h1 : 1 ≤ m) (h2 : m ≤ 4) (hnn : 0 ≤ n) (hp : (2 : Int) ^ (8 * m) ≤ n) (ht : t ≤ len) (ht2 : len < t + m) (w0 : World) (R : Rd w0 a len c (bs xs) 1) (hB : Byt xs) :
    Calls Try.prog 8 #[.int .i64 n, .int .i64 (m : Int), .int .i64 (t : Int), .slice a len c] w0 fun e w' => e = .returned (.bool true) ∧ St w0 [] w' := by
  have H := St.start w0
  have hq : wrap64 (2 ^ (8 * (m : Int)).toNat) ≤ n := (by rw [pow_wrap h2]; exact hp)
  have HP := Lib.hid hp
  clear hp
  skip
  go_enter Try.func8, Try.ntmps8
  go_wp2_with (first
    | (go_at_call 25; (apply abs_calls; (repeat (first | exact H | apply St.alloc | apply St.drewN | apply St.drew | exact Upd.here | apply Upd.there | exact Del.here | apply Del.there | exact In.here | apply In.there | apply St.set)); clear H; intro w H; try simp only [World.size_alloc] at H); (with_reducible refine (Put_big n m h1 h2 HP.out _).mono ?_); rintro e w1 ⟨rfl, hs⟩; replace H := H.call0 hs; clear hs)
    | (go_at_call 27; (apply abs_calls; (repeat (first | exact H | apply St.alloc | apply St.drewN | apply St.drew | exact Upd.here | apply Upd.there | exact Del.here | apply Del.there | exact In.here | apply In.there | apply St.set)); clear H; intro w H; try simp only [World.size_alloc] at H); (with_reducible refine (bytes01_mod n m hnn hn32 h2 _).mono ?_); rintro e w1 ⟨a', c', rfl, hs⟩; replace H := H.call hs; clear hs)
    | (go_at_call 26; (apply abs_calls; (repeat (first | exact H | apply St.alloc | apply St.drewN | apply St.drew | exact Upd.here | apply Upd.there | exact Del.here | apply Del.there | exact In.here | apply In.there | apply St.set)); clear H; intro w H; try simp only [World.size_alloc] at H); (with_reducible refine (same01_eq _ _ _ _ _ _ _ _ (H.rd (.there .here) (bs_one _)) (H.rd .here (bs_one _)) (leB_nonneg _ _)).mono ?_); rintro e w1 ⟨rfl, hs⟩; replace H := H.call0 hs; clear hs)
    | (go_at_call 28; (apply abs_calls; (repeat (first | exact H | apply St.alloc | apply St.drewN | apply St.drew | exact Upd.here | apply Upd.there | exact Del.here | apply Del.there | exact In.here | apply In.there | apply St.set)); clear H; intro w H; try simp only [World.size_alloc] at H); (with_reducible refine (Get_bad _ len c t m (by omega) (by omega) (by omega) (by omega) (by omega) (by omega) _).mono ?_); rintro e w1 ⟨rfl, hs⟩; replace H := H.call0 hs; clear hs)
    | (go_at_call 29; (apply abs_calls; (repeat (first | exact H | apply St.alloc | apply St.drewN | apply St.drew | exact Upd.here | apply Upd.there | exact Del.here | apply Del.there | exact In.here | apply In.there | apply St.set)); clear H; intro w H; try simp only [World.size_alloc] at H); (with_reducible refine (number01_st _ m (c - t) ((xs.drop t).take m) h2 _ ((R.st H).piece t m (c - t) ht (by omega) (by omega)) ((hB.drop t).take m)).mono ?_); rintro e w1 ⟨rfl, hs⟩; replace H := H.call0 hs; clear hs))
  go_ret
  first
    | exact ⟨rfl, st_drop H⟩
    | exact ⟨by have hw := piece_w64 hB t m h2; simp [hw], st_drop H⟩
set_option maxRecDepth 100000 in
set_option maxHeartbeats 4000000 in
theorem coded_big_neg (n : Int) (m : Nat) (at_ : Int) (a : Option Addr) (len c : Nat) (xs : List Int) (hlen : len ≤ 2000) (h1 : 1 ≤ m) (h2 : m ≤ 4) (hnn : 0 ≤ n) (hp : (2 : Int) ^ (8 * m) ≤ n) (ht : at_ < 0) (w0 : World) (R : Rd w0 a len c (bs xs) 1) (hB : Byt xs) :
    Calls Try.prog 8 #[.int .i64 n, .int .i64 (m : Int), .int .i64 at_, .slice a len c] w0 fun e w' => e = .returned (.bool true) ∧ St w0 [] w' := by
  have H := St.start w0
  have hq : wrap64 (2 ^ (8 * (m : Int)).toNat) ≤ n := (by rw [pow_wrap h2]; exact hp)
  have HP := Lib.hid hp
  clear hp
  skip
  go_enter Try.func8, Try.ntmps8
  go_wp2_with (first
    | (go_at_call 25; (apply abs_calls; (repeat (first | exact H | apply St.alloc | apply St.drewN | apply St.drew | exact Upd.here | apply Upd.there | exact Del.here | apply Del.there | exact In.here | apply In.there | apply St.set)); clear H; intro w H; try simp only [World.size_alloc] at H); (with_reducible refine (Put_big n m h1 h2 HP.out _).mono ?_); rintro e w1 ⟨rfl, hs⟩; replace H := H.call0 hs; clear hs)
    | (go_at_call 27; (apply abs_calls; (repeat (first | exact H | apply St.alloc | apply St.drewN | apply St.drew | exact Upd.here | apply Upd.there | exact Del.here | apply Del.there | exact In.here | apply In.there | apply St.set)); clear H; intro w H; try simp only [World.size_alloc] at H); (with_reducible refine (bytes01_mod n m hnn hn32 h2 _).mono ?_); rintro e w1 ⟨a', c', rfl, hs⟩; replace H := H.call hs; clear hs)
    | (go_at_call 26; (apply abs_calls; (repeat (first | exact H | apply St.alloc | apply St.drewN | apply St.drew | exact Upd.here | apply Upd.there | exact Del.here | apply Del.there | exact In.here | apply In.there | apply St.set)); clear H; intro w H; try simp only [World.size_alloc] at H); (with_reducible refine (same01_eq _ _ _ _ _ _ _ _ (H.rd (.there .here) (bs_one _)) (H.rd .here (bs_one _)) (leB_nonneg _ _)).mono ?_); rintro e w1 ⟨rfl, hs⟩; replace H := H.call0 hs; clear hs)
    | (go_at_call 28; (apply abs_calls; (repeat (first | exact H | apply St.alloc | apply St.drewN | apply St.drew | exact Upd.here | apply Upd.there | exact Del.here | apply Del.there | exact In.here | apply In.there | apply St.set)); clear H; intro w H; try simp only [World.size_alloc] at H); (with_reducible refine (Get_arg _ len c at_ m (by omega) (.inr (.inr (.inl ht))) _).mono ?_); rintro e w1 ⟨rfl, hs⟩; replace H := H.call0 hs; clear hs)
    | (go_at_call 29; (apply abs_calls; (repeat (first | exact H | apply St.alloc | apply St.drewN | apply St.drew | exact Upd.here | apply Upd.there | exact Del.here | apply Del.there | exact In.here | apply In.there | apply St.set)); clear H; intro w H; try simp only [World.size_alloc] at H); (with_reducible refine (number01_st _ m (c - t) ((xs.drop t).take m) h2 _ ((R.st H).piece t m (c - t) ht (by omega) (by omega)) ((hB.drop t).take m)).mono ?_); rintro e w1 ⟨rfl, hs⟩; replace H := H.call0 hs; clear hs))
  go_ret
  first
    | exact ⟨rfl, st_drop H⟩
    | exact ⟨by have hw := piece_w64 hB t m h2; simp [hw], st_drop H⟩
set_option maxRecDepth 100000 in
set_option maxHeartbeats 4000000 in
theorem coded_big_over (n : Int) (m : Nat) (at_ : Int) (a : Option Addr) (len c : Nat) (xs : List Int) (hlen : len ≤ 2000) (h1 : 1 ≤ m) (h2 : m ≤ 4) (hnn : 0 ≤ n) (hp : (2 : Int) ^ (8 * m) ≤ n) (ht : 0 ≤ at_) (ht2 : (len : Int) < at_) (w0 : World) (R : Rd w0 a len c (bs xs) 1) (hB : Byt xs) :
    Calls Try.prog 8 #[.int .i64 n, .int .i64 (m : Int), .int .i64 at_, .slice a len c] w0 fun e w' => e = .returned (.bool true) ∧ St w0 [] w' := by
  have H := St.start w0
  have hq : wrap64 (2 ^ (8 * (m : Int)).toNat) ≤ n := (by rw [pow_wrap h2]; exact hp)
  have HP := Lib.hid hp
  clear hp
  skip
  go_enter Try.func8, Try.ntmps8
  go_wp2_with (first
    | (go_at_call 25; (apply abs_calls; (repeat (first | exact H | apply St.alloc | apply St.drewN | apply St.drew | exact Upd.here | apply Upd.there | exact Del.here | apply Del.there | exact In.here | apply In.there | apply St.set)); clear H; intro w H; try simp only [World.size_alloc] at H); (with_reducible refine (Put_big n m h1 h2 HP.out _).mono ?_); rintro e w1 ⟨rfl, hs⟩; replace H := H.call0 hs; clear hs)
    | (go_at_call 27; (apply abs_calls; (repeat (first | exact H | apply St.alloc | apply St.drewN | apply St.drew | exact Upd.here | apply Upd.there | exact Del.here | apply Del.there | exact In.here | apply In.there | apply St.set)); clear H; intro w H; try simp only [World.size_alloc] at H); (with_reducible refine (bytes01_mod n m hnn hn32 h2 _).mono ?_); rintro e w1 ⟨a', c', rfl, hs⟩; replace H := H.call hs; clear hs)
    | (go_at_call 26; (apply abs_calls; (repeat (first | exact H | apply St.alloc | apply St.drewN | apply St.drew | exact Upd.here | apply Upd.there | exact Del.here | apply Del.there | exact In.here | apply In.there | apply St.set)); clear H; intro w H; try simp only [World.size_alloc] at H); (with_reducible refine (same01_eq _ _ _ _ _ _ _ _ (H.rd (.there .here) (bs_one _)) (H.rd .here (bs_one _)) (leB_nonneg _ _)).mono ?_); rintro e w1 ⟨rfl, hs⟩; replace H := H.call0 hs; clear hs)
    | (go_at_call 28; (apply abs_calls; (repeat (first | exact H | apply St.alloc | apply St.drewN | apply St.drew | exact Upd.here | apply Upd.there | exact Del.here | apply Del.there | exact In.here | apply In.there | apply St.set)); clear H; intro w H; try simp only [World.size_alloc] at H); (with_reducible refine (Get_arg _ len c at_ m (by omega) (.inr (.inr (.inr ht2))) _).mono ?_); rintro e w1 ⟨rfl, hs⟩; replace H := H.call0 hs; clear hs)
    | (go_at_call 29; (apply abs_calls; (repeat (first | exact H | apply St.alloc | apply St.drewN | apply St.drew | exact Upd.here | apply Upd.there | exact Del.here | apply Del.there | exact In.here | apply In.there | apply St.set)); clear H; intro w H; try simp only [World.size_alloc] at H); (with_reducible refine (number01_st _ m (c - t) ((xs.drop t).take m) h2 _ ((R.st H).piece t m (c - t) ht (by omega) (by omega)) ((hB.drop t).take m)).mono ?_); rintro e w1 ⟨rfl, hs⟩; replace H := H.call0 hs; clear hs))
  go_ret
  first
    | exact ⟨rfl, st_drop H⟩
    | exact ⟨by have hw := piece_w64 hB t m h2; simp [hw], st_drop H⟩
set_option maxRecDepth 100000 in
set_option maxHeartbeats 4000000 in
theorem coded_neg_ok (n : Int) (m : Nat) (t : Nat) (a : Option Addr) (len c : Nat) (xs : List Int) (hlen : len ≤ 2000) (h1 : 1 ≤ m) (h2 : m ≤ 4) (hnn : n < 0) (ht : t + m ≤ len) (w0 : World) (R : Rd w0 a len c (bs xs) 1) (hB : Byt xs) :
    Calls Try.prog 8 #[.int .i64 n, .int .i64 (m : Int), .int .i64 (t : Int), .slice a len c] w0 fun e w' => e = .returned (.bool true) ∧ St w0 [] w' := by
  have H := St.start w0
  skip
  obtain ⟨b, off, rfl, _⟩ := R.at (by have := R.len; omega)
  have hcl := R.le
  have hcm := R.max
  go_enter Try.func8, Try.ntmps8
  go_wp2_with (first
    | (go_at_call 25; (apply abs_calls; (repeat (first | exact H | apply St.alloc | apply St.drewN | apply St.drew | exact Upd.here | apply Upd.there | exact Del.here | apply Del.there | exact In.here | apply In.there | apply St.set)); clear H; intro w H; try simp only [World.size_alloc] at H); (with_reducible refine (Put_out n m (.inr (.inr hnn)) _).mono ?_); rintro e w1 ⟨rfl, hs⟩; replace H := H.call0 hs; clear hs)
    | (go_at_call 27; (apply abs_calls; (repeat (first | exact H | apply St.alloc | apply St.drewN | apply St.drew | exact Upd.here | apply Upd.there | exact Del.here | apply Del.there | exact In.here | apply In.there | apply St.set)); clear H; intro w H; try simp only [World.size_alloc] at H); (with_reducible refine (bytes01_mod n m hnn hn32 h2 _).mono ?_); rintro e w1 ⟨a', c', rfl, hs⟩; replace H := H.call hs; clear hs)
    | (go_at_call 26; (apply abs_calls; (repeat (first | exact H | apply St.alloc | apply St.drewN | apply St.drew | exact Upd.here | apply Upd.there | exact Del.here | apply Del.there | exact In.here | apply In.there | apply St.set)); clear H; intro w H; try simp only [World.size_alloc] at H); (with_reducible refine (same01_eq _ _ _ _ _ _ _ _ (H.rd (.there .here) (bs_one _)) (H.rd .here (bs_one _)) (leB_nonneg _ _)).mono ?_); rintro e w1 ⟨rfl, hs⟩; replace H := H.call0 hs; clear hs)
    | (go_at_call 28; (apply abs_calls; (repeat (first | exact H | apply St.alloc | apply St.drewN | apply St.drew | exact Upd.here | apply Upd.there | exact Del.here | apply Del.there | exact In.here | apply In.there | apply St.set)); clear H; intro w H; try simp only [World.size_alloc] at H); (with_reducible refine (Get_okN _ len c xs t m (by omega) h1 h2 ht _ (R.st H) hB).mono ?_); rintro e w1 ⟨rfl, hs⟩; replace H := H.call0 hs; clear hs)
    | (go_at_call 29; (apply abs_calls; (repeat (first | exact H | apply St.alloc | apply St.drewN | apply St.drew | exact Upd.here | apply Upd.there | exact Del.here | apply Del.there | exact In.here | apply In.there | apply St.set)); clear H; intro w H; try simp only [World.size_alloc] at H); (with_reducible refine (number01_st _ m (c - t) ((xs.drop t).take m) h2 _ ((R.st H).piece t m (c - t) ht (by omega) (by omega)) ((hB.drop t).take m)).mono ?_); rintro e w1 ⟨rfl, hs⟩; replace H := H.call0 hs; clear hs))
  go_ret
  first
    | exact ⟨rfl, st_drop H⟩
    | exact ⟨by have hw := piece_w64 hB t m h2; simp [hw], st_drop H⟩
set_option maxRecDepth 100000 in
set_option maxHeartbeats 4000000 in
theorem coded_neg_bad (n : Int) (m : Nat) (t : Nat) (a : Option Addr) (len c : Nat) (xs : List Int) (hlen : len ≤ 2000) (h1 : 1 ≤ m) (h2 : m ≤ 4) (hnn : n < 0) (ht : t ≤ len) (ht2 : len < t + m) (w0 : World) (R : Rd w0 a len c (bs xs) 1) (hB : Byt xs) :
    Calls Try.prog 8 #[.int .i64 n, .int .i64 (m : Int), .int .i64 (t : Int), .slice a len c] w0 fun e w' => e = .returned (.bool true) ∧ St w0 [] w' := by
  have H := St.start w0
  skip
  skip
  go_enter Try.func8, Try.ntmps8
  go_wp2_with (first
    | (go_at_call 25; (apply abs_calls; (repeat (first | exact H | apply St.alloc | apply St.drewN | apply St.drew | exact Upd.here | apply Upd.there | exact Del.here | apply Del.there | exact In.here | apply In.there | apply St.set)); clear H; intro w H; try simp only [World.size_alloc] at H); (with_reducible refine (Put_out n m (.inr (.inr hnn)) _).mono ?_); rintro e w1 ⟨rfl, hs⟩; replace H := H.call0 hs; clear hs)
    | (go_at_call 27; (apply abs_calls; (repeat (first | exact H | apply St.alloc | apply St.drewN | apply St.drew | exact Upd.here | apply Upd.there | exact Del.here | apply Del.there | exact In.here | apply In.there | apply St.set)); clear H; intro w H; try simp only [World.size_alloc] at H); (with_reducible refine (bytes01_mod n m hnn hn32 h2 _).mono ?_); rintro e w1 ⟨a', c', rfl, hs⟩; replace H := H.call hs; clear hs)
    | (go_at_call 26; (apply abs_calls; (repeat (first | exact H | apply St.alloc | apply St.drewN | apply St.drew | exact Upd.here | apply Upd.there | exact Del.here | apply Del.there | exact In.here | apply In.there | apply St.set)); clear H; intro w H; try simp only [World.size_alloc] at H); (with_reducible refine (same01_eq _ _ _ _ _ _ _ _ (H.rd (.there .here) (bs_one _)) (H.rd .here (bs_one _)) (leB_nonneg _ _)).mono ?_); rintro e w1 ⟨rfl, hs⟩; replace H := H.call0 hs; clear hs)
    | (go_at_call 28; (apply abs_calls; (repeat (first | exact H | apply St.alloc | apply St.drewN | apply St.drew | exact Upd.here | apply Upd.there | exact Del.here | apply Del.there | exact In.here | apply In.there | apply St.set)); clear H; intro w H; try simp only [World.size_alloc] at H); (with_reducible refine (Get_bad _ len c t m (by omega) (by omega) (by omega) (by omega) (by omega) (by omega) _).mono ?_); rintro e w1 ⟨rfl, hs⟩; replace H := H.call0 hs; clear hs)
    | (go_at_call 29; (apply abs_calls; (repeat (first | exact H | apply St.alloc | apply St.drewN | apply St.drew | exact Upd.here | apply Upd.there | exact Del.here | apply Del.there | exact In.here | apply In.there | apply St.set)); clear H; intro w H; try simp only [World.size_alloc] at H); (with_reducible refine (number01_st _ m (c - t) ((xs.drop t).take m) h2 _ ((R.st H).piece t m (c - t) ht (by omega) (by omega)) ((hB.drop t).take m)).mono ?_); rintro e w1 ⟨rfl, hs⟩; replace H := H.call0 hs; clear hs))
  go_ret
  first
    | exact ⟨rfl, st_drop H⟩
    | exact ⟨by have hw := piece_w64 hB t m h2; simp [hw], st_drop H⟩
set_option maxRecDepth 100000 in
set_option maxHeartbeats 4000000 in
theorem coded_neg_neg (n : Int) (m : Nat) (at_ : Int) (a : Option Addr) (len c : Nat) (xs : List Int) (hlen : len ≤ 2000) (h1 : 1 ≤ m) (h2 : m ≤ 4) (hnn : n < 0) (ht : at_ < 0) (w0 : World) (R : Rd w0 a len c (bs xs) 1) (hB : Byt xs) :
    Calls Try.prog 8 #[.int .i64 n, .int .i64 (m : Int), .int .i64 at_, .slice a len c] w0 fun e w' => e = .returned (.bool true) ∧ St w0 [] w' := by
  have H := St.start w0
  skip
  skip
  go_enter Try.func8, Try.ntmps8
  go_wp2_with (first
    | (go_at_call 25; (apply abs_calls; (repeat (first | exact H | apply St.alloc | apply St.drewN | apply St.drew | exact Upd.here | apply Upd.there | exact Del.here | apply Del.there | exact In.here | apply In.there | apply St.set)); clear H; intro w H; try simp only [World.size_alloc] at H); (with_reducible refine (Put_out n m (.inr (.inr hnn)) _).mono ?_); rintro e w1 ⟨rfl, hs⟩; replace H := H.call0 hs; clear hs)
    | (go_at_call 27; (apply abs_calls; (repeat (first | exact H | apply St.alloc | apply St.drewN | apply St.drew | exact Upd.here | apply Upd.there | exact Del.here | apply Del.there | exact In.here | apply In.there | apply St.set)); clear H; intro w H; try simp only [World.size_alloc] at H); (with_reducible refine (bytes01_mod n m hnn hn32 h2 _).mono ?_); rintro e w1 ⟨a', c', rfl, hs⟩; replace H := H.call hs; clear hs)
    | (go_at_call 26; (apply abs_calls; (repeat (first | exact H | apply St.alloc | apply St.drewN | apply St.drew | exact Upd.here | apply Upd.there | exact Del.here | apply Del.there | exact In.here | apply In.there | apply St.set)); clear H; intro w H; try simp only [World.size_alloc] at H); (with_reducible refine (same01_eq _ _ _ _ _ _ _ _ (H.rd (.there .here) (bs_one _)) (H.rd .here (bs_one _)) (leB_nonneg _ _)).mono ?_); rintro e w1 ⟨rfl, hs⟩; replace H := H.call0 hs; clear hs)
    | (go_at_call 28; (apply abs_calls; (repeat (first | exact H | apply St.alloc | apply St.drewN | apply St.drew | exact Upd.here | apply Upd.there | exact Del.here | apply Del.there | exact In.here | apply In.there | apply St.set)); clear H; intro w H; try simp only [World.size_alloc] at H); (with_reducible refine (Get_arg _ len c at_ m (by omega) (.inr (.inr (.inl ht))) _).mono ?_); rintro e w1 ⟨rfl, hs⟩; replace H := H.call0 hs; clear hs)
    | (go_at_call 29; (apply abs_calls; (repeat (first | exact H | apply St.alloc | apply St.drewN | apply St.drew | exact Upd.here | apply Upd.there | exact Del.here | apply Del.there | exact In.here | apply In.there | apply St.set)); clear H; intro w H; try simp only [World.size_alloc] at H); (with_reducible refine (number01_st _ m (c - t) ((xs.drop t).take m) h2 _ ((R.st H).piece t m (c - t) ht (by omega) (by omega)) ((hB.drop t).take m)).mono ?_); rintro e w1 ⟨rfl, hs⟩; replace H := H.call0 hs; clear hs))
  go_ret
  first
    | exact ⟨rfl, st_drop H⟩
    | exact ⟨by have hw := piece_w64 hB t m h2; simp [hw], st_drop H⟩
set_option maxRecDepth 100000 in
set_option maxHeartbeats 4000000 in
theorem coded_neg_over (n : Int) (m : Nat) (at_ : Int) (a : Option Addr) (len c : Nat) (xs : List Int) (hlen : len ≤ 2000) (h1 : 1 ≤ m) (h2 : m ≤ 4) (hnn : n < 0) (ht : 0 ≤ at_) (ht2 : (len : Int) < at_) (w0 : World) (R : Rd w0 a len c (bs xs) 1) (hB : Byt xs) :
    Calls Try.prog 8 #[.int .i64 n, .int .i64 (m : Int), .int .i64 at_, .slice a len c] w0 fun e w' => e = .returned (.bool true) ∧ St w0 [] w' := by
  have H := St.start w0
  skip
  skip
  go_enter Try.func8, Try.ntmps8
  go_wp2_with (first
    | (go_at_call 25; (apply abs_calls; (repeat (first | exact H | apply St.alloc | apply St.drewN | apply St.drew | exact Upd.here | apply Upd.there | exact Del.here | apply Del.there | exact In.here | apply In.there | apply St.set)); clear H; intro w H; try simp only [World.size_alloc] at H); (with_reducible refine (Put_out n m (.inr (.inr hnn)) _).mono ?_); rintro e w1 ⟨rfl, hs⟩; replace H := H.call0 hs; clear hs)
    | (go_at_call 27; (apply abs_calls; (repeat (first | exact H | apply St.alloc | apply St.drewN | apply St.drew | exact Upd.here | apply Upd.there | exact Del.here | apply Del.there | exact In.here | apply In.there | apply St.set)); clear H; intro w H; try simp only [World.size_alloc] at H); (with_reducible refine (bytes01_mod n m hnn hn32 h2 _).mono ?_); rintro e w1 ⟨a', c', rfl, hs⟩; replace H := H.call hs; clear hs)
    | (go_at_call 26; (apply abs_calls; (repeat (first | exact H | apply St.alloc | apply St.drewN | apply St.drew | exact Upd.here | apply Upd.there | exact Del.here | apply Del.there | exact In.here | apply In.there | apply St.set)); clear H; intro w H; try simp only [World.size_alloc] at H); (with_reducible refine (same01_eq _ _ _ _ _ _ _ _ (H.rd (.there .here) (bs_one _)) (H.rd .here (bs_one _)) (leB_nonneg _ _)).mono ?_); rintro e w1 ⟨rfl, hs⟩; replace H := H.call0 hs; clear hs)
    | (go_at_call 28; (apply abs_calls; (repeat (first | exact H | apply St.alloc | apply St.drewN | apply St.drew | exact Upd.here | apply Upd.there | exact Del.here | apply Del.there | exact In.here | apply In.there | apply St.set)); clear H; intro w H; try simp only [World.size_alloc] at H); (with_reducible refine (Get_arg _ len c at_ m (by omega) (.inr (.inr (.inr ht2))) _).mono ?_); rintro e w1 ⟨rfl, hs⟩; replace H := H.call0 hs; clear hs)
    | (go_at_call 29; (apply abs_calls; (repeat (first | exact H | apply St.alloc | apply St.drewN | apply St.drew | exact Upd.here | apply Upd.there | exact Del.here | apply Del.there | exact In.here | apply In.there | apply St.set)); clear H; intro w H; try simp only [World.size_alloc] at H); (with_reducible refine (number01_st _ m (c - t) ((xs.drop t).take m) h2 _ ((R.st H).piece t m (c - t) ht (by omega) (by omega)) ((hB.drop t).take m)).mono ?_); rintro e w1 ⟨rfl, hs⟩; replace H := H.call0 hs; clear hs))
  go_ret
  first
    | exact ⟨rfl, st_drop H⟩
    | exact ⟨by have hw := piece_w64 hB t m h2; simp [hw], st_drop H⟩
set_option maxRecDepth 100000 in
set_option maxHeartbeats 4000000 in
theorem coded_low (n sz at_ : Int) (a : Option Addr) (len c : Nat) (xs : List Int) (hlen : len ≤ 2000) (hs : sz < 1) (w0 : World) (R : Rd w0 a len c (bs xs) 1) (hB : Byt xs) :
    Calls Try.prog 8 #[.int .i64 n, .int .i64 sz, .int .i64 at_, .slice a len c] w0 fun e w' => e = .returned (.bool true) ∧ St w0 [] w' := by
  have H := St.start w0
  skip
  go_enter Try.func8, Try.ntmps8
  go_wp2_with (first
    | (go_at_call 25; (apply abs_calls; (repeat (first | exact H | apply St.alloc | apply St.drewN | apply St.drew | exact Upd.here | apply Upd.there | exact Del.here | apply Del.there | exact In.here | apply In.there | apply St.set)); clear H; intro w H; try simp only [World.size_alloc] at H); (with_reducible refine (Put_out n sz (.inl hs) _).mono ?_); rintro e w1 ⟨rfl, hs⟩; replace H := H.call0 hs; clear hs)
    | (go_at_call 27; (apply abs_calls; (repeat (first | exact H | apply St.alloc | apply St.drewN | apply St.drew | exact Upd.here | apply Upd.there | exact Del.here | apply Del.there | exact In.here | apply In.there | apply St.set)); clear H; intro w H; try simp only [World.size_alloc] at H); (with_reducible refine (bytes01_mod n m hnn hn32 h2 _).mono ?_); rintro e w1 ⟨a', c', rfl, hs⟩; replace H := H.call hs; clear hs)
    | (go_at_call 26; (apply abs_calls; (repeat (first | exact H | apply St.alloc | apply St.drewN | apply St.drew | exact Upd.here | apply Upd.there | exact Del.here | apply Del.there | exact In.here | apply In.there | apply St.set)); clear H; intro w H; try simp only [World.size_alloc] at H); (with_reducible refine (same01_eq _ _ _ _ _ _ _ _ (H.rd (.there .here) (bs_one _)) (H.rd .here (bs_one _)) (leB_nonneg _ _)).mono ?_); rintro e w1 ⟨rfl, hs⟩; replace H := H.call0 hs; clear hs)
    | (go_at_call 28; (apply abs_calls; (repeat (first | exact H | apply St.alloc | apply St.drewN | apply St.drew | exact Upd.here | apply Upd.there | exact Del.here | apply Del.there | exact In.here | apply In.there | apply St.set)); clear H; intro w H; try simp only [World.size_alloc] at H); (with_reducible refine (Get_arg _ len c at_ sz (by omega) (.inl hs) _).mono ?_); rintro e w1 ⟨rfl, hs⟩; replace H := H.call0 hs; clear hs)
    | (go_at_call 29; (apply abs_calls; (repeat (first | exact H | apply St.alloc | apply St.drewN | apply St.drew | exact Upd.here | apply Upd.there | exact Del.here | apply Del.there | exact In.here | apply In.there | apply St.set)); clear H; intro w H; try simp only [World.size_alloc] at H); (with_reducible refine (number01_st _ m (c - t) ((xs.drop t).take m) h2 _ ((R.st H).piece t m (c - t) ht (by omega) (by omega)) ((hB.drop t).take m)).mono ?_); rintro e w1 ⟨rfl, hs⟩; replace H := H.call0 hs; clear hs))
  go_ret
  first
    | exact ⟨rfl, st_drop H⟩
    | exact ⟨by have hw := piece_w64 hB t m h2; simp [hw], st_drop H⟩
set_option maxRecDepth 100000 in
set_option maxHeartbeats 4000000 in
theorem coded_high (n sz at_ : Int) (a : Option Addr) (len c : Nat) (xs : List Int) (hlen : len ≤ 2000) (hs : 4 < sz) (w0 : World) (R : Rd w0 a len c (bs xs) 1) (hB : Byt xs) :
    Calls Try.prog 8 #[.int .i64 n, .int .i64 sz, .int .i64 at_, .slice a len c] w0 fun e w' => e = .returned (.bool true) ∧ St w0 [] w' := by
  have H := St.start w0
  skip
  go_enter Try.func8, Try.ntmps8
  go_wp2_with (first
    | (go_at_call 25; (apply abs_calls; (repeat (first | exact H | apply St.alloc | apply St.drewN | apply St.drew | exact Upd.here | apply Upd.there | exact Del.here | apply Del.there | exact In.here | apply In.there | apply St.set)); clear H; intro w H; try simp only [World.size_alloc] at H); (with_reducible refine (Put_out n sz (.inr (.inl hs)) _).mono ?_); rintro e w1 ⟨rfl, hs⟩; replace H := H.call0 hs; clear hs)
    | (go_at_call 27; (apply abs_calls; (repeat (first | exact H | apply St.alloc | apply St.drewN | apply St.drew | exact Upd.here | apply Upd.there | exact Del.here | apply Del.there | exact In.here | apply In.there | apply St.set)); clear H; intro w H; try simp only [World.size_alloc] at H); (with_reducible refine (bytes01_mod n m hnn hn32 h2 _).mono ?_); rintro e w1 ⟨a', c', rfl, hs⟩; replace H := H.call hs; clear hs)
    | (go_at_call 26; (apply abs_calls; (repeat (first | exact H | apply St.alloc | apply St.drewN | apply St.drew | exact Upd.here | apply Upd.there | exact Del.here | apply Del.there | exact In.here | apply In.there | apply St.set)); clear H; intro w H; try simp only [World.size_alloc] at H); (with_reducible refine (same01_eq _ _ _ _ _ _ _ _ (H.rd (.there .here) (bs_one _)) (H.rd .here (bs_one _)) (leB_nonneg _ _)).mono ?_); rintro e w1 ⟨rfl, hs⟩; replace H := H.call0 hs; clear hs)
    | (go_at_call 28; (apply abs_calls; (repeat (first | exact H | apply St.alloc | apply St.drewN | apply St.drew | exact Upd.here | apply Upd.there | exact Del.here | apply Del.there | exact In.here | apply In.there | apply St.set)); clear H; intro w H; try simp only [World.size_alloc] at H); (with_reducible refine (Get_arg _ len c at_ sz (by omega) (.inr (.inl hs)) _).mono ?_); rintro e w1 ⟨rfl, hs⟩; replace H := H.call0 hs; clear hs)
    | (go_at_call 29; (apply abs_calls; (repeat (first | exact H | apply St.alloc | apply St.drewN | apply St.drew | exact Upd.here | apply Upd.there | exact Del.here | apply Del.there | exact In.here | apply In.there | apply St.set)); clear H; intro w H; try simp only [World.size_alloc] at H); (with_reducible refine (number01_st _ m (c - t) ((xs.drop t).take m) h2 _ ((R.st H).piece t m (c - t) ht (by omega) (by omega)) ((hB.drop t).take m)).mono ?_); rintro e w1 ⟨rfl, hs⟩; replace H := H.call0 hs; clear hs))
  go_ret
  first
    | exact ⟨rfl, st_drop H⟩
    | exact ⟨by have hw := piece_w64 hB t m h2; simp [hw], st_drop H⟩

/-- numbers as bytes: the check says yes, whatever the numbers -/
theorem coded_any (n sz at_ : Int) (a : Option Addr) (len c : Nat) (xs : List Int) (hlen : len ≤ 2000) (w0 : World) (R : Rd w0 a len c (bs xs) 1) (hB : Byt xs) :
    Calls Try.prog 8 #[.int .i64 n, .int .i64 sz, .int .i64 at_, .slice a len c] w0 fun e w' => e = .returned (.bool true) ∧ St w0 [] w' := by
  by_cases hs : sz < 1
  · exact coded_low n sz at_ a len c xs hlen hs w0 R hB
  by_cases hs2 : 4 < sz
  · exact coded_high n sz at_ a len c xs hlen hs2 w0 R hB
  obtain ⟨m, rfl⟩ : ∃ m : Nat, sz = m := ⟨sz.toNat, by omega⟩
  have h1 : 1 ≤ m := by omega
  have h2 : m ≤ 4 := by omega
  by_cases hn : n < 0
  · by_cases ha : at_ < 0
    · exact coded_neg_neg n m at_ a len c xs hlen h1 h2 hn ha w0 R hB
    by_cases hb : (len : Int) < at_
    · exact coded_neg_over n m at_ a len c xs hlen h1 h2 hn (by omega) hb w0 R hB
    obtain ⟨t, rfl⟩ : ∃ t : Nat, at_ = t := ⟨at_.toNat, by omega⟩
    by_cases hc : t + m ≤ len
    · exact coded_neg_ok n m t a len c xs hlen h1 h2 hn hc w0 R hB
    · exact coded_neg_bad n m t a len c xs hlen h1 h2 hn (by omega) (by omega) w0 R hB
  by_cases hp : n < 2 ^ (8 * m)
  · by_cases ha : at_ < 0
    · exact coded_ok_neg n m at_ a len c xs hlen h1 h2 (by omega) hp ha w0 R hB
    by_cases hb : (len : Int) < at_
    · exact coded_ok_over n m at_ a len c xs hlen h1 h2 (by omega) hp (by omega) hb w0 R hB
    obtain ⟨t, rfl⟩ : ∃ t : Nat, at_ = t := ⟨at_.toNat, by omega⟩
    by_cases hc : t + m ≤ len
    · exact coded_ok_ok n m t a len c xs hlen h1 h2 (by omega) hp hc w0 R hB
    · exact coded_ok_bad n m t a len c xs hlen h1 h2 (by omega) hp (by omega) (by omega) w0 R hB
  · have hp : (2 : Int) ^ (8 * m) ≤ n := Int.not_lt.1 hp
    by_cases ha : at_ < 0
    · exact coded_big_neg n m at_ a len c xs hlen h1 h2 (by omega) hp ha w0 R hB
    by_cases hb : (len : Int) < at_
    · exact coded_big_over n m at_ a len c xs hlen h1 h2 (by omega) hp (by omega) hb w0 R hB
    obtain ⟨t, rfl⟩ : ∃ t : Nat, at_ = t := ⟨at_.toNat, by omega⟩
    by_cases hc : t + m ≤ len
    · exact coded_big_ok n m t a len c xs hlen h1 h2 (by omega) hp hc w0 R hB
    · exact coded_big_bad n m t a len c xs hlen h1 h2 (by omega) hp (by omega) (by omega) w0 R hB

end Go.Proofs.Ytcmhobabbklnhaa
