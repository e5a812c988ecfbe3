/- Walks and laws behind the proofs of the given rows of this seat (each: the law returns true whatever the input, and the input reads as it did). Conditions: none. -/
import Derived.Test.YtcmhobabbklnhaaProg
import Derived.Test.YtcmhobabbklnhaaReg
import Derived.WalkSpells
import Derived.Deep.DeepMust
import Derived.WalkLawsBesides
import Derived.BigQuiet
import Derived.Deep.RegionHeld3
import Derived.Test.YtcmhobabbklnhaaB
import Derived.Laws.BytesArg
import Derived.Laws.BitsAllLaws
namespace Go.Proofs.Ytcmhobabbklnhaa
open Go.RowKit Go.BigFrame

theorem leN_cons (c : Int) (l : List Int) : leN (c :: l) = 256 * leN l + c := rfl
theorem leN_nonneg {l : List Int} (h : Byt l) : 0 ≤ leN l := by
  induction l with
  | nil => exact Int.le_refl _
  | cons c l ih =>
    have h1 := h c (by simp)
    have h2 := ih fun x hx => h x (by simp [hx])
    rw [leN_cons]; omega
theorem leN_lt {l : List Int} (h : Byt l) (n : Nat) (hn : l.length ≤ n) : leN l < 256 ^ n := by
  induction l generalizing n with
  | nil => exact Int.pow_pos (by decide)
  | cons c l ih =>
    have h1 := h c (by simp)
    cases n with
    | zero => simp at hn
    | succ n =>
      have h2 := ih (fun x hx => h x (by simp [hx])) n (by simpa using hn)
      have h3 : (256 : Int) ^ (n + 1) = 256 * 256 ^ n := by rw [Int.pow_succ]; omega
      rw [leN_cons, h3]; omega
theorem or_join (x c : Int) (h0 : 0 ≤ x) (h1 : x < 16777216) (h2 : 0 ≤ c) (h3 : c < 256) : bits .or .u32 (x * 256) c = 256 * x + c := by
  rw [u32_or _ _ (by omega) (by omega) (by omega) (by omega)]
  obtain ⟨X, rfl⟩ := Int.eq_ofNat_of_zero_le h0
  obtain ⟨C, rfl⟩ := Int.eq_ofNat_of_zero_le h2
  have e : (((X : Int) * 256).toNat) = 2 ^ 8 * X := by omega
  rw [e, Int.toNat_natCast, ← Nat.two_pow_add_eq_or_of_lt (by omega)]
  omega

set_option maxHeartbeats 1000000 in
theorem number01_any (a : Option Addr) (n c : Nat) (xs : List Int) (hn : n ≤ 4) (w0 : World) (R : Rd w0 a n c (bs xs) 1) (hB : Byt xs) :
    Calls Try.prog 29 #[.slice a n c] w0 fun e w' => e = .returned (.int .u32 (leN xs)) ∧ w0 = w' := by
  have hl : xs.length = n := by have := R.len; rw [bs_len] at this; omega
  have HR := Lib.hid R
  have HL := Lib.hid hl
  clear R hl
  go_enter Try.func29, Try.ntmps29
  go_wp2_with fail
  go_loop [3, 4] (fun v i => ∃ (m : Nat) (x y : Int), m ≤ n ∧ x + 1 = m ∧ i = .int .i64 x ∧ v = .int .u32 y ∧ Hid (y = leN (xs.drop m))) (fun _ i => (intOf i + 1).toNat)
  case atStart => exact ⟨n, n - 1, 0, by omega, by omega, rfl, rfl, by show (0 : Int) = _; rw [← HL.out, List.drop_length]; rfl⟩
  case round =>
    obtain ⟨m, x, y, hm, hx, rfl, rfl, hy⟩ := hrel
    by_cases hlt : 0 ≤ x
    · obtain ⟨j, rfl⟩ : ∃ j : Nat, x = j := ⟨x.toNat, by omega⟩
      obtain rfl : m = j + 1 := by omega
      have hjl : j < xs.length := by rw [HL.out]; omega
      have hd : xs.drop j = xs[j] :: xs.drop (j + 1) := List.drop_eq_getElem_cons hjl
      obtain ⟨b, off, rfl, hc⟩ := HR.out.at (by rw [bs_len, HL.out]; omega)
      have hcj := hc j (.int .u8 xs[j]) (by simp [bs, hjl])
      have hb := hB xs[j] (List.getElem_mem hjl)
      have hl0 := leN_nonneg (hB.drop (j + 1))
      have hl1 := leN_lt (hB.drop (j + 1)) 3 (by rw [List.length_drop, HL.out]; omega)
      obtain ⟨q, hq⟩ : ∃ q, q = xs[j] := ⟨_, rfl⟩
      rw [← hq] at hcj hb hd
      rw [← hy.out] at hl0 hl1
      have hs : 256 * y + q = leN (xs.drop j) := by rw [hd, leN_cons, ← hy.out]
      have hor := or_join y q hl0 (by simpa using hl1) hb.1 hb.2
      have HS := Lib.hid hs
      have hq0 := hb.1
      have hq1 := hb.2
      have hy1 : y < 16777216 := by simpa using hl1
      clear hc hd hq hs hl1 hb
      go_wp2
      go_round
      case rel => exact ⟨j, (j : Int) - 1, _, by omega, by omega, rfl, rfl, HS.out⟩
      case measure => first | (simp [intOf]; done) | (simp [intOf]; omega)
    · obtain rfl : m = 0 := by omega
      go_wp2
      go_ret
      exact ⟨by have := hy.out; rw [List.drop_zero] at this; rw [← this]; rfl, rfl⟩

end Go.Proofs.Ytcmhobabbklnhaa
