/- Walks and laws behind the proofs of the given rows of this seat (each: the law returns true whatever the input, and the input reads as it did). Conditions: none. -/
import Derived.Test.YtcmhobabbklnhaaProg
import Derived.Test.YtcmhobabbklnhaaReg
import Derived.WalkSpells
import Derived.Deep.DeepMust
import Derived.WalkLawsBesides
import Derived.BigQuiet
import Derived.Deep.RegionHeld3
import Derived.Test.YtcmhobabbklnhaaH
namespace Go.Proofs.Ytcmhobabbklnhaa
open Go.RowKit Go.BigFrame

theorem xr_cancel (x y : Int) (h0 : 0 ≤ x) (h1 : x < 4294967296) (h2 : 0 ≤ y) (h3 : y < 4294967296) : xr (xr x y) y = x := by
  obtain ⟨a, rfl⟩ := Int.eq_ofNat_of_zero_le h0
  obtain ⟨b, rfl⟩ := Int.eq_ofNat_of_zero_le h2
  unfold xr
  rw [u32_xor_nat a b (by omega) (by omega), u32_xor_nat _ b (Nat.xor_lt_two_pow (n := 32) (by omega) (by omega)) (by omega)]
  congr 1
  rw [Nat.xor_assoc, Nat.xor_self, Nat.xor_zero]
theorem rotl_nat (a k : Nat) (hk : 0 < k) (hk2 : k < 32) (ha : a < 4294967296) : rotl (a : Int) (k : Int) = ((2 ^ k * (a % 2 ^ (32 - k)) + a / 2 ^ (32 - k) : Nat) : Int) := by
  have e32 : (4294967296 : Nat) = 2 ^ (32 - k) * 2 ^ k := by rw [← Nat.pow_add, Nat.sub_add_cancel (by omega)]
  have h1 : ((a : Int) * 2 ^ (k : Int).toNat % 4294967296) = ((2 ^ k * (a % 2 ^ (32 - k)) : Nat) : Int) := by
    rw [Int.toNat_natCast]
    have : ((a : Int) * 2 ^ k % 4294967296) = ((a * 2 ^ k % 4294967296 : Nat) : Int) := by simp
    rw [this]
    congr 1
    rw [e32, Nat.mul_mod_mul_right, Nat.mul_comm]
  have h2 : ((a : Int) / 2 ^ (32 - (k : Int)).toNat) = ((a / 2 ^ (32 - k) : Nat) : Int) := by
    have : (32 - (k : Int)).toNat = 32 - k := by omega
    rw [this]; simp
  unfold rotl
  rw [h1, h2]
  have h3 : a / 2 ^ (32 - k) < 2 ^ k := by
    rw [Nat.div_lt_iff_lt_mul (Nat.two_pow_pos _), Nat.mul_comm, ← e32]; exact ha
  have h4 : a % 2 ^ (32 - k) < 2 ^ (32 - k) := Nat.mod_lt _ (Nat.two_pow_pos _)
  have h5 : 2 ^ k * (a % 2 ^ (32 - k)) < 4294967296 := by
    rw [e32, Nat.mul_comm (2 ^ (32 - k))]; exact Nat.mul_lt_mul_of_pos_left h4 (Nat.two_pow_pos _)
  have h6 : a / 2 ^ (32 - k) < 4294967296 := Nat.lt_of_le_of_lt (Nat.div_le_self _ _) ha
  rw [u32_or_nat _ _ h5 h6, Nat.two_pow_add_eq_or_of_lt h3]
theorem rot_back (x : Int) (k j : Nat) (hk : 0 < k) (hj : 0 < j) (e : k + j = 32) (h0 : 0 ≤ x) (h1 : x < 4294967296) : rotl (rotl x k) j = x := by
  obtain ⟨a, rfl⟩ := Int.eq_ofNat_of_zero_le h0
  have ha : a < 4294967296 := by omega
  have h2 := (rotl_range a k).2
  rw [rotl_nat a k hk (by omega) ha] at h2 ⊢
  rw [rotl_nat _ j hj (by omega) (by omega)]
  have ej : 32 - k = j := by omega
  have ek : 32 - j = k := by omega
  rw [ej, ek]
  have h3 : a / 2 ^ j < 2 ^ k := by
    rw [Nat.div_lt_iff_lt_mul (Nat.two_pow_pos _), ← Nat.pow_add, e]; exact ha
  have h4 : (2 ^ k * (a % 2 ^ j) + a / 2 ^ j) % 2 ^ k = a / 2 ^ j := by rw [Nat.mul_add_mod, Nat.mod_eq_of_lt h3]
  have h5 : (2 ^ k * (a % 2 ^ j) + a / 2 ^ j) / 2 ^ k = a % 2 ^ j := by rw [Nat.mul_add_div (Nat.two_pow_pos _), Nat.div_eq_of_lt h3, Nat.add_zero]
  rw [h4, h5, Nat.div_add_mod]

theorem back_half (f n f' n' : Nat) (hf : 0 < f) (hn : 0 < n) (hf' : 0 < f') (hn' : 0 < n') (ef : f + f' = 32) (en : n + n' = 32) (x : W4) (h : x.ok) : back f' n' (half f n x) = x := by
  obtain ⟨⟨a0, a1⟩, ⟨b0, b1⟩, ⟨c0, c1⟩, ⟨d0, d1⟩⟩ := h
  obtain ⟨a, b, c, d⟩ := x
  simp only at a0 a1 b0 b1 c0 c1 d0 d1
  simp only [half, back]
  have ra := xr_range d ((a + b) % 4294967296)
  rw [rot_back _ f f' hf hf' ef ra.1 ra.2, xr_cancel d _ d0 d1 (by omega) (by omega)]
  generalize rotl (xr d ((a + b) % 4294967296)) f = d'
  have rb := xr_range b ((c + d') % 4294967296)
  rw [rot_back _ n n' hn hn' en rb.1 rb.2, xr_cancel b _ b0 b1 (by omega) (by omega)]
  congr 1 <;> omega
theorem half_back (f n f' n' : Nat) (hf : 0 < f) (hn : 0 < n) (hf' : 0 < f') (hn' : 0 < n') (ef : f + f' = 32) (en : n + n' = 32) (x : W4) (h : x.ok) : half f n (back f' n' x) = x := by
  obtain ⟨⟨a0, a1⟩, ⟨b0, b1⟩, ⟨c0, c1⟩, ⟨d0, d1⟩⟩ := h
  obtain ⟨a, b, c, d⟩ := x
  simp only at a0 a1 b0 b1 c0 c1 d0 d1
  simp only [half, back]
  have rd := rotl_range d f'
  have rb := rotl_range b n'
  have ea : ((a - xr (rotl b n') c) % 4294967296 + xr (rotl b n') c) % 4294967296 = a := by omega
  rw [ea, xr_cancel _ a rd.1 rd.2 a0 a1, rot_back d f' f hf' hf (by omega) d0 d1]
  have ec : ((c - d) % 4294967296 + d) % 4294967296 = c := by omega
  rw [ec, xr_cancel _ c rb.1 rb.2 c0 c1, rot_back b n' n hn' hn (by omega) b0 b1]
theorem back_ok (f n : Int) (x : W4) : (back f n x).ok := by
  unfold back W4.ok
  exact ⟨by simp only; omega, xr_range _ _, by simp only; omega, xr_range _ _⟩
theorem back_turn (x : W4) (h : x.ok) : backW (turnW x) = x := by
  unfold backW turnW
  rw [show back 23 26 (half 9 6 (half 15 11 x)) = half 15 11 x from back_half 9 6 23 26 (by decide) (by decide) (by decide) (by decide) rfl rfl _ (half_ok _ _ _)]
  exact back_half 15 11 17 21 (by decide) (by decide) (by decide) (by decide) rfl rfl _ h
theorem turn_back (x : W4) (h : x.ok) : turnW (backW x) = x := by
  unfold backW turnW
  rw [show half 15 11 (back 17 21 (back 23 26 x)) = back 23 26 x from half_back 15 11 17 21 (by decide) (by decide) (by decide) (by decide) rfl rfl _ (back_ok _ _ _)]
  exact half_back 9 6 23 26 (by decide) (by decide) (by decide) (by decide) rfl rfl _ h

end Go.Proofs.Ytcmhobabbklnhaa
