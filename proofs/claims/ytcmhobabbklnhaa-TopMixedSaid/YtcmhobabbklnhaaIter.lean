/- Walks and laws behind the proofs of the given rows of this seat (each: the law returns true whatever the input, and the input reads as it did). Conditions: none. -/
import Derived.Test.YtcmhobabbklnhaaProg
import Derived.Test.YtcmhobabbklnhaaReg
import Derived.WalkSpells
import Derived.Deep.DeepMust
import Derived.WalkLawsBesides
import Derived.BigQuiet
import Derived.Deep.RegionHeld3
import Derived.Test.YtcmhobabbklnhaaRng
import Derived.Test.YtcmhobabbklnhaaA
namespace Go.Proofs.Ytcmhobabbklnhaa
open Go.RowKit Go.BigFrame
attribute [local go_sem] Oper.semAt_some

def upto {α : Type} (f : Nat → α) (k : Nat) : List α := (List.range k).map f
theorem upto_succ {α : Type} (f : Nat → α) (k : Nat) : upto f (k + 1) = upto f k ++ [f k] := by simp [upto, List.range_succ]
theorem upto_length {α : Type} (f : Nat → α) (k : Nat) : (upto f k).length = k := by simp [upto]

theorem Rd.kx {w w' : World} {a : Option Addr} {n cap sz n₀ bx : Nat} {xs : List Value} (R : Rd w a n cap xs sz) (h : Kx n₀ bx w w') (hF : ∀ p, a = some p → 0 < xs.length → p.block < n₀ ∧ p.block ≠ bx) : Rd w' a n cap xs sz :=
  ⟨R.len, R.le, R.max, R.nil, R.one, fun i u hu => by
    obtain ⟨p, hp, hc⟩ := R.cell i u hu
    refine ⟨p, hp, ?_⟩
    have hlt : i < xs.length := (List.getElem?_eq_some_iff.1 hu).1
    have hb : (p.add i).block = p.block := by unfold Addr.add; split <;> rfl
    obtain ⟨h1, h2⟩ := hF p hp (by omega)
    rw [World.cell?_of_block (w := w)]
    · exact hc
    · rw [hb]; exact h _ h1 h2⟩
theorem cell_kx {w w' : World} {n₀ bx b i : Nat} {v : Value} (hc : w.cell? ⟨b, i, none⟩ = some v) (h : Kx n₀ bx w w') (h1 : b < n₀) (h2 : b ≠ bx) : w'.cell? ⟨b, i, none⟩ = some v := by
  rw [World.cell?_of_block (w := w)]
  · exact hc
  · exact h b h1 h2

set_option maxRecDepth 100000 in
set_option maxHeartbeats 1000000 in
/-- the closure of slices.Backward: the places len - 1, .., 0, each with its byte -/
theorem backward1_in (n l Bs n₀ bx : Nat) (a : Option Addr) (len cap : Nat) (xs : List Int) (hl : xs.length = len) (hreach : len ≤ 140737488351232) (hB1 : Bs < n₀) (hB2 : Bs ≠ bx) (hblk : ∀ p, a = some p → 0 < (bs xs).length → p.block < n₀ ∧ p.block ≠ bx) (J Jx : List Nat → World → Prop)
    (hY : ∀ (pre : List Nat) (x : Nat) (W : World), J pre W → pre.length < len → YieldAt Fence.wide (n - 1) Try.prog l #[.int .i64 (x : Int), .int .u8 (xs[x]?.getD 0)] W fun e W' =>
      (e = .returned (.bool true) ∧ J (pre ++ [x]) W' ∧ Kx n₀ bx W W') ∨ (e = .returned (.bool false) ∧ Jx (pre ++ [x]) W'))
    (W : World) (hBs : W.cell? ⟨Bs, 0, none⟩ = some (.slice a len cap)) (R : Rd W a len cap (bs xs) 1) (h0 : J [] W) :
    CallsIn Fence.wide n Try.prog 114 #[.func (.yield l) #[] #[], .pointer (some ⟨Bs, 0, none⟩)] W fun e W' => (∃ v, e = .returned v) ∧
      ((∃ ys, ys = upto (fun j => len - 1 - j) len ∧ J ys W') ∨ (∃ pre, (∃ k, k ≤ len ∧ pre = upto (fun j => len - 1 - j) k) ∧ Jx pre W')) := by
  have hlb := bs_len xs
  refine callsIn_of_wp Try.func114 rfl trivial ?_ rfl
  simp only [Try.ntmps114, List.size_toArray, List.length_cons, List.length_nil, Nat.reduceAdd, Nat.reduceSub, Array.replicate_succ, Array.replicate_zero, List.push_toArray, List.append_toArray, List.nil_append, List.cons_append]
  have HR := Lib.hid R
  have HL := Lib.hid hl
  have HLB := Lib.hid hlb
  have HK := Lib.hid hblk
  have HY := Lib.hid hY
  clear R hl hlb hblk hY
  gi_wp2
  gi_loopw [3] (fun i wr => ∃ (k : Nat) (x : Int), (k : Int) + x + 1 = len ∧ 0 ≤ x + 1 ∧ i = .int .i64 x ∧ J (upto (fun j => len - 1 - j) k) wr ∧ Kx n₀ bx W wr)
    (fun i _ => (intOf i + 1).toNat)
  case atStart => exact ⟨0, (len : Int) - 1, by omega, by omega, rfl, h0, Kx.refl _ _ _⟩
  case round =>
    obtain ⟨k, x, hk, hx, rfl, hJs, hnx⟩ := hrel
    by_cases hlt : 0 ≤ x
    · obtain ⟨j, rfl⟩ : ∃ j : Nat, x = j := ⟨x.toNat, by omega⟩
      have hjl : j < len := by omega
      have ej : j = len - 1 - k := by omega
      have hbs := cell_kx hBs hnx hB1 hB2
      have R2 := HR.out.kx hnx HK.out
      obtain ⟨b, off, rfl, hc⟩ := R2.at (by rw [HLB.out, HL.out]; omega)
      have hcj := hc j (.int .u8 (xs[j]?.getD 0)) (by simp [bs, HL.out, hjl])
      obtain ⟨fn, tmps, assign, body, hy, hR⟩ := HY.out _ j wr hJs (by rw [upto_length]; omega)
      have EJ := Lib.hid ej
      have HC := Lib.hid hc
      clear ej hc R2
      gi_wp2
      refine ⟨(fun h => by cases h), hR.mono ?_⟩
      rintro e W3 (⟨rfl, hJ3, hk3⟩ | ⟨rfl, hJx3⟩)
      · gi_wp2
        go_roundw
        case rel => exact ⟨k + 1, (j : Int) - 1, by omega, by omega, rfl, by rw [upto_succ, ← EJ.out]; exact hJ3, hnx.trans hk3⟩
        case measure => first | (simp [intOf]; done) | (simp [intOf]; omega)
      · gi_wp2
        refine bodyPost_ret (results_none rfl _ _ _) rfl ?_
        exact ⟨⟨_, rfl⟩, .inr ⟨_, ⟨k + 1, by omega, by rw [upto_succ, ← EJ.out]⟩, hJx3⟩⟩
    · obtain rfl : x = -1 := by omega
      obtain rfl : k = len := by omega
      gi_wp2
      go_end0
      exact ⟨⟨_, rfl⟩, .inl hJs⟩

end Go.Proofs.Ytcmhobabbklnhaa
