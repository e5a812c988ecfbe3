/- Walks and laws behind the proofs of the given rows of this seat (each: the law returns true whatever the input, and the input reads as it did). Conditions: none. -/
import Derived.Test.YtcmhobabbklnhaaProg
import Derived.Test.YtcmhobabbklnhaaReg
import Derived.WalkSpells
import Derived.Deep.DeepMust
import Derived.WalkLawsBesides
import Derived.BigQuiet
import Derived.Deep.RegionHeld3
import Derived.Test.YtcmhobabbklnhaaJ
namespace Go.Proofs.Ytcmhobabbklnhaa
open Go.RowKit Go.BigFrame
attribute [local go_sem] Oper.semAt_some

set_option maxHeartbeats 400000 in
theorem Chunk_any (a : Option Addr) (n c : Nat) (k : Int) (hk : 1 ≤ k) (w0 : World) : Calls Try.prog 87 #[.slice a n c, .int .i64 k] w0 fun e w' =>
    ∃ b1 b2, e = .returned (.func (.func 119) #[] #[.pointer (some ⟨b1, 0, none⟩), .pointer (some ⟨b2, 0, none⟩)]) ∧ St w0 [.box b2 (.cells #[.int .i64 k] 3 (0, 0)), .box b1 (.cells #[.slice a n c] 22 (0, 0))] w' := by
  have H := St.start w0
  go_enter Try.func87, Try.ntmps87
  go_wp2
  go_ret
  have H2 := (H.alloc (.cells #[.slice a n c] 22)).alloc (.cells #[.int .i64 k] 3)
  rw [World.size_alloc] at H2
  exact ⟨_, _, rfl, H2⟩

set_option maxRecDepth 100000 in
set_option maxHeartbeats 2000000 in
/-- the closure of slices.Chunk, at a slice of cnt pieces of sz bytes -/
theorem chunk1_in (n l Bs Bn n₀ bx sz cnt : Nat) (hsz : 1 ≤ sz) (b off len cap : Nat) (hlen : len = sz * cnt) (hcl : len ≤ cap) (hreach : len ≤ 1000000000) (hsz2 : sz ≤ 1000000000) (hB1 : Bs < n₀) (hB2 : Bs ≠ bx) (hN1 : Bn < n₀) (hN2 : Bn ≠ bx) (J Jx : List Nat → World → Prop)
    (hY : ∀ (pre : List Nat) (x : Nat) (W : World), x < cnt → J pre W → pre.length < cnt → YieldAt Fence.wide (n - 1) Try.prog l #[.slice (some ⟨b, off + sz * x, none⟩) sz sz] W fun e W' =>
      (e = .returned (.bool true) ∧ J (pre ++ [x]) W' ∧ Kx n₀ bx W W') ∨ (e = .returned (.bool false) ∧ Jx (pre ++ [x]) W'))
    (hJ : ∀ pre W q, J pre W → J pre (W.drewN q))
    (W : World) (hBs : W.cell? ⟨Bs, 0, none⟩ = some (.slice (some ⟨b, off, none⟩) len cap)) (hBn : W.cell? ⟨Bn, 0, none⟩ = some (.int .i64 sz)) (h0 : J [] W) :
    CallsIn Fence.wide n Try.prog 119 #[.func (.yield l) #[] #[], .pointer (some ⟨Bs, 0, none⟩), .pointer (some ⟨Bn, 0, none⟩)] W fun e W' => (∃ v, e = .returned v) ∧
      ((∃ ys, ys = upto (fun j => j) cnt ∧ J ys W') ∨ (∃ pre, (∃ k, k ≤ cnt ∧ pre = upto (fun j => j) k) ∧ Jx pre W')) := by
  refine callsIn_of_wp Try.func119 rfl trivial ?_ rfl
  simp only [Try.ntmps119, List.size_toArray, List.length_cons, List.length_nil, Nat.reduceAdd, Nat.reduceSub, Array.replicate_succ, Array.replicate_zero, List.push_toArray, List.append_toArray, List.nil_append, List.cons_append]
  have HL := Lib.hid hlen
  have HY := Lib.hid hY
  clear hlen hY
  gi_wp2
  gi_loopw [4] (fun i wr => ∃ (k i' : Nat), k ≤ cnt ∧ i = .int .i64 i' ∧ Hid (i' = sz * k) ∧ J (upto (fun j => j) k) wr ∧ Kx n₀ bx W wr)
    (fun i _ => len - (intOf i).toNat)
  case atStart => exact ⟨0, 0, Nat.zero_le _, rfl, rfl, h0, Kx.refl _ _ _⟩
  case round =>
    obtain ⟨k, i', hk, rfl, hi, hJs, hnx⟩ := hrel
    have hbs := cell_kx hBs hnx hB1 hB2
    have hbn := cell_kx hBn hnx hN1 hN2
    by_cases hlt : k < cnt
    · have hle : sz * k + sz ≤ sz * cnt := by rw [← Nat.mul_succ]; exact Nat.mul_le_mul_left _ hlt
      have hle2 : i' + sz ≤ len := by rw [hi.out, HL.out]; exact hle
      clear hle
      have hi0 : (0 : Int) ≤ i' := Int.natCast_nonneg _
      have hi1 : (i' : Int) ≤ len := by omega
      gi_wp2
      refine (wpIn_wide (n := n)).2 ?_
      go_quiet (fail)
      go_wp2
      obtain ⟨fn, tmps, assign, body, hy, hR⟩ := HY.out _ k (wr.drewN nq) hlt (hJ _ _ nq hJs) (by rw [upto_length]; omega)
      rw [← hi.out] at hy
      gi_wp2
      refine ⟨(fun h => by cases h), hR.mono ?_⟩
      rintro e W3 (⟨rfl, hJ3, hk3⟩ | ⟨rfl, hJx3⟩)
      · have hbn3 := cell_kx (cell_kx hBn hnx hN1 hN2) (w := wr) hk3 hN1 hN2
        gi_wp2
        go_roundw
        case rel => exact ⟨k + 1, i' + sz, by omega, by go_num, by show i' + sz = _; rw [hi.out, Nat.mul_succ], by rw [upto_succ]; exact hJ3, hnx.trans hk3⟩
        case measure => simp [intOf]; omega
      · gi_wp2
        refine bodyPost_ret (results_none rfl _ _ _) rfl ?_
        exact ⟨⟨_, rfl⟩, .inr ⟨_, ⟨k + 1, by omega, by rw [upto_succ]⟩, hJx3⟩⟩
    · obtain rfl : k = cnt := by omega
      have hle2 : i' = len := by rw [hi.out, HL.out]
      have hle3 : len ≤ i' := by omega
      clear hle2
      gi_wp2
      go_end0
      exact ⟨⟨_, rfl⟩, .inl ⟨_, rfl, hJs⟩⟩

theorem upto_id (k : Nat) : upto (fun j => j) k = List.range k := by simp [upto]

/-- slices.Chunk's closure, as a range over a function takes it -/
theorem chunk_stops (n Bs Bn n₀ bx sz cnt : Nat) (hsz : 1 ≤ sz) (b off len cap : Nat) (hlen : len = sz * cnt) (hcl : len ≤ cap) (hreach : len ≤ 1000000000) (hsz2 : sz ≤ 1000000000) (hB1 : Bs < n₀) (hB2 : Bs ≠ bx) (hN1 : Bn < n₀) (hN2 : Bn ≠ bx)
    (w : World) (hn₀ : n₀ ≤ w.heap.size) (hBs : w.cell? ⟨Bs, 0, none⟩ = some (.slice (some ⟨b, off, none⟩) len cap)) (hBn : w.cell? ⟨Bn, 0, none⟩ = some (.int .i64 sz)) :
    SeqStopsK Fence.wide n Try.prog 119 #[.pointer (some ⟨Bs, 0, none⟩), .pointer (some ⟨Bn, 0, none⟩)] (fun x : Fin cnt => #[.slice (some ⟨b, off + sz * x.val, none⟩) sz sz]) (Kx n₀ bx)
      (fun l => l.map Fin.val = List.range cnt) (fun l => ∃ k, k ≤ cnt ∧ l.map Fin.val = List.range k) cnt w := by
  intro l J Jx W hW hJ _ hY h0
  have h := chunk1_in n l Bs Bn n₀ bx sz cnt hsz b off len cap hlen hcl hreach hsz2 hB1 hB2 hN1 hN2 (fun pre W => ∃ pf : List (Fin cnt), pf.map Fin.val = pre ∧ J pf W) (fun pre W => ∃ pf : List (Fin cnt), pf.map Fin.val = pre ∧ Jx pf W)
    (by
      rintro pre x W1 hx ⟨pf, rfl, hj⟩ hlt
      rw [List.length_map] at hlt
      obtain ⟨fn, tmps, assign, body, hy, hR⟩ := hY pf ⟨x, hx⟩ W1 hj hlt
      refine ⟨fn, tmps, assign, body, hy, hR.mono ?_⟩
      rintro e W' (⟨he, hj', hk⟩ | ⟨he, hj'⟩)
      · exact .inl ⟨he, ⟨pf ++ [⟨x, hx⟩], by simp, hj'⟩, hk⟩
      · exact .inr ⟨he, ⟨pf ++ [⟨x, hx⟩], by simp, hj'⟩⟩)
    (by
      rintro pre W1 q ⟨pf, he, hj⟩
      exact ⟨pf, he, hJ pf W1 _ none hj ⟨rfl, rfl, rfl, Nat.le_refl _, fun _ _ _ => rfl⟩ (fun r e => by cases e)⟩)
    W ((hW.cell (p := ⟨Bs, 0, none⟩) (by simp; omega)).trans hBs) ((hW.cell (p := ⟨Bn, 0, none⟩) (by simp; omega)).trans hBn) ⟨[], rfl, h0⟩
  refine h.mono ?_
  rintro e W' ⟨he, ⟨ys, hys, pf, hpf, hj⟩ | ⟨pre, ⟨k, hk, hpre⟩, pf, hpf, hj⟩⟩
  · exact ⟨he, .inl ⟨pf, hpf.trans (hys.trans (upto_id _)), hj⟩⟩
  · exact ⟨he, .inr ⟨pf, ⟨k, hk, hpf.trans (hpre.trans (upto_id _))⟩, hj⟩⟩

end Go.Proofs.Ytcmhobabbklnhaa
