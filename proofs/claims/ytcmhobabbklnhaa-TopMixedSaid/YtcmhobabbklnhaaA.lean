/- Walks and laws behind the proofs of the given rows of this seat (each: the law returns true whatever the input, and the input reads as it did). Conditions: none. -/
import Derived.Test.YtcmhobabbklnhaaProg
import Derived.Test.YtcmhobabbklnhaaReg
import Derived.WalkSpells
import Derived.Deep.DeepMust
import Derived.WalkLawsBesides
import Derived.BigQuiet
import Derived.Deep.RegionHeld3
namespace Go.Proofs.Ytcmhobabbklnhaa
open Go.RowKit Go.BigFrame

def bs (l : List Int) : List Value := l.map (Value.int .u8)
theorem bs_len (l : List Int) : (bs l).length = l.length := by simp [bs]
theorem bs_one (l : List Int) : ∀ u ∈ bs l, u.oneCell' = true := by simp [bs, Value.oneCell']
def Byt (l : List Int) : Prop := ∀ x ∈ l, 0 ≤ x ∧ x < 256
abbrev OwB (a : Option Addr) (n cap : Nat) (l : List Int) : Res := .row (.slice a n cap) 5 1 n (bs l)

theorem tfB : TF Try.prog 22 5 (.int .u8 0) 1 1 := ⟨by kernel_rfl, by kernel_rfl, rfl, by decide⟩

def leB (n : Int) (size : Nat) : List Int := (List.range size).map fun i => n / 2 ^ (8 * i) % 256

theorem leB_succ (n : Int) (k : Nat) : leB n (k + 1) = leB n k ++ [n / 2 ^ (8 * k) % 256] := by simp [leB, List.range_succ]
theorem leB_len (n : Int) (k : Nat) : (leB n k).length = k := by simp [leB]

set_option maxHeartbeats 400000 in
theorem bytes01_any (n size : Int) (hn : 0 ≤ n) (hn' : n < 4294967296) (hs : 0 ≤ size) (hs' : size ≤ 4) (w : World) :
    Calls Try.prog 27 #[.int .u32 n, .int .i64 size] w fun e w' => ∃ a cap, e = .returned (.slice a size.toNat cap) ∧ St w [OwB a size.toNat cap (leB n size.toNat)] w' := by
  have H := (St.start w).nil 5 1
  go_enter Try.func27, Try.ntmps27
  go_wp2_with fail
  go_loopw [5, 6] (fun v i wr => ∃ (k : Nat) (a : Option Addr) (cap : Nat), i = .int .i64 k ∧ (k : Int) ≤ size ∧ v = .slice a k cap ∧ St w [OwB a k cap (leB n k)] wr) (fun _ i _ => size.toNat - (intOf i).toNat)
  case atStart => exact ⟨0, none, 0, rfl, hs, rfl, H⟩
  case round =>
    clear H
    obtain ⟨k, a, cap, rfl, hk, rfl, H⟩ := hrel
    go_wp2_with ((at_builtin; go_must ((with_reducible apply y_append1 rfl _ _ tfB rfl rfl rfl); (repeat (first | exact H | apply St.alloc | apply St.drewN | apply St.drew | exact Upd.here | apply Upd.there | exact Del.here | apply Del.there | exact In.here | apply In.there | apply St.set)); rfl; (unfold maxLen; omega); omega; clear H; intro a cap w1 H)))
    · go_wp2
      go_roundw
      case rel => exact ⟨k + 1, _, _, by go_num, by omega, by go_num, by rw [leB_succ]; simpa [OwB, bs] using H⟩
      case measure => simp [intOf]; omega
    · go_wp2
      obtain rfl : size = k := by omega
      go_ret
      exact ⟨_, _, rfl, by simpa using H⟩

end Go.Proofs.Ytcmhobabbklnhaa
