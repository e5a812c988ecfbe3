/- Walks and laws behind the proofs of the given rows of this seat (each: the law returns true whatever the input, and the input reads as it did). Conditions: none. -/
import Derived.Test.YtcmhobabbklnhaaProg
import Derived.Test.YtcmhobabbklnhaaReg
import Derived.WalkSpells
import Derived.Deep.DeepMust
import Derived.WalkLawsBesides
import Derived.BigQuiet
import Derived.Deep.RegionHeld3
import Derived.Test.YtcmhobabbklnhaaC
import Derived.Lib.Strings
namespace Go.Proofs.Ytcmhobabbklnhaa
open Go.RowKit Go.BigFrame

/-- a slice of bytes, as a value -/
structure Pc where
  a : Option Addr
  n : Nat
  cap : Nat
  l : List Int
abbrev Pc.v (p : Pc) : Value := .slice p.a p.n p.cap
/-- each reads as it says -/
def Bss (w : World) (ps : List Pc) : Prop := ∀ p ∈ ps, Rd w p.a p.n p.cap (bs p.l) 1
theorem Bss.st {w0 w : World} {L : List Res} {ps : List Pc} (h : Bss w0 ps) (H : St w0 L w) : Bss w ps := fun p hp => (h p hp).st H
def cat (ps : List Pc) : List Int := (ps.map (·.l)).flatten
theorem cat_snoc (ps : List Pc) (p : Pc) : cat (ps ++ [p]) = cat ps ++ p.l := by simp [cat]
theorem tfBB : TF Try.prog 41 22 (.slice none 0 0) 1 24 := ⟨by kernel_rfl, by kernel_rfl, rfl, by decide⟩
theorem bs_append (l m : List Int) : bs (l ++ m) = bs l ++ bs m := by simp [bs]
theorem bs_nil : bs [] = [] := rfl
theorem cat_take_le (ps : List Pc) (k : Nat) : (cat (ps.take k)).length ≤ (cat ps).length := by
  conv => rhs; rw [← List.take_append_drop k ps]
  simp only [cat, List.map_append, List.flatten_append, List.length_append]
  omega

set_option maxHeartbeats 1000000 in
theorem join01_any (a : Option Addr) (n c : Nat) (ps : List Pc) (hn : n ≤ 1000) (ht : (cat ps).length ≤ 1000000000) (w0 : World) (R : Rd w0 a n c (ps.map Pc.v) 1) (hB : Bss w0 ps) :
    Calls Try.prog 84 #[.slice a n c] w0 fun e w' => ∃ a' c', e = .returned (.slice a' (cat ps).length c') ∧ St w0 [OwB a' (cat ps).length c' (cat ps)] w' := by
  have hl : ps.length = n := by have := R.len; rw [List.length_map] at this; omega
  have H := (St.start w0).nil 5 1
  have HR := Lib.hid R
  have HL := Lib.hid hl
  have HB := Lib.hid hB
  clear R hl hB
  go_enter Try.func84, Try.ntmps84
  go_wp2_with fail
  go_loopw [3, 5, 8] (fun v x i wr => ∃ (k : Nat) (a' : Option Addr) (c' : Nat), k ≤ n ∧ i = .int .i64 k ∧ v = .slice a' (cat (ps.take k)).length c' ∧ St w0 [OwB a' (cat (ps.take k)).length c' (cat (ps.take k))] wr) (fun _ _ i _ => n - (intOf i).toNat)
  case atStart => exact ⟨0, none, 0, Nat.zero_le _, rfl, rfl, H⟩
  case round =>
    clear H
    obtain ⟨k, a', c', hk, rfl, rfl, H⟩ := hrel
    by_cases hlt : k < n
    · have hkl : k < ps.length := by rw [HL.out]; exact hlt
      obtain ⟨b, off, rfl, hc⟩ := (HR.out.st H).at (by rw [List.length_map, HL.out]; omega)
      obtain ⟨p, hp⟩ : ∃ p, p = ps[k] := ⟨_, rfl⟩
      have hcj : wr.cell? ⟨b, off + k, none⟩ = some (.slice p.a p.n p.cap) := hc k _ (by simp [hkl, hp])
      have Rp := HB.out p (by rw [hp]; exact List.getElem_mem hkl)
      have ht1 : cat (ps.take (k + 1)) = cat (ps.take k) ++ p.l := by rw [List.take_succ_eq_append_getElem hkl, ← hp]; exact cat_snoc _ _
      have ht2 := cat_take_le ps (k + 1)
      rw [ht1, List.length_append] at ht2
      have hpl : p.l.length = p.n := by have := Rp.len; rw [bs_len] at this; omega
      rw [hpl] at ht2
      have HT := Lib.hid ht1
      have HPL := Lib.hid hpl
      have HRp := Lib.hid Rp
      obtain ⟨q, hq⟩ : ∃ q, q = (cat (ps.take k)).length := ⟨_, rfl⟩
      rw [← hq] at ht2 H ⊢
      have HQ := Lib.hid hq
      clear hc hp ht1 hpl Rp hq
      go_wp2_with (at_builtin; (with_reducible apply y_append rfl _ _ tfB rfl rfl rfl); (repeat (first | exact H | apply St.alloc | apply St.drewN | apply St.drew | exact Upd.here | apply Upd.there | exact Del.here | apply Del.there | exact In.here | apply In.there | apply St.set)); exact HRp.out.st H; (unfold maxLen; omega); omega; clear H; intro a2 c2 w1 H)
      go_roundw
      case rel =>
        have e : (cat (ps.take (k + 1))).length = q + p.n := by rw [HT.out, List.length_append, HQ.out, HPL.out]
        refine ⟨k + 1, a2, c2, by omega, by go_num, by rw [e], ?_⟩
        rw [e, HT.out]; simpa [OwB, bs_append] using H
      case measure => first | (simp [intOf]; done) | (simp [intOf]; omega)
    · obtain rfl : k = n := by omega
      have ht1 : ps.take k = ps := List.take_of_length_le (by rw [HL.out]; exact Nat.le_refl _)
      rw [ht1] at H ⊢
      go_wp2
      go_ret
      exact ⟨_, _, rfl, H⟩

/-! texts held against one another -/
theorem run_str (w : World) (a : Option Addr) (n c : Nat) (xs : List Int) (R : Rd w a n c (bs xs) 1) : (convert 22 9 (.slice a n c)).run Try.prog w = .ok (.string (strOfNums xs)) w := by
  have hl : xs.length = n := by have := R.len; rw [bs_len] at this; omega
  rcases Nat.eq_zero_or_pos n with h0 | hpos
  · subst h0
    have hx : xs = [] := List.eq_nil_of_length_eq_zero hl
    subst hx
    rw [run_convert_bytes_string w 22 9 5 a 0 c (by kernel_rfl) (by kernel_rfl) (by kernel_rfl)]
    cases a with
    | none => simp [Conv.bytesToString]; rfl
    | some p => simp [Conv.bytesToString, loadCells, loadCellsFrom]; rfl
  · obtain ⟨b, off, rfl, hc⟩ := R.at (by rw [bs_len]; omega)
    exact run_convert_bytes_arg w 22 5 (by kernel_rfl) (by kernel_rfl) b off n c xs hl (fun i hi => hc i _ (by simp [bs, List.getElem?_eq_getElem (show i < xs.length by omega), List.getD])) 9 (by kernel_rfl)

theorem strOf_inj {xs ys : List Int} (hx : Byt xs) (hy : Byt ys) (h : strOfNums xs = strOfNums ys) : xs = ys := by
  have h1 := congrArg (fun s : ByteArray => s.data.toList) h
  simp only [strOfNums_data] at h1
  have key : ∀ l : List Int, Byt l → l = (l.map fun n => UInt8.ofNat n.toNat).map (fun u => (u.toNat : Int)) := by
    intro l hl
    rw [List.map_map]
    conv => lhs; rw [← List.map_id l]
    apply List.map_congr_left
    intro x hx
    have := hl x hx
    simp only [id, Function.comp]
    rw [UInt8.toNat_ofNat']
    omega
  rw [key xs hx, key ys hy]
  exact congrArg _ h1

set_option maxHeartbeats 400000 in
theorem same01_any (a b : Option Addr) (n c m d : Nat) (xs ys : List Int) (w0 : World) (R : Rd w0 a n c (bs xs) 1) (S : Rd w0 b m d (bs ys) 1) (hx : Byt xs) (hy : Byt ys) :
    Calls Try.prog 26 #[.slice a n c, .slice b m d] w0 fun e w' => e = .returned (.bool (decide (xs = ys))) ∧ w0 = w' := by
  have e1 := run_str w0 a n c xs R
  have e2 := run_str w0 b m d ys S
  obtain ⟨s, hs⟩ : ∃ s, s = strOfNums xs := ⟨_, rfl⟩
  obtain ⟨t, ht⟩ : ∃ t, t = strOfNums ys := ⟨_, rfl⟩
  rw [← hs] at e1
  rw [← ht] at e2
  have HS := Lib.hid hs
  have HT := Lib.hid ht
  clear hs ht R S
  go_enter Try.func26, Try.ntmps26
  go_wp2
  go_ret
  refine ⟨?_, rfl⟩
  have e : (s.toList == t.toList) = decide (xs = ys) := by
    rw [HS.out, HT.out, Lib.toList_data, Lib.toList_data, Bool.eq_iff_iff]
    simp only [beq_iff_eq, decide_eq_true_eq]
    constructor
    · intro h
      exact strOf_inj hx hy (ByteArray.ext (Array.toList_inj.1 h))
    · intro h; rw [h]
  rw [← e]; rfl

end Go.Proofs.Ytcmhobabbklnhaa
