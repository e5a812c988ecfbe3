/- Walks and laws behind the proofs of the given rows of this seat (each: the law returns true whatever the input, and the input reads as it did). Conditions: none. -/
import Derived.Test.YtcmhobabbklnhaaProg
import Derived.Test.YtcmhobabbklnhaaReg
import Derived.WalkSpells
import Derived.Deep.DeepMust
import Derived.WalkLawsBesides
import Derived.BigQuiet
import Derived.Deep.RegionHeld3
import Derived.Test.YtcmhobabbklnhaaCh
import Derived.Test.YtcmhobabbklnhaaMixT
namespace Go.Proofs.Ytcmhobabbklnhaa
open Go.RowKit Go.BigFrame
attribute [local go_sem] xr_fold Oper.semAt_some

set_option maxHeartbeats 400000 in
theorem number_any (a : Option Addr) (n c : Nat) (xs : List Int) (h4 : 4 ≤ n) (hn : n ≤ 1000000000) (w0 : World) (R : Rd w0 a n c (bs xs) 1) (hB : Byt xs) :
    Calls Try.prog 116 #[.slice a n c] w0 fun e w' => e = .returned (.int .u32 (leN (xs.take 4))) ∧ St w0 [] w' := by
  have H := St.start w0
  have hl0 := leN_nonneg (hB.take 4)
  have hl1 : leN (xs.take 4) < 4294967296 := leN_lt (hB.take 4) 4 (by rw [List.length_take]; omega)
  go_enter Try.func116, Try.ntmps116
  go_wp2_with (go_at_call 28; (apply abs_calls; (repeat (first | exact H | apply St.alloc | apply St.drewN | apply St.drew | exact Upd.here | apply Upd.there | exact Del.here | apply Del.there | exact In.here | apply In.there | apply St.set)); clear H; intro w H; try simp only [World.size_alloc] at H); (with_reducible refine (Get_ok a n c xs 0 4 (by omega) (by omega) (by omega) (by omega) (by omega) _ (R.st H) hB).mono ?_); rintro e w1 ⟨rfl, hs⟩; replace H := H.call0 hs; clear hs)
  go_ret
  exact ⟨rfl, H⟩

/-- what four makes of a text: the text, 1, zeros -/
def padN (n : Nat) : Nat := (7 - n % 8)
def fullB (xs : List Int) : List Int := xs ++ [1] ++ List.replicate (padN xs.length) 0
def stepW (x : W4) (p : List Int) : W4 := oftenW 4 ⟨xr x.a (leN (p.take 4)), x.b, xr x.c (leN ((p.drop 4).take 4)), x.d⟩
def accW (f : List Int) (l : List Nat) : W4 := l.foldl (fun x j => stepW x ((f.drop (8 * j)).take 8)) ⟨1, 2, 3, 4⟩
theorem accW_snoc (f : List Int) (l : List Nat) (j : Nat) : accW f (l ++ [j]) = stepW (accW f l) ((f.drop (8 * j)).take 8) := by simp [accW]
def lastW (x : W4) (n : Nat) : W4 := oftenW 8 ⟨x.a, xr x.b (n % 4294967296), x.c, x.d⟩
def fourW (xs : List Int) : W4 := lastW (accW (fullB xs) (List.range ((fullB xs).length / 8))) xs.length

theorem fullB_len (xs : List Int) : (fullB xs).length = 8 * ((fullB xs).length / 8) := by
  simp only [fullB, padN, List.length_append, List.length_replicate, List.length_cons, List.length_nil]
  omega
theorem fullB_pos (xs : List Int) : 0 < (fullB xs).length := by simp [fullB]; omega
theorem fullB_le (xs : List Int) : (fullB xs).length ≤ xs.length + 8 := by simp [fullB, padN]
theorem fullB_byt {xs : List Int} (h : Byt xs) : Byt (fullB xs) := by
  intro x hx
  simp only [fullB, List.mem_append, List.mem_replicate, List.mem_cons, List.not_mem_nil, or_false] at hx
  rcases hx with (hx | rfl) | ⟨_, rfl⟩
  · exact h x hx
  · omega
  · omega

theorem cut0 {a a' : Option Addr} {n c c' : Nat} {w : World} {xs : List Int} (HP : Part a n c 0 a' n c' 1) (R : Rd w a n c (bs xs) 1) : Rd w a' n c' (bs xs) 1 := by
  have h := HP.rd w _ R
  have hl := R.len
  rw [Nat.zero_mul, List.drop_zero, List.take_of_length_le (by omega)] at h
  exact h


def pd (xs : List Int) (j : Nat) : List Int := xs ++ [1] ++ List.replicate j 0
theorem pd_zero (xs : List Int) : bs xs ++ [Value.int .u8 1] = bs (pd xs 0) := by simp [bs, pd]
theorem pd_succ (xs : List Int) (j : Nat) : bs (pd xs j) ++ [Value.int .u8 0] = bs (pd xs (j + 1)) := by simp [bs, pd, List.replicate_succ']
theorem pd_len (xs : List Int) (j : Nat) : (pd xs j).length = xs.length + 1 + j := by simp [pd]; omega

theorem pd_byt {xs : List Int} (h : Byt xs) (j : Nat) : Byt (pd xs j) := by
  intro x hx
  simp only [pd, List.mem_append, List.mem_replicate, List.mem_cons, List.not_mem_nil, or_false] at hx
  rcases hx with (hx | rfl) | ⟨_, rfl⟩
  · exact h x hx
  · omega
  · omega
theorem abs_in {P : Program} {c : Code} {Q : Exit → Act → World → Prop} {a : Act} {w0 W : World} {L : List Res} {F : Nat → Prop} {Fe : Fence} {n : Nat} (H : St w0 L W F) (h : ∀ w', St w0 L w' F → c.wpIn Fe n P Q a w') : c.wpIn Fe n P Q a W := h _ H
theorem St.setW {w0 w : World} {L L' : List Res} {F : Nat → Prop} {b t : Nat} {y0 y1 y2 y3 : Value} (H : St w0 L w F) (z : W4)
    (hu : Upd (.box b (.cells #[y0, y1, y2, y3] t (0, 0))) (B4 b z t) L L') :
    St w0 L' ((((w.setCell ⟨b, 0, none⟩ (.int .u32 z.a)).setCell ⟨b, 1, none⟩ (.int .u32 z.b)).setCell ⟨b, 2, none⟩ (.int .u32 z.c)).setCell ⟨b, 3, none⟩ (.int .u32 z.d)) F := H.set4 hu
theorem bodyPostM_markR {P : Program} {fn : Func} {R : Ending → World → Prop} {n : Nat} {a : Act} {w0 w : World} {v : Value} {L : List Res} {D : Nat} (H : St w0 (.box D (.deferred (some [])) :: L) w) (hd : a.defers = [{ target := .collected D, args := #[] }])
    (hr : ∀ w, St w0 (.box D (.deferred none) :: L) w → (results fn a.tmps).run P w = .ok v w) (hR : ∀ w', St w0 L w' → R (.returned v) w') : bodyPostM Fence.wide n P fn R .ret a w := by
  simp only [bodyPostM, hd, LeavesInM]
  exact ⟨by simp, .inl ⟨_, _, rfl, run_takeDeferred (H.holds _ List.mem_cons_self), v, hr _ H.unmark, hR _ (H.unmark (o' := .deferred none)).tail⟩⟩
inductive Two (r s : Res) : List Res → Prop
  | here {L} : In s L → Two r s (r :: L)
  | there {t L} : Two r s L → Two r s (t :: L)
theorem St.two {w0 w : World} {L : List Res} {F : Nat → Prop} {r s : Res} (H : St w0 L w F) (h : Two r s L) : Apart r s := by
  have key : ∀ {L : List Res}, Two r s L → L.Pairwise Apart → Apart r s := by
    intro L h
    induction h with
    | here hi => exact fun hp => (List.pairwise_cons.1 hp).1 _ hi.mem
    | there _ ih => exact fun hp => ih (List.pairwise_cons.1 hp).2
  exact key h H.apart
theorem St.rowAt {w0 w : World} {L : List Res} {F : Nat → Prop} {a : Option Addr} {n c t : Nat} {xs : List Value} (H : St w0 L w F) (hi : In (.row (.slice a n c) t 1 n xs) L) (hn : 0 < n) : ∃ g, a = some ⟨g, 0, none⟩ ∧ g < w.heap.size := by
  obtain ⟨_, h⟩ := H.holds _ hi.mem
  rcases h with ⟨hv, h0⟩ | ⟨g, cap', cur, hv, _, hg, _⟩
  · omega
  · cases hv
    exact ⟨g, rfl, (Array.getElem?_eq_some_iff.1 hg).1⟩

theorem Rd.piece {w : World} {b off n cap : Nat} {xs : List Int} (R : Rd w (some ⟨b, off, none⟩) n cap (bs xs) 1) (lo m c' : Nat) (h : lo + m ≤ n) (hm : m ≤ c') (hc' : c' ≤ maxLen) : Rd w (some ⟨b, off + lo, none⟩) m c' (bs ((xs.drop lo).take m)) 1 := by
  have hl := R.len
  rw [bs_len] at hl
  have hle := R.le
  have hmx := R.max
  refine ⟨by rw [bs_len, List.length_take, List.length_drop]; omega, hm, hc', (fun h => by cases h), bs_one _, fun i u hu => ?_⟩
  have hi : i < m := by have := (List.getElem?_eq_some_iff.1 hu).1; rw [bs_len, List.length_take] at this; omega
  have h2 : (bs xs)[lo + i]? = some u := by
    rw [bs, List.getElem?_map, List.getElem?_take, if_pos hi, List.getElem?_drop] at hu
    rw [bs, List.getElem?_map, hu]
  obtain ⟨p, hp, hc⟩ := R.cell _ _ h2
  refine ⟨_, rfl, ?_⟩
  cases hp
  have e : (Addr.add ⟨b, off, none⟩ (lo + i)) = (Addr.add ⟨b, off + lo, none⟩ i) := by
    simp only [Addr.add]
    split <;> split <;> simp <;> omega
  rw [← e]; exact hc

set_option maxHeartbeats 4000000 in
theorem four_any (a : Option Addr) (n c : Nat) (xs : List Int) (hn : n ≤ 1000000) (w0 : World) (R : Rd w0 a n c (bs xs) 1) (hB : Byt xs) :
    Calls Try.prog 83 #[.slice a n c] w0 fun e w' => e = .returned (fourW xs).v ∧ St w0 [] w' := by
  have H := St.start w0
  have hl : xs.length = n := by have := R.len; rw [bs_len] at this; omega
  have HL := Lib.hid hl
  clear hl
  refine callsIn_wide.1 (callsIn_of_wp_marks (n := 5) Try.func83 rfl trivial (wpIn_wide.2 ?_) rfl)
  simp only [Try.ntmps83, List.size_toArray, List.length_cons, List.length_nil, Nat.reduceAdd, Nat.reduceSub, Array.replicate_succ, Array.replicate_zero, List.push_toArray, List.append_toArray, List.nil_append, List.cons_append]
  go_wp2_with (first
    | (go_at_call 96; (apply abs_calls; (repeat (first | exact H | apply St.alloc | apply St.drewN | apply St.drew | exact Upd.here | apply Upd.there | exact Del.here | apply Del.there | exact In.here | apply In.there | apply St.set)); clear H; intro w H; try simp only [World.size_alloc] at H); (with_reducible refine (Clone_any a n c xs (by omega) _ (R.st H)).mono ?_); rintro e w1 ⟨a', c', rfl, hs⟩; replace H := H.call hs; clear hs)
    | (go_at_call 115; (apply abs_calls; (repeat (first | exact H | apply St.alloc | apply St.drewN | apply St.drew | exact Upd.here | apply Upd.there | exact Del.here | apply Del.there | exact In.here | apply In.there | apply St.set)); clear H; intro w H; try simp only [World.size_alloc] at H); (with_reducible refine (Clip_any _ n _ (H.rd .here (bs_one xs)).le (by omega) _).mono ?_); rintro e w2 ⟨a2, rfl, HP, hs⟩; replace H := H.call0 hs; clear hs; have R2 := cut0 HP (H.rd .here (bs_one xs)))
    | (at_builtin; (with_reducible apply y_append1_new rfl _ _ tfB rfl rfl rfl); (repeat (first | exact H | apply St.alloc | apply St.drewN | apply St.drew | exact Upd.here | apply Upd.there | exact Del.here | apply Del.there | exact In.here | apply In.there | apply St.set)); exact R2.below (fun k hk => Below.heap_alloc _ _ _ hk); omega; rfl; (unfold maxLen; omega); omega; clear H; intro a3 c3 w3 H))
  clear R2 HP
  replace H := H.drop (.there .here)
  rw [pd_zero] at H
  go_loopw [4] (fun v wr => ∃ (j : Nat) (a4 : Option Addr) (c4 : Nat), j ≤ padN n ∧ v = .slice a4 (n + 1 + j) c4 ∧ St w0 [OwB a4 (n + 1 + j) c4 (pd xs j), B4 (w0.heap.size + 1) ⟨1, 2, 3, 4⟩ 115, B4 w0.heap.size ⟨0, 0, 0, 0⟩ 115] wr) (fun v _ => n + 9 - lenOf v)
  case atStart => exact ⟨0, a3, c3, Nat.zero_le _, rfl, H⟩
  case round =>
    clear H
    obtain ⟨j, a4, c4, hj, rfl, H⟩ := hrel
    by_cases hlt : j < padN n
    · have h8 : ¬ ((n + 1 + j : Nat) : Int) % 8 = 0 := by unfold padN at hlt; omega
      unfold padN at hlt
      go_wp2_with ((at_builtin; go_must ((with_reducible apply y_append1 rfl _ _ tfB rfl rfl rfl); (repeat (first | exact H | apply St.alloc | apply St.drewN | apply St.drew | exact Upd.here | apply Upd.there | exact Del.here | apply Del.there | exact In.here | apply In.there | apply St.set)); rfl; (unfold maxLen; omega); omega; clear H; intro a cap w1 H)))
      rw [pd_succ] at H
      go_roundw
      case rel => exact ⟨j + 1, _, _, by unfold padN; omega, rfl, H⟩
      case measure => simp [lenOf]; omega
    · have h8 : ((n + 1 + j : Nat) : Int) % 8 = 0 := by unfold padN at hlt hj; omega
      go_wp2_with (first | (go_at_call 87; (apply abs_calls; (repeat (first | exact H | apply St.alloc | apply St.drewN | apply St.drew | exact Upd.here | apply Upd.there | exact Del.here | apply Del.there | exact In.here | apply In.there | apply St.set)); clear H; intro w H; try simp only [World.size_alloc] at H); (with_reducible refine (Chunk_any _ _ _ _ (by decide) _).mono ?_); rintro e w5 ⟨b1, b2, rfl, hs⟩; replace H := H.call2 hs; clear hs))
      obtain ⟨g, rfl, hgl⟩ := H.rowAt (.there (.there .here)) (by omega)
      have hgx : g ≠ w0.heap.size + 1 := H.two (.there (.there (.here .here))) g rfl
      have h1x : b1 ≠ w0.heap.size + 1 := H.two (.there (.here (.there .here))) b1 rfl
      have h2x : b2 ≠ w0.heap.size + 1 := H.two (.here (.there (.there .here))) b2 rfl
      have hb1l := (H.holds _ (.tail _ (.head _))).lt (k := b1) rfl
      have hb2l := (H.holds _ (.head _)).lt (k := b2) rfl
      have hx1 := (H.holds _ (.tail _ (.tail _ (.tail _ (.head _))))).lt (k := w0.heap.size + 1) rfl
      have hB1 : w5.cell? ⟨b1, 0, none⟩ = some (.slice (some ⟨g, 0, none⟩) (n + 1 + j) c4) := H.cell (.there .here) rfl
      have hB2 : w5.cell? ⟨b2, 0, none⟩ = some (.int .i64 (8 : Nat)) := H.cell .here rfl
      have hj' : j = padN n := by omega
      have HJ := Lib.hid hj'
      obtain ⟨m, hm⟩ : ∃ m, n + 1 + j = 8 * m := ⟨(n + 1 + j) / 8, by omega⟩
      have R4 := H.rd (.there (.there .here)) (bs_one _)
      rw [hm] at H hB1 R4
      have hm2 : 8 * m ≤ 2000000 := by rw [← hm, hj']; unfold padN; omega
      have HM := Lib.hid hm
      have hseq := chunk_stops 4 b1 b2 w5.heap.size (w0.heap.size + 1) 8 m (by decide) g 0 (8 * m) c4 rfl R4.le (by omega) (by decide) hb1l h1x hb2l h2x w5 (Nat.le_refl _) hB1 hB2
      have hsz1 := H.size
      have hxs : (pd xs j).length = 8 * m := by rw [pd_len, HL.out]; exact hm
      clear hB1 hB2 R4 h8 hj hlt hj' hm
      refine (wpIn_wide (n := 5)).1 ?_
      apply wpIn_rangeFunc_ownF (F := Fence.wide) (n := 5) rfl (by omega) (gf := 119) (lb := #[.pointer (some ⟨b1, 0, none⟩), .pointer (some ⟨b2, 0, none⟩)]) rfl trivial (Go.Proofs.enters_of Try.func119 (by kernel_rfl) rfl) hseq
        (fun h k => h.trans k) (fun W l o o' hl _ _ _ => Kx.put W l o' hl) (Below.refl _ _) (fun _ => rfl)
        (fun pre W => w5.heap.size ≤ W.heap.size ∧ St w0 [.box b2 (.cells #[.int .i64 8] 3 (0, 0)), .box b1 (.cells #[.slice (some ⟨g, 0, none⟩) (8 * m) c4] 22 (0, 0)), OwB (some ⟨g, 0, none⟩) (8 * m) c4 (pd xs j), B4 (w0.heap.size + 1) (accW (pd xs j) (pre.map Fin.val)) 115, B4 w0.heap.size ⟨0, 0, 0, 0⟩ 115] W)
        (fun _ _ _ => False) (ownFrom_st2 (by simp [Res.plain]) H.size) (fun _ _ _ _ _ h _ _ => h) ⟨Nat.le_refl _, H⟩
      · intro l x W K hK
        gi_wp2
        exact hK
      · rintro l pre x W ⟨hsz, H0⟩ _
        refine wpIn_block ?_
        have H := St.startBox W (w0.heap.size + 1) _ (H0.heap (.there (.there (.there .here))))
        have hx := x.isLt
        have R8 := (H0.rd (.there (.there .here)) (bs_one _)).stF H (fun p hp _ => by cases hp; exact hgx)
        obtain ⟨p, hp⟩ : ∃ p, p = ((pd xs j).drop (8 * x.val)).take 8 := ⟨_, rfl⟩
        obtain ⟨y, hy⟩ : ∃ y, y = accW (pd xs j) (pre.map Fin.val) := ⟨_, rfl⟩
        have Ra : Rd W (some ⟨g, 8 * x.val, none⟩) 4 8 (bs (p.take 4)) 1 := by
          have := R8.piece (8 * x.val) 4 8 (by omega) (by omega) (by unfold maxLen; omega)
          rw [Nat.zero_add] at this
          rw [hp, List.take_take]; exact this
        have Rb : Rd W (some ⟨g, 8 * x.val + 4, none⟩) 4 4 (bs (p.drop 4)) 1 := by
          have := R8.piece (8 * x.val + 4) 4 4 (by omega) (by omega) (by unfold maxLen; omega)
          rw [Nat.zero_add] at this
          rw [hp, List.drop_take, List.drop_drop]; exact this
        have hpB : Byt p := by rw [hp]; exact ((pd_byt hB j).drop _).take _
        rw [← hy] at H
        have HP := Lib.hid hp
        have HY := Lib.hid hy
        have hF : ∀ q, some (⟨g, 8 * x.val, none⟩ : Addr) = some q → 0 < (bs (p.take 4)).length → q.block ≠ w0.heap.size + 1 := fun q hq _ => by cases hq; exact hgx
        have hF' : ∀ q, some (⟨g, 8 * x.val + 4, none⟩ : Addr) = some q → 0 < (bs (p.drop 4)).length → q.block ≠ w0.heap.size + 1 := fun q hq _ => by cases hq; exact hgx
        have HRa := Lib.hid Ra
        have HRb := Lib.hid Rb
        clear hp hy R8 Ra Rb
        refine wpIn_seq ?_
        obtain ⟨q0, q1, q2, q3⟩ := H.of4 (b := w0.heap.size + 1) (by (repeat (first | exact H | apply St.alloc | apply St.drewN | apply St.drew | exact Upd.here | apply Upd.there | exact Del.here | apply Del.there | exact In.here | apply In.there | apply St.set)))
        (have hne := Nonempty.intro (Wd.mk _ H); refine y_quiet_tail_rn 6 H (by kernel_rfl) (by kernel_rfl) (by kernel_rfl) (letsOut_then (letsOut_inBlock letsOut_own)) ?_; simp only [List.take_succ_cons, List.take_zero, List.drop_succ_cons, List.drop_zero]; (repeat (go_big_quiet_step ((go_at_call 116; exact quiet_call _ (number_any _ 4 8 (p.take 4) (by omega) (by omega) _ (HRa.out.stF (Wd.st _) hF) (hpB.take 4)))))); refine wpQuiet_nil ?_; clear H hne; rintro _ ⟨⟨w, H⟩, rfl⟩)
        clear q0 q1 q2 q3
        obtain ⟨c0, c1, c2, c3, fc⟩ := H.cells4 (b := w0.heap.size + 1) (by (repeat (first | exact H | apply St.alloc | apply St.drewN | apply St.drew | exact Upd.here | apply Upd.there | exact Del.here | apply Del.there | exact In.here | apply In.there | apply St.set)))
        go_wp2
        (apply abs_in; (repeat (first | exact H | apply St.alloc | apply St.drewN | apply St.drew | exact Upd.here | apply Upd.there | exact Del.here | apply Del.there | exact In.here | apply In.there | apply St.set)); clear H; intro w H; simp only [List.setIfInBounds_toArray, List.set_cons_zero, List.set_cons_succ] at H)
        clear c0 c1 c2 c3 fc
        refine wpIn_seq ?_
        obtain ⟨q0, q1, q2, q3⟩ := H.of4 (b := w0.heap.size + 1) (by (repeat (first | exact H | apply St.alloc | apply St.drewN | apply St.drew | exact Upd.here | apply Upd.there | exact Del.here | apply Del.there | exact In.here | apply In.there | apply St.set)))
        (have hne := Nonempty.intro (Wd.mk _ H); refine y_quiet_tail_rn 6 H (by kernel_rfl) (by kernel_rfl) (by kernel_rfl) (letsOut_then (letsOut_inBlock letsOut_own)) ?_; simp only [List.take_succ_cons, List.take_zero, List.drop_succ_cons, List.drop_zero]; (repeat (go_big_quiet_step ((go_at_call 116; exact quiet_call _ (number_any _ 4 4 (p.drop 4) (by omega) (by omega) _ (HRb.out.stF (Wd.st _) hF') (hpB.drop 4)))))); refine wpQuiet_nil ?_; clear H hne; rintro _ ⟨⟨w, H⟩, rfl⟩)
        clear q0 q1 q2 q3
        obtain ⟨c0, c1, c2, c3, fc⟩ := H.cells4 (b := w0.heap.size + 1) (by (repeat (first | exact H | apply St.alloc | apply St.drewN | apply St.drew | exact Upd.here | apply Upd.there | exact Del.here | apply Del.there | exact In.here | apply In.there | apply St.set)))
        go_wp2
        (apply abs_in; (repeat (first | exact H | apply St.alloc | apply St.drewN | apply St.drew | exact Upd.here | apply Upd.there | exact Del.here | apply Del.there | exact In.here | apply In.there | apply St.set)); clear H; intro w H; simp only [List.setIfInBounds_toArray, List.set_cons_zero, List.set_cons_succ] at H)
        clear c0 c1 c2 c3 fc
        obtain ⟨c0, c1, c2, c3, fc⟩ := H.cells4 (b := w0.heap.size + 1) (by (repeat (first | exact H | apply St.alloc | apply St.drewN | apply St.drew | exact Upd.here | apply Upd.there | exact Del.here | apply Del.there | exact In.here | apply In.there | apply St.set)))
        refine region_rn (by kernel_rfl) (letsOut_inBlock letsOut_own) ?_
        go_wp2_with (go_at_call 117; (apply abs_calls; (repeat (first | exact H | apply St.alloc | apply St.drewN | apply St.drew | exact Upd.here | apply Upd.there | exact Del.here | apply Del.there | exact In.here | apply In.there | apply St.set)); clear H; intro w H; try simp only [World.size_alloc] at H); (with_reducible refine (often_any ⟨xr y.a (leN ((p.take 4).take 4)), y.b, xr y.c (leN ((p.drop 4).take 4)), y.d⟩ 4 (by decide) (by decide) _).mono ?_); rintro e w1 ⟨rfl, hs⟩; replace H := H.call0 hs; clear hs; obtain ⟨d0, d1, d2, d3, fz⟩ := H.cells4 (b := w0.heap.size + 1) (by (repeat (first | exact H | apply St.alloc | apply St.drewN | apply St.drew | exact Upd.here | apply Upd.there | exact Del.here | apply Del.there | exact In.here | apply In.there | apply St.set))))
        have e : accW (pd xs j) ((pre ++ [x]).map Fin.val) = oftenW 4 ⟨xr y.a (leN ((p.take 4).take 4)), y.b, xr y.c (leN ((p.drop 4).take 4)), y.d⟩ := by
          rw [List.map_append, List.map_singleton, accW_snoc, ← HP.out, ← HY.out, List.take_take]; rfl
        generalize oftenW 4 ⟨xr y.a (leN ((p.take 4).take 4)), y.b, xr y.c (leN ((p.drop 4).take 4)), y.d⟩ = z at e H ⊢
        replace H := H.setW z (by (repeat (first | exact H | apply St.alloc | apply St.drewN | apply St.drew | exact Upd.here | apply Upd.there | exact Del.here | apply Del.there | exact In.here | apply In.there | apply St.set)))
        have h := round_end H0 H .here (.there (.there (.there .here))) hsz
        exact ⟨h.1, h.2.1, h.2.2.1, by rw [e]; exact h.2.2.2⟩
      · rintro D zs W hD hz ⟨hsD, H⟩ hK
        rw [hz] at H
        have ef : pd xs j = fullB xs := by rw [HJ.out, ← HL.out]; rfl
        have em : m = (fullB xs).length / 8 := by rw [← ef, hxs]; omega
        obtain ⟨y, hy⟩ : ∃ y, y = accW (pd xs j) (List.range m) := ⟨_, rfl⟩
        have ey : fourW xs = lastW y xs.length := by rw [hy, fourW, ef, em]
        rw [← hy] at H
        replace H := H.mark (by simp [Res.plain]) (Nat.le_trans hsz1 hD) hK rfl
        have HY := Lib.hid ey
        clear ef em hy ey hz hxs
        obtain ⟨c0, c1, c2, c3, fc⟩ := H.cells4 (b := w0.heap.size + 1) (by (repeat (first | exact H | apply St.alloc | apply St.drewN | apply St.drew | exact Upd.here | apply Upd.there | exact Del.here | apply Del.there | exact In.here | apply In.there | apply St.set)))
        go_wp2_with (go_at_call 117; (apply abs_calls; (repeat (first | exact H | apply St.alloc | apply St.drewN | apply St.drew | exact Upd.here | apply Upd.there | exact Del.here | apply Del.there | exact In.here | apply In.there | apply St.set)); clear H; intro w H; try simp only [World.size_alloc] at H); (with_reducible refine (often_any ⟨y.a, xr y.b n, y.c, y.d⟩ 8 (by decide) (by decide) _).mono ?_); rintro e w1 ⟨rfl, hs⟩; replace H := H.call0 hs; clear hs; obtain ⟨d0, d1, d2, d3, fz⟩ := H.cells4 (b := w0.heap.size) (by (repeat (first | exact H | apply St.alloc | apply St.drewN | apply St.drew | exact Upd.here | apply Upd.there | exact Del.here | apply Del.there | exact In.here | apply In.there | apply St.set))))
        have e : fourW xs = oftenW 8 ⟨y.a, xr y.b n, y.c, y.d⟩ := by rw [HY.out, lastW, HL.out]; congr; omega
        rw [e]
        generalize oftenW 8 ⟨y.a, xr y.b n, y.c, y.d⟩ = z at H ⊢
        replace H := H.setW (b := w0.heap.size) z (by (repeat (first | exact H | apply St.alloc | apply St.drewN | apply St.drew | exact Upd.here | apply Upd.there | exact Del.here | apply Del.there | exact In.here | apply In.there | apply St.set)))
        exact bodyPostM_markR H rfl (fun w h => results_cell_row rfl _ _ _ _ _ (0, 0) _ rfl (h.heap (.there (.there (.there (.there (.there .here)))))) undW rfl (by simpa using szW)) fun w' hs => ⟨rfl, st_drop hs⟩
      · rintro D c pre W hD _ h _
        exact h.elim

end Go.Proofs.Ytcmhobabbklnhaa
