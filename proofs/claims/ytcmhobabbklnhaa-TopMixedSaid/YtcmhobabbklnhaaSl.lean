/- Walks and laws behind the proofs of the given rows of this seat (each: the law returns true whatever the input, and the input reads as it did). Conditions: none. -/
import Derived.Test.YtcmhobabbklnhaaSt
import Derived.Laws.AppendOwnNone
import Derived.Maps.AppendAt
import Derived.Deep.AppendLies
namespace Go.Proofs.Ytcmhobabbklnhaa
open Go.RowKit

variable {F : Nat → Prop}

theorem Apart.symm {r s : Res} (h : Apart r s) : Apart s r := fun k hk hk' => h k hk' hk
theorem St.perm {w0 w : World} {L L' : List Res} (H : St w0 L w F) (h : L.Perm L') : St w0 L' w F :=
  ⟨H.os, H.tape, H.output, H.size, H.block, fun r hr => H.holds r (h.mem_iff.2 hr), fun r hr => H.own r (h.mem_iff.2 hr), h.pairwise H.apart Apart.symm⟩
/-- L is r and L2 -/
inductive Del (r : Res) : List Res → List Res → Prop
  | here {L} : Del r (r :: L) L
  | there {s L L2} : Del r L L2 → Del r (s :: L) (s :: L2)
theorem Del.perm {r : Res} {L L2 : List Res} (h : Del r L L2) : L.Perm (r :: L2) := by
  induction h with
  | here => exact .refl _
  | there _ ih => exact (ih.cons _).trans (.swap _ _ _)
theorem St.front {w0 w : World} {L L2 : List Res} {r : Res} (H : St w0 L w F) (h : Del r L L2) : St w0 (r :: L2) w F := H.perm h.perm
theorem St.drop {w0 w : World} {L L2 : List Res} {r : Res} (H : St w0 L w F) (h : Del r L L2) : St w0 L2 w F := (H.front h).sub (List.sublist_cons_self _ _)
theorem St.tail {w0 w : World} {L : List Res} {r : Res} (H : St w0 (r :: L) w F) : St w0 L w F := H.sub (List.sublist_cons_self _ _)

/-- the slice value with this address, length and capacity reads as xs (elements of sz cells) -/
structure Rd (w : World) (a : Option Addr) (n cap : Nat) (xs : List Value) (sz : Nat) : Prop where
  len : xs.length = n * sz
  le : n ≤ cap
  max : cap ≤ maxLen
  nil : a = none → cap = 0
  one : ∀ u ∈ xs, u.oneCell' = true
  cell : ∀ i u, xs[i]? = some u → ∃ p, a = some p ∧ w.cell? (p.add i) = some u

theorem Rd.below {w w' : World} {a : Option Addr} {n cap sz : Nat} {xs : List Value} (R : Rd w a n cap xs sz) (h : ∀ k, k < w.heap.size → w'.heap[k]? = w.heap[k]?) : Rd w' a n cap xs sz :=
  ⟨R.len, R.le, R.max, R.nil, R.one, fun i u hu => by
    obtain ⟨p, hp, hc⟩ := R.cell i u hu
    refine ⟨p, hp, ?_⟩
    rw [World.cell?_of_block (w := w)]
    · exact hc
    · exact h _ (World.block_lt_of_cell? w _ hc)⟩
theorem Rd.st {w0 w : World} {L : List Res} {a : Option Addr} {n cap sz : Nat} {xs : List Value} (R : Rd w0 a n cap xs sz) (H : St w0 L w) : Rd w a n cap xs sz := R.below fun k hk => H.block k hk trivial

theorem Rd.stF {w0 w : World} {L : List Res} {a : Option Addr} {n cap sz : Nat} {xs : List Value} (R : Rd w0 a n cap xs sz) (H : St w0 L w F) (hF : ∀ p, a = some p → 0 < xs.length → F p.block) : Rd w a n cap xs sz :=
  ⟨R.len, R.le, R.max, R.nil, R.one, fun i u hu => by
    obtain ⟨p, hp, hc⟩ := R.cell i u hu
    refine ⟨p, hp, ?_⟩
    have hlt : i < xs.length := (List.getElem?_eq_some_iff.1 hu).1
    have hb : (p.add i).block = p.block := by unfold Addr.add; split <;> rfl
    have h1 := World.block_lt_of_cell? w0 _ hc
    rw [World.cell?_of_block (w := w0)]
    · exact hc
    · rw [hb] at h1 ⊢; exact H.block _ h1 (hF p hp (by omega))⟩

theorem St.rd {w0 w : World} {L : List Res} {a : Option Addr} {n cap sz t : Nat} {xs : List Value} (H : St w0 L w F) (hi : In (.row (.slice a n cap) t sz n xs) L) (h1 : ∀ u ∈ xs, u.oneCell' = true) : Rd w a n cap xs sz := by
  obtain ⟨hl, h⟩ := H.holds _ hi.mem
  rcases h with ⟨hv, hn⟩ | ⟨g, cap', cur, hv, _, hg, hnc, hcm, hcs, htake⟩
  · cases hv
    have hx : xs = [] := List.eq_nil_of_length_eq_zero (by simpa [hn] using hl)
    subst hx
    exact ⟨hl, Nat.le_refl _, Nat.zero_le _, fun _ => rfl, h1, fun i u hu => by simp at hu⟩
  · cases hv
    refine ⟨hl, hnc, hcm, (fun h => by cases h), h1, fun i u hu => ⟨_, rfl, ?_⟩⟩
    have hadd : (⟨g, 0, none⟩ : Addr).add i = ⟨g, i, none⟩ := by unfold Addr.add; split <;> simp_all
    rw [hadd, cell_of_row w g i cur t (0, 0) hg]
    rw [← htake, List.getElem?_take] at hu
    split at hu
    · simpa using hu
    · cases hu
/-- the cells of a box read as a slice -/
theorem St.rdBox {w0 w : World} {L : List Res} {b n sz t : Nat} {cur : Array Value} (H : St w0 L w F) (hi : In (.box b (.cells cur t (0, 0))) L) (hn : cur.size = n * sz) (hm : n ≤ maxLen) (h1 : ∀ u ∈ cur.toList, u.oneCell' = true) :
    Rd w (some ⟨b, 0, none⟩) n n cur.toList sz := by
  refine ⟨by simpa using hn, Nat.le_refl _, hm, (fun h => by cases h), h1, fun i u hu => ⟨_, rfl, ?_⟩⟩
  have hadd : (⟨b, 0, none⟩ : Addr).add i = ⟨b, i, none⟩ := by unfold Addr.add; split <;> simp_all
  rw [hadd]
  exact H.cell hi (by simpa using hu)
/-- a box that was filled by the call becomes a row of its own -/
theorem St.ownBox {w0 w : World} {L L' : List Res} {b n sz t : Nat} {cur : Array Value} (H : St w0 L w F)
    (hu : Upd (.box b (.cells cur t (0, 0))) (.row (.slice (some ⟨b, 0, none⟩) n n) t sz n cur.toList) L L') (hn : cur.size = n * sz) (hm : n ≤ maxLen) : St w0 L' w F :=
  H.turn hu (fun _ _ _ => rfl) rfl rfl rfl (Nat.le_refl _)
    ⟨by simpa using hn, .inr ⟨b, n, cur, rfl, Nat.zero_le _, H.holds _ hu.mem, Nat.le_refl _, hm, hn, List.take_of_length_le (by simp [hn])⟩⟩
    (fun k hk => .inl (by cases hk; rfl))

theorem Rd.nilR (w : World) (sz : Nat) : Rd w none 0 0 [] sz := ⟨by simp, Nat.le_refl _, Nat.zero_le _, fun _ => rfl, (by simp), fun i u hu => by simp at hu⟩

theorem Rd.at {w : World} {a : Option Addr} {n cap sz : Nat} {xs : List Value} (R : Rd w a n cap xs sz) (hn : 0 < xs.length) :
    ∃ b off, a = some ⟨b, off, none⟩ ∧ ∀ i u, xs[i]? = some u → w.cell? ⟨b, off + i, none⟩ = some u := by
  have h0 : xs[0]? = some xs[0] := List.getElem?_eq_getElem hn
  obtain ⟨p, hp, hc⟩ := R.cell 0 _ h0
  have hs : p.spot = none := by
    have : (p.add 0) = p := by simp [Addr.add]
    rw [this] at hc
    unfold World.cell? at hc
    split at hc
    · split at hc
      · cases hc
      · rename_i h; simpa using h
    · cases hc
  obtain ⟨b, off, sp⟩ := p
  simp only at hs
  subst hs
  refine ⟨b, off, hp, fun i u hu => ?_⟩
  obtain ⟨p', hp', hc'⟩ := R.cell i u hu
  rw [hp] at hp'
  cases hp'
  have hadd : (⟨b, off, none⟩ : Addr).add i = ⟨b, off + i, none⟩ := by unfold Addr.add; split <;> simp_all
  rw [← hadd]; exact hc'

structure TF (P : Program) (t e : TypeId) (z : Value) (sz bytes : Nat) : Prop where
  ht : P.underlying t = some (.slice e)
  info : (P.info? e).map (fun i => (i.zero, i.size, i.bytes)) = some (some z, sz, bytes)
  zs : z.cells.size = sz
  pos : 0 < sz

section
variable {P : Program} {w0 W : World} {L L2 : List Res} {ops : Array Oper} {rest : List Oper} {o : Oper} {a : Act} {Q : Exit → Act → World → Prop}

theorem run_append_st {t e : TypeId} {z : Value} {sz bytes : Nat} (tf : TF P t e z sz bytes) (ty : TypeId) (H : St w0 L W F) {av : Option Addr} {n cap : Nat} {xs : List Value} (hd : Del (.row (.slice av n cap) e sz n xs) L L2)
    {b : Option Addr} {m c : Nat} {ys : List Value} (R : Rd W b m c ys sz) (h63 : n + m ≤ maxLen) (hby : (n + m) * bytes ≤ 140737488355328) :
    ∃ a' cap' w', (Builtin.append_ #[t, t] ty #[.slice av n cap, .slice b m c]).run P W = .ok (.slice a' (n + m) cap') w' ∧ St w0 (.row (.slice a' (n + m) cap') e sz (n + m) (xs ++ ys) :: L2) w' F := by
  obtain ⟨ht, info, zs, pos⟩ := tf
  obtain ⟨i0, hi, hz0, hz1, hz2⟩ := info_parts info
  have H1 := H.front hd
  have hrow : W.ownsRow 0 e sz (.slice av n cap) n xs := H1.holds _ List.mem_cons_self
  have hkey : ∀ v' w', (Builtin.append_ #[t, t] ty #[.slice av n cap, .slice b m c]).run P W = .ok v' w' → w'.ownsRow 0 e sz v' (n + m) (xs ++ ys) → W.grownBy w' (Value.ownBlock (.slice av n cap)) → (∀ k, v'.ownBlock = some k → Value.ownBlock (.slice av n cap) = some k ∨ W.heap.size ≤ k) →
      ∃ a' cap' w', (Builtin.append_ #[t, t] ty #[.slice av n cap, .slice b m c]).run P W = .ok (.slice a' (n + m) cap') w' ∧ St w0 (.row (.slice a' (n + m) cap') e sz (n + m) (xs ++ ys) :: L2) w' F := by
    intro v' w' hr hown' hg hfp
    have hv' : ∃ a' cap', v' = .slice a' (n + m) cap' := by
      rcases hown'.2 with ⟨rfl, h0⟩ | ⟨g, cap', cur, rfl, _⟩
      · exact ⟨none, 0, by rw [h0]⟩
      · exact ⟨_, _, rfl⟩
    obtain ⟨a', cap', rfl⟩ := hv'
    exact ⟨a', cap', w', hr, H1.turn .here (fun k hk hne => hg.block k hk fun e => hne e.symm) hg.os hg.tape hg.output hg.size hown' hfp⟩
  cases b with
  | none =>
    have hc := R.nil rfl
    have hm : m = 0 := by have := R.le; omega
    subst hm
    have hys : ys = [] := List.eq_nil_of_length_eq_zero (by simpa using R.len)
    subst hys
    subst hc
    have hrun := run_append_owned_none (P := P) (w := W) 0 t ty e i0 sz ht hi _ n xs hrow
    exact hkey _ _ hrun (by simpa using hrow) (World.grownBy.refl _ _) (fun k hk => .inl hk)
  | some ad =>
    obtain ⟨v', w', hr, h2, h3, _, h5⟩ := run_append_own_at (P := P) W 0 t ty e i0 z sz bytes ht hi hz0 hz1 hz2 zs pos _ n xs hrow ad m c ys R.len
      (fun j u hu => by obtain ⟨p, hp, hc⟩ := R.cell j u hu; cases hp; exact hc) R.one h63 hby (Nat.zero_le _)
    refine hkey v' w' hr h2 h3 fun k hk => ?_
    rcases h5 with h5 | h5
    · exact .inl (by rw [← h5]; exact hk)
    · exact .inr (by rw [hk] at h5; cases h5; exact Nat.le_refl _)

theorem wp_append_st {K : Act → World → Prop} (s x : Operand) {t e : TypeId} {z : Value} {sz bytes : Nat} (tf : TF P t e z sz bytes) (ho : o.op = .call { callee := .builtin .append, args := #[s, x], argTypes := #[t, t] })
    (H : St w0 L W F) {av : Option Addr} {n cap : Nat} {xs : List Value} (hs : a.eval s = .slice av n cap) (hd : Del (.row (.slice av n cap) e sz n xs) L L2)
    {b : Option Addr} {m c : Nat} {ys : List Value} (hx : a.eval x = .slice b m c) (R : Rd W b m c ys sz)
    (h63 : n + m ≤ maxLen) (hby : (n + m) * bytes ≤ 140737488355328)
    (h : ∀ a' cap' w', St w0 (.row (.slice a' (n + m) cap') e sz (n + m) (xs ++ ys) :: L2) w' F → K (a.put o.dst (.slice a' (n + m) cap')) w') : o.wp P a W K Q := by
  obtain ⟨a', cap', w', hr, hst⟩ := run_append_st tf o.type H hd R h63 hby
  unfold Oper.wp execOp
  simp only [ho, resolve, invoke, builtin, Sem.run_bind, Sem.run_pure, Result.andThen_ok, List.map_toArray, List.map_cons, List.map_nil, hs, hx, hr]
  exact h a' cap' w' hst

theorem y_append (hgd : o.guard = none) (s x : Operand) {t e : TypeId} {z : Value} {sz bytes : Nat} (tf : TF P t e z sz bytes) (ho : o.op = .call { callee := .builtin .append, args := #[s, x], argTypes := #[t, t] })
    {av : Option Addr} {n cap : Nat} {xs : List Value} (hs : a.eval s = .slice av n cap) {b : Option Addr} {m c : Nat} {ys : List Value} (hx : a.eval x = .slice b m c)
    (H : St w0 L W F) (hd : Del (.row (.slice av n cap) e sz n xs) L L2) (R : Rd W b m c ys sz)
    (h63 : n + m ≤ maxLen) (hby : (n + m) * bytes ≤ 140737488355328)
    (h : ∀ a' cap' w', St w0 (.row (.slice a' (n + m) cap') e sz (n + m) (xs ++ ys) :: L2) w' F → wpList P ops Q rest (a.put o.dst (.slice a' (n + m) cap')) w') : wpList P ops Q (o :: rest) a W :=
  wpList_plain hgd fun _ hK => wp_append_st s x tf ho H hs hd hx R h63 hby fun a' cap' w' hst => hK _ _ (h a' cap' w' hst)

/-- 'append(s, x)': the one element lies in a block of its own, which is dropped -/
theorem y_append1 {L3 : List Res} (hgd : o.guard = none) (s x : Operand) {t e : TypeId} {z : Value} {bytes : Nat} (tf : TF P t e z 1 bytes) (ho : o.op = .call { callee := .builtin .append, args := #[s, x], argTypes := #[t, t] })
    {av : Option Addr} {n cap : Nat} {xs : List Value} (hs : a.eval s = .slice av n cap) {b : Nat} {u : Value} (hx : a.eval x = .slice (some ⟨b, 0, none⟩) 1 1)
    (H : St w0 L W F) (hd : Del (.row (.slice av n cap) e 1 n xs) L L2) (hb : Del (.box b (.cells #[u] e (0, 0))) L2 L3) (hu : u.oneCell' = true)
    (h63 : n + 1 ≤ maxLen) (hby : (n + 1) * bytes ≤ 140737488355328)
    (h : ∀ a' cap' w', St w0 (.row (.slice a' (n + 1) cap') e 1 (n + 1) (xs ++ [u]) :: L3) w' F → wpList P ops Q rest (a.put o.dst (.slice a' (n + 1) cap')) w') : wpList P ops Q (o :: rest) a W := by
  have H2 := (H.drop hd).front hb
  have R : Rd W (some ⟨b, 0, none⟩) 1 1 [u] 1 := H2.rdBox .here rfl (by unfold maxLen; omega) (by simpa using hu)
  exact y_append hgd s x tf ho hs hx (H.front hd) .here R h63 hby fun a' cap' w' hst => h a' cap' w' (hst.perm (hb.perm.cons _ |>.trans (.swap _ _ _))).tail

/-- a part of a slice: whatever reads as xs, its part reads as the part of xs -/
structure Part (a : Option Addr) (n cap lo : Nat) (a' : Option Addr) (m c' sz : Nat) : Prop where
  rd : ∀ (V : World) (xs : List Value), Rd V a n cap xs sz → Rd V a' m c' ((xs.drop (lo * sz)).take (m * sz)) sz
  blk : ∀ p', a' = some p' → ∃ p, a = some p ∧ p'.block = p.block

theorem part_of {a : Option Addr} {n cap lo hi mx sz : Nat} (h1 : lo ≤ hi) (h2 : hi ≤ n) (h3 : hi ≤ mx) (h4 : mx ≤ cap) (h5 : n ≤ cap) : Part a n cap lo (if mx = lo then a else a.map (·.add (lo * sz))) (hi - lo) (mx - lo) sz := by
  refine ⟨fun V xs R => ?_, fun p' hp' => ?_⟩
  · have hl := R.len
    have hlen : ((xs.drop (lo * sz)).take ((hi - lo) * sz)).length = (hi - lo) * sz := by
      rw [List.length_take, List.length_drop, hl]
      have e1 : (hi - lo) * sz = hi * sz - lo * sz := Nat.sub_mul _ _ _
      have e2 : hi * sz ≤ n * sz := Nat.mul_le_mul_right _ h2
      omega
    refine ⟨hlen, by omega, by have := R.max; omega, fun h => ?_, fun u hu => R.one u (List.mem_of_mem_drop (List.mem_of_mem_take hu)), fun i u hu => ?_⟩
    · by_cases e : mx = lo
      · omega
      · rw [if_neg e] at h
        have := R.nil (by simpa using h)
        omega
    · rw [List.getElem?_take] at hu
      split at hu
      · rename_i hi'
        rw [List.getElem?_drop] at hu
        obtain ⟨p, hp, hc⟩ := R.cell _ u hu
        by_cases e : mx = lo
        · exfalso
          have : hi - lo = 0 := by omega
          rw [this] at hi'
          omega
        · rw [if_neg e, hp]
          refine ⟨_, rfl, ?_⟩
          have : (p.add (lo * sz)).add i = p.add (lo * sz + i) := by
            unfold Addr.add
            by_cases h0 : lo * sz = 0
            · simp [h0]
            · by_cases hi0 : i = 0
              · subst hi0; simp [h0]
              · simp [h0, hi0, Nat.add_assoc]
          rw [this]; exact hc
      · cases hu
  · by_cases e : mx = lo
    · rw [if_pos e] at hp'; exact ⟨p', hp', rfl⟩
    · rw [if_neg e] at hp'
      cases a with
      | none => cases hp'
      | some p =>
        simp at hp'
        exact ⟨p, rfl, by rw [← hp']; unfold Addr.add; split <;> rfl⟩

theorem size_of_info {e : TypeId} {z : Value} {sz bytes : Nat} (info : (P.info? e).map (fun i => (i.zero, i.size, i.bytes)) = some (some z, sz, bytes)) (W : World) : (sizeOf e).run P W = .ok sz W := by
  obtain ⟨i, hi, _, h, _⟩ := info_parts info
  simp [sizeOf, typeInfo, hi, h]

theorem elem_of {t e : TypeId} (ht : P.underlying t = some (.slice e)) : P.elem t = e ∧ P.underlying t = some (.slice (P.elem t)) := by simp [Program.elem, ht]

theorem y_slice_lh (hgd : o.guard = none) (x l h : Operand) {t e : TypeId} {z : Value} {sz bytes : Nat} (tf : TF P t e z sz bytes) (ho : o.op = .slice t x (some l) (some h) none)
    {av : Option Addr} {n cap : Nat} {lo hi : Int} (hx : a.eval x = .slice av n cap) (hl : a.eval l = .int .i64 lo) (hh : a.eval h = .int .i64 hi) (h0 : 0 ≤ lo) (h1 : lo ≤ hi) (h2 : hi ≤ n) (h3 : n ≤ cap)
    (hk : ∀ a' c', Part av n cap lo.toNat a' (hi - lo).toNat c' sz → wpList P ops Q rest (a.put o.dst (.slice a' (hi - lo).toNat c')) W) : wpList P ops Q (o :: rest) a W := by
  obtain ⟨e1, e2⟩ := elem_of tf.ht
  refine wpList_plain hgd fun K hK => ?_
  unfold Oper.wp execOp
  simp only [ho, hx, hl, hh, Option.map_some, Option.map_none]
  rw [Sem.run_bind, run_sliceAt_slice (P := P) (w := W) t _ _ _ _ e2, run_slice_lh (P := P) (w := W) t av n cap e2 .i64 .i64 lo hi h0 h1 (by omega), e1, size_of_info tf.info]
  simp only [Result.andThen, Sem.run_pure]
  refine hK _ _ ?_
  have hp := part_of (a := av) (n := n) (cap := cap) (lo := lo.toNat) (hi := hi.toNat) (mx := cap) (sz := sz) (by omega) (by omega) (by omega) (Nat.le_refl _) h3
  have em : hi.toNat - lo.toNat = (hi - lo).toNat := by omega
  rw [em] at hp
  have := hk _ _ hp
  rw [← em] at this
  exact this

theorem y_slice_h (hgd : o.guard = none) (x h : Operand) {t e : TypeId} {z : Value} {sz bytes : Nat} (tf : TF P t e z sz bytes) (ho : o.op = .slice t x none (some h) none)
    {av : Option Addr} {n cap : Nat} {hi : Int} (hx : a.eval x = .slice av n cap) (hh : a.eval h = .int .i64 hi) (h0 : 0 ≤ hi) (h2 : hi ≤ n) (h3 : n ≤ cap)
    (hk : ∀ a' c', Part av n cap 0 a' hi.toNat c' sz → wpList P ops Q rest (a.put o.dst (.slice a' hi.toNat c')) W) : wpList P ops Q (o :: rest) a W := by
  obtain ⟨e1, e2⟩ := elem_of tf.ht
  refine wpList_plain hgd fun K hK => ?_
  unfold Oper.wp execOp
  simp only [ho, hx, hh, Option.map_some, Option.map_none]
  rw [Sem.run_bind, run_sliceAt_slice (P := P) (w := W) t _ _ _ _ e2, run_slice_h (P := P) (w := W) t av n cap e2 .i64 hi h0 (by omega), e1, size_of_info tf.info]
  simp only [Result.andThen, Sem.run_pure]
  exact hK _ _ (hk _ _ (part_of (a := av) (n := n) (cap := cap) (lo := 0) (hi := hi.toNat) (mx := cap) (sz := sz) (by omega) (by omega) (by omega) (Nat.le_refl _) h3))

theorem y_slice_l (hgd : o.guard = none) (x l : Operand) {t e : TypeId} {z : Value} {sz bytes : Nat} (tf : TF P t e z sz bytes) (ho : o.op = .slice t x (some l) none none)
    {av : Option Addr} {n cap : Nat} {lo : Int} (hx : a.eval x = .slice av n cap) (hl : a.eval l = .int .i64 lo) (h0 : 0 ≤ lo) (h1 : lo ≤ n) (h3 : n ≤ cap)
    (hk : ∀ a' c', Part av n cap lo.toNat a' (n - lo).toNat c' sz → wpList P ops Q rest (a.put o.dst (.slice a' (n - lo).toNat c')) W) : wpList P ops Q (o :: rest) a W := by
  obtain ⟨e1, e2⟩ := elem_of tf.ht
  refine wpList_plain hgd fun K hK => ?_
  unfold Oper.wp execOp
  simp only [ho, hx, hl, Option.map_some, Option.map_none]
  rw [Sem.run_bind, run_sliceAt_slice (P := P) (w := W) t _ _ _ _ e2, run_slice_l (P := P) (w := W) t av n cap e2 .i64 lo h0 (by omega), e1, size_of_info tf.info]
  simp only [Result.andThen, Sem.run_pure]
  refine hK _ _ ?_
  have hp := part_of (a := av) (n := n) (cap := cap) (lo := lo.toNat) (hi := n) (mx := cap) (sz := sz) (by omega) (Nat.le_refl _) h3 (Nat.le_refl _) h3
  have em : n - lo.toNat = (n - lo).toNat := by omega
  rw [em] at hp
  have := hk _ _ hp
  rw [← em] at this
  exact this

theorem y_slice_hm (hgd : o.guard = none) (x h mo : Operand) {t e : TypeId} {z : Value} {sz bytes : Nat} (tf : TF P t e z sz bytes) (ho : o.op = .slice t x none (some h) (some mo))
    {av : Option Addr} {n cap : Nat} {hi mx : Int} (hx : a.eval x = .slice av n cap) (hh : a.eval h = .int .i64 hi) (hm : a.eval mo = .int .i64 mx) (h0 : 0 ≤ hi) (h2 : hi ≤ n) (h4 : hi ≤ mx) (h5 : mx ≤ cap) (h3 : n ≤ cap)
    (hk : ∀ a', Part av n cap 0 a' hi.toNat mx.toNat sz → wpList P ops Q rest (a.put o.dst (.slice a' hi.toNat mx.toNat)) W) : wpList P ops Q (o :: rest) a W := by
  obtain ⟨e1, e2⟩ := elem_of tf.ht
  refine wpList_plain hgd fun K hK => ?_
  unfold Oper.wp execOp
  simp only [ho, hx, hh, hm, Option.map_some, Option.map_none]
  rw [Sem.run_bind, run_sliceAt_slice (P := P) (w := W) t _ _ _ _ e2, run_slice_hm (P := P) (w := W) t av n cap e2 .i64 .i64 hi mx h0 h4 h5, e1, size_of_info tf.info]
  simp only [Result.andThen, Sem.run_pure]
  exact hK _ _ (hk _ (part_of (a := av) (n := n) (cap := cap) (lo := 0) (hi := hi.toNat) (mx := mx.toNat) (sz := sz) (by omega) (by omega) (by omega) (by omega) h3))

/-- an append that must grow: what is appended to is read alone -/
theorem run_append_new {t e : TypeId} {z : Value} {sz bytes : Nat} (tf : TF P t e z sz bytes) (ty : TypeId) (H : St w0 L W F) {av : Option Addr} {n cap : Nat} {xs : List Value} (R0 : Rd W av n cap xs sz)
    {b : Option Addr} {m c : Nat} {ys : List Value} (R : Rd W b m c ys sz) (hg : cap < n + m) (h63 : n + m ≤ maxLen) (hby : (n + m) * bytes ≤ 140737488355328) :
    ∃ a' cap' w', (Builtin.append_ #[t, t] ty #[.slice av n cap, .slice b m c]).run P W = .ok (.slice a' (n + m) cap') w' ∧ St w0 (.row (.slice a' (n + m) cap') e sz (n + m) (xs ++ ys) :: L) w' F := by
  cases av with
  | none =>
    have h0 := R0.nil rfl
    have hn : n = 0 := by have := R0.le; omega
    subst hn
    subst h0
    have hx : xs = [] := List.eq_nil_of_length_eq_zero (by simpa using R0.len)
    subst hx
    exact run_append_st tf ty (H.nil e sz) .here R h63 hby
  | some p =>
    obtain ⟨ht, info, zs, pos⟩ := tf
    obtain ⟨i0, hi, hz0, hz1, hz2⟩ := info_parts info
    cases b with
    | none =>
      exfalso
      have hc := R.nil rfl
      have := R.le
      have := R0.le
      omega
    | some q =>
      have hfit : Builtin.nextslicecap (n + m) cap * i0.bytes ≤ 281474976710656 := by rw [hz2]; exact growslice_fits hg hby
      have hr := run_append_grow (P := P) W t ty e i0 z ht hi hz0 p n cap xs (by rw [hz1]; exact R0.len) (fun j v hv => by obtain ⟨p', hp', hc⟩ := R0.cell j v hv; cases hp'; exact hc) q m c ys (by rw [hz1]; exact R.len)
        (fun j v hv => by obtain ⟨p', hp', hc⟩ := R.cell j v hv; cases hp'; exact hc) hg (by simp only [maxLen] at h63; omega) hfit
      refine ⟨_, _, _, hr, ?_⟩
      have hge := grownCap_ge W (n + m) cap e
      have hst := H.drew.call (r := .row (.slice (some ⟨W.heap.size, 0, none⟩) (n + m) (grownCap W (n + m) cap e)) e sz (n + m) (xs ++ ys)) (w' := W.drew.alloc (.cells (xs.toArray ++ ys.toArray ++ Builtin.zeroCells z.cells (grownCap W (n + m) cap e - (n + m))) e))
        (.one ((Below.refl _ _).alloc (Nat.le_refl _) _) ⟨by rw [List.length_append, R0.len, R.len, Nat.add_mul], .inr ⟨W.heap.size, _, _, rfl, Nat.zero_le _, heap_alloc_new W.drew _, hge, grownCap_le_maxLen W (n + m) cap e h63, by
            simp only [Array.size_append, List.size_toArray, size_zeroCells, zs, R0.len, R.len, ← Nat.add_mul]
            congr 1
            omega, by
            simp only [Array.toList_append, List.append_assoc]
            rw [← List.append_assoc]
            have : (n + m) * sz = (xs ++ ys).length := by rw [List.length_append, R0.len, R.len, Nat.add_mul]
            rw [this]
            exact List.take_left⟩⟩ (fun k hk => by cases hk; exact Nat.le_refl _))
      exact hst

theorem y_append_new (hgd : o.guard = none) (s x : Operand) {t e : TypeId} {z : Value} {sz bytes : Nat} (tf : TF P t e z sz bytes) (ho : o.op = .call { callee := .builtin .append, args := #[s, x], argTypes := #[t, t] })
    {av : Option Addr} {n cap : Nat} {xs : List Value} (hs : a.eval s = .slice av n cap) {b : Option Addr} {m c : Nat} {ys : List Value} (hx : a.eval x = .slice b m c)
    (H : St w0 L W F) (R0 : Rd W av n cap xs sz) (R : Rd W b m c ys sz) (hg : cap < n + m)
    (h63 : n + m ≤ maxLen) (hby : (n + m) * bytes ≤ 140737488355328)
    (h : ∀ a' cap' w', St w0 (.row (.slice a' (n + m) cap') e sz (n + m) (xs ++ ys) :: L) w' F → wpList P ops Q rest (a.put o.dst (.slice a' (n + m) cap')) w') : wpList P ops Q (o :: rest) a W := by
  obtain ⟨a', cap', w', hr, hst⟩ := run_append_new tf o.type H R0 R hg h63 hby
  refine wpList_plain hgd fun _ hK => ?_
  unfold Oper.wp execOp
  simp only [ho, resolve, invoke, builtin, Sem.run_bind, Sem.run_pure, Result.andThen_ok, List.map_toArray, List.map_cons, List.map_nil, hs, hx, hr]
  exact hK _ _ (h a' cap' w' hst)

/-- the same, of one element, whose box is dropped -/
theorem y_append1_new (hgd : o.guard = none) (s x : Operand) {t e : TypeId} {z : Value} {bytes : Nat} (tf : TF P t e z 1 bytes) (ho : o.op = .call { callee := .builtin .append, args := #[s, x], argTypes := #[t, t] })
    {av : Option Addr} {n cap : Nat} {xs : List Value} (hs : a.eval s = .slice av n cap) {b : Nat} {u : Value} (hx : a.eval x = .slice (some ⟨b, 0, none⟩) 1 1)
    (H : St w0 L W F) (hb : Del (.box b (.cells #[u] e (0, 0))) L L2) (R0 : Rd W av n cap xs 1) (hg : cap < n + 1) (hu : u.oneCell' = true)
    (h63 : n + 1 ≤ maxLen) (hby : (n + 1) * bytes ≤ 140737488355328)
    (h : ∀ a' cap' w', St w0 (.row (.slice a' (n + 1) cap') e 1 (n + 1) (xs ++ [u]) :: L2) w' F → wpList P ops Q rest (a.put o.dst (.slice a' (n + 1) cap')) w') : wpList P ops Q (o :: rest) a W := by
  have R : Rd W (some ⟨b, 0, none⟩) 1 1 [u] 1 := (H.front hb).rdBox .here rfl (by unfold maxLen; omega) (by simpa using hu)
  exact y_append_new hgd s x tf ho hs hx H R0 R hg h63 hby fun a' cap' w' hst => h a' cap' w' (hst.perm (hb.perm.cons _ |>.trans (.swap _ _ _))).tail

end

end Go.Proofs.Ytcmhobabbklnhaa
