/-
  Texts that the claim's last one rests on, joined.
-/
import Derived.Test.YtnbmmnjihipahaaBAggrTellsi
import Derived.Test.YtnbmmnjihipahaaBAggrTellsf
import Derived.Test.YtnbmmnjihipahaaBAggrTellsg
import Derived.Test.YtnbmmnjihipahaaRows
import Derived.Test.YtnbmmnjihipahaaBAggrTellsh
import Derived.Test.YtnbmmnjihipahaaBAggrTellsc

section
set_option maxRecDepth 10000
namespace Go.Lib
open Go.Vm Go.Dv Go.Srt
variable {p : Prog} {ext : Ext} {F : Nat → Nat}
theorem AgOk.good {ks : List Int} {l : List Row} {a : Ag} (hg : GoodRs ks l) (ha : InK ks a.col) : AgOk l a := fun _ r hr => ((hg r hr).at_ ha).2.int
def grpD (x : List Row × Bool) : D := .tup [rowsD x.1, .lit (.bool x.2)]
theorem aggr_groups (L : HAggr p ext F) (hx : ∀ args h, ext (F 45) args h = extV .add64 args h) {ks : List Int} {l : List Row} {c : Int} {ags : List Ag} (hl : Fine l) (hg : GoodRs ks l) (hc : c < ks.length) (ha : ∀ a, a ∈ ags → InK ks a.col) (hb : ags.length < 900) :
    FnD p ext (F 32) [rowsD l, .lit (.int .i64 c), agsD ags] (grpD (grpsF c ags l)) := by
  by_cases h : c < 0
  · have := groups_neg L hx (c := c) (ags := ags) hl (fun a h => AgOk.good hg (ha a h)) (by omega) h
    unfold grpsF
    rw [if_pos h]
    exact this
  · intro H
    refine WcD.drop ((groups_pos L hx (H := H) (c := c) (k := (ks[c.toNat]?).getD 0) (ags := ags) hl (fun r hr => ((hg r hr).at_ ⟨by omega, hc⟩).1) (fun l' hl' a h => AgOk.good (ks := ks) (fun r hr => hg r (hl' r hr)) (ha a h)) hb h).mono ?_)
    rintro d H' ⟨⟨l', hp1, hs, rfl⟩, hsub⟩
    rw [grp_srt ⟨by omega, hc⟩ ha hg hp1 hs]
    refine ⟨_, H', .refl, hsub, by simp [rows_under], ?_, rfl⟩
    unfold grpsF grpD
    rw [if_neg h]
theorem runG_len {c : Int} {ags : List Ag} : ∀ (w : Nat) (l : List Row), (runG c ags w l).1.length ≤ l.length
  | w, [] => by cases w <;> simp [runG]
  | 0, _ :: _ => by simp [runG]
  | w + 1, r :: t => by
    have ih := runG_len (c := c) (ags := ags) w ((r :: t).drop (cnt c r t))
    have hc1 : 1 ≤ cnt c r t := by unfold cnt; omega
    rw [List.length_drop] at ih
    unfold runG
    split
    · split
      · rename_i x e
        rw [e] at ih
        simp only [List.length_cons] at ih ⊢; omega
      · simp
    · simp
theorem grpsF_len {c : Int} {ags : List Ag} {l : List Row} (hc : ¬ c < 0) : (grpsF c ags l).1.length ≤ l.length := by
  unfold grpsF grpF
  rw [if_neg hc]
  have := runG_len (c := c) (ags := ags) l.length (sortL (cmpC c) l)
  rw [sortL_perm.length_eq] at this
  exact this
theorem runG_fine {c : Int} {ags : List Ag} : ∀ (w : Nat) (l : List Row) (r : Row), r ∈ (runG c ags w l).1 → r.length = ags.length + 1
  | w, [], r, h => by cases w <;> simp [runG] at h
  | 0, _ :: _, r, h => by simp [runG] at h
  | w + 1, r0 :: t, r, h => by
    unfold runG at h
    split at h
    · split at h
      · rename_i x e
        rcases List.mem_cons.1 h with rfl | h
        · simp [vals]
        · exact runG_fine w _ r (by rw [e]; exact h)
      · simp at h
    · simp at h
theorem grpsF_fine {c : Int} {ags : List Ag} {l : List Row} (hl : Fine l) (hb : ags.length < 1000) : Fine (grpsF c ags l).1 := by
  by_cases hc : c < 0
  · unfold grpsF; rw [if_pos hc]
    split
    · exact ⟨by simp, fun r hr => by simp at hr; subst hr; simp [vals]; omega⟩
    · exact ⟨by simp, fun r hr => by simp at hr⟩
  · refine ⟨Nat.lt_of_le_of_lt (grpsF_len hc) hl.1, fun r hr => ?_⟩
    unfold grpsF grpF at hr
    rw [if_neg hc] at hr
    rw [runG_fine _ _ r hr]; omega
theorem sort_fine {l : List Row} (hl : Fine l) : Fine (sortL cmpR l) := ⟨by rw [sortL_perm.length_eq]; exact hl.1, fun r hr => hl.2 r (sortL_perm.mem_iff.1 hr)⟩
theorem Fine.perm {l l' : List Row} (hp : l'.Perm l) (hl : Fine l) : Fine l' := ⟨by rw [hp.length_eq]; exact hl.1, fun r hr => hl.2 r (hp.mem_iff.1 hr)⟩
end Go.Lib
end

section
set_option maxRecDepth 10000
namespace Go.Lib
open Go.Vm Go.Dv Go.Srt
variable {p : Prog} {ext : Ext} {F : Nat → Nat}
def vterm (v : Vl) : Int := if v.null = true then 0 else v.n
def vsum (l : List Vl) : Int := (l.map vterm).sum
theorem vsum_snoc {l : List Vl} {i : Nat} {v : Vl} (h : l[i]? = some v) : vsum (l.take (i + 1)) = vsum (l.take i) + vterm v := by
  rw [List.take_add_one, h]; simp [vsum]
theorem vsum_le : ∀ {l : List Vl}, (∀ v, v ∈ l → In64 v.n) → -(9223372036854775808 * (l.length : Int)) ≤ vsum l ∧ vsum l ≤ 9223372036854775808 * (l.length : Int)
  | [], _ => by simp [vsum]
  | v :: l, h => by
    have ih := vsum_le (l := l) fun r hr => h r (by simp [hr])
    have h0 := h v (by simp)
    unfold In64 at h0
    have : vsum (v :: l) = vterm v + vsum l := by simp [vsum]
    rw [this, List.length_cons]
    unfold vterm
    split <;> omega
def Sum15I (r : Row) (H0 : HpD) (k : Nat) (fr : FrD) (H : HpD) : Prop :=
  ∃ (i : Nat) (t : Int), k = r.length - i ∧ i ≤ r.length ∧ t = vsum (r.take i) ∧ fr = [(0, rowD r), (4, hiT t), (5, loT t), (6, .lit (.int .i64 (i : Int)))] ∧ Sub H0 H
def sum15D (t : Int) : D := .tup [.lit (.int .i64 (wr .i64 (t % 18446744073709551616))), .lit (.bool (decide (In64 t)))]
theorem ref15_sum (L : HRef15 p ext F) {r : Row} (hr : r.length < 1000000) (hn : ∀ v, v ∈ r → In64 v.n) : FnD p ext (F 59) [rowD r] (sum15D (vsum r)) := by
  refine fn_of L.h59 (M := M59) rfl ok59 rfl fun H => sem_run 9000 _ ?_
  simp
  refine sem_loop (Sum15I r H) ?_ (k := r.length) ⟨0, 0, by simp, by simp, by simp [vsum], by simp [hiT, loT], (by repeat (first | exact Sub.refl | apply Sub.new | refine Sub.put ?_ (by first | omega | (simp only [put_next, new_next]; omega))))⟩
  rintro k fr H' ⟨i, t, rfl, hi, ht, rfl, hs⟩
  refine sem_run 9000 _ ?_
  simp
  by_cases c : i < r.length
  · obtain ⟨v, hv⟩ : ∃ v, r[i]? = some v := ⟨r[i], by simp⟩
    have wi : wr .i64 ((i : Int) + 1) = ((i + 1 : Nat) : Int) := by rw [wr_of] <;> omega
    have hb := vsum_le (l := r.take i) fun v h => hn v (List.mem_of_mem_take h)
    rw [← ht, List.length_take, Nat.min_eq_left hi] at hb
    have hvi := hn v (List.mem_of_getElem? hv)
    have hvi' := hvi
    unfold In64 at hvi'
    have hterm := vsum_snoc hv
    rw [← ht] at hterm
    cases hnul : v.null with
    | true =>
      simp [c, hv, hnul, -getElem?_pos]
      refine sem_ok ?_
      exact ⟨r.length - (i + 1), by omega, i + 1, t, rfl, by omega, by rw [hterm, vterm, if_pos hnul]; omega, by rw [wi], hs⟩
    | false =>
      simp [c, hv, hnul, hiT, loT, wr_u64m, -getElem?_pos]
      have fin : ∀ h2, h2 = (t + v.n) / 18446744073709551616 → ∃ k', k' < r.length - i ∧ Sum15I r H k' [(0, rowD r), (4, .lit (.int .i64 h2)), (5, .lit (.int .u64 ((t + v.n) % 18446744073709551616))), (6, .lit (.int .i64 (wr .i64 ((i : Int) + 1))))] H' := fun h2 e =>
        ⟨r.length - (i + 1), by omega, i + 1, t + v.n, rfl, by omega, by rw [hterm, vterm, if_neg (by simp [hnul])], by rw [wi, e]; rfl, hs⟩
      have w1 : wr .i64 (t / 18446744073709551616 + 1) = t / 18446744073709551616 + 1 := by rw [wr_of] <;> omega
      have w2 : wr .i64 (t / 18446744073709551616 - 1) = t / 18446744073709551616 - 1 := by rw [wr_of] <;> omega
      have w3 : wr .i64 (t / 18446744073709551616) = t / 18446744073709551616 := by rw [wr_of] <;> omega
      by_cases c2 : (t + v.n) % 18446744073709551616 < t % 18446744073709551616
      · by_cases c3 : v.n < 0
        · simp [c2, c3, hv, w1, w3, -getElem?_pos]
          exact sem_ok (fin _ (by omega))
        · simp [c2, c3, hv, w1, -getElem?_pos]
          exact sem_ok (fin _ (by omega))
      · by_cases c3 : v.n < 0
        · simp [c2, c3, hv, w2, -getElem?_pos]
          exact sem_ok (fin _ (by omega))
        · simp [c2, c3, hv, -getElem?_pos]
          exact sem_ok (fin _ (by omega))
  · have : i = r.length := by omega
    subst this
    rw [List.take_length] at ht
    simp
    refine sem_exit (sem_run 9000 _ ?_)
    simp [hiT, loT]
    have fin : ∀ b, b = decide (In64 t) → Go.Dv.Sem p ext (endD (M59 F).results (Fin H (sum15D (vsum r)))) (.res (.ret [(2, .lit (.int .i64 (wr .i64 (t % 18446744073709551616)))), (3, .lit (.bool b))] H') [] .mk) := fun b e => by
      refine sem_ret ?_
      simp [M59]
      rw [← ht]
      exact .le hs (by rw [e]; exact D.le_refl _) (by simp [sum15D])
    by_cases h0 : t / 18446744073709551616 = 0
    · by_cases h1 : t % 18446744073709551616 < 9223372036854775808
      · simp [h0, h1]
        exact fin true (by rw [decide_eq_true]; unfold In64; omega)
      · simp [h0, h1]
        exact fin false (by rw [decide_eq_false]; unfold In64; omega)
    · by_cases h1 : t / 18446744073709551616 = -1
      · by_cases h2 : 9223372036854775808 ≤ t % 18446744073709551616
        · simp [h1, h2]
          exact fin true (by rw [decide_eq_true]; unfold In64; omega)
        · simp [h1, h2]
          exact fin false (by rw [decide_eq_false]; unfold In64; omega)
      · simp [h0, h1]
        exact fin false (by rw [decide_eq_false]; unfold In64; omega)
def colV (c : Int) (l : List Row) : Row := l.map fun r => atV r c
theorem colV_len {c : Int} {l : List Row} : (colV c l).length = l.length := by simp [colV]
theorem colV_get {c : Int} {l : List Row} {i : Nat} {r : Row} (h : l[i]? = some r) : (colV c l)[i]? = some (atV r c) := by simp [colV, h]
def best0 (kd : Int) (i : Nat) : Vl := if i = 0 then nullV else setKind nullV kd
theorem vsum_col {c : Int} {l : List Row} : vsum (colV c l) = sumT c l := by
  unfold vsum colV sumT
  rw [List.map_map]; rfl
theorem fold_kind {kd sg : Int} : ∀ {L : List Vl} {o : Vl}, (∀ v, v ∈ L → v.kind = kd) → o.kind = kd → (L.foldl (endS sg) o).kind = kd
  | [], o, _, h => h
  | v :: L, o, hL, h => by
    refine fold_kind (L := L) (o := endS sg o v) (fun w hw => hL w (by simp [hw])) ?_
    unfold endS
    split
    · exact hL v (by simp)
    · split
      · exact hL v (by simp)
      · exact h
theorem endF_best {kd c sg : Int} {l : List Row} (h : ∀ r, r ∈ l → (atV r c).kind = kd) : endF c sg l = (colV c l).foldl (endS sg) (best0 kd l.length) := by
  cases l with
  | nil => rfl
  | cons r l =>
    have hk := h r (by simp)
    show (colV c (r :: l)).foldl (endS sg) nullV = _
    simp only [colV, List.map_cons, List.foldl_cons]
    have hb : best0 kd (l.length + 1) = setKind nullV kd := by simp [best0]
    have e : endS sg nullV (atV r c) = endS sg (best0 kd (l.length + 1)) (atV r c) := by
      rw [hb]
      unfold endS
      cases hn : (atV r c).null
      · simp [setKind, nullV]
      · simp [setKind]
    rw [List.length_cons, e]
def One1I (H0 : HpD) (l : List Row) (a : Ag) (kd : Int) (k : Nat) (fr : FrD) (H : HpD) : Prop :=
  ∃ (i : Nat) (t : D), k = l.length - i ∧ i ≤ l.length ∧ fr = [(0, rowsD l), (3, .rptr a.c 0), (4, .ptr H0.next 0), (6, t), (7, .ptr (H0.next + 1) 0), (8, .lit (.int .i64 (i : Int)))] ∧ Gr H0 H 4 t (rowE ((colV a.col l).take i)) ∧
    H.blk H0.next = .cells zeroC false ∧ H.blk (H0.next + 1) = .cells (best0 kd i).c false ∧ ¬ t.hasB H0.next ∧ ¬ t.hasB (H0.next + 1) ∧ H0.next + 1 < H.next
def One2I (H0 : HpD) (l : List Row) (a : Ag) (kd sg : Int) (k : Nat) (fr : FrD) (H : HpD) : Prop :=
  ∃ i : Nat, k = l.length - i ∧ i ≤ l.length ∧ fr = [(3, .rptr a.c 0), (4, .ptr H0.next 0), (6, rowD (colV a.col l)), (7, .ptr (H0.next + 1) 0), (12, .lit (.int .i64 (i : Int)))] ∧ Sub H0 H ∧
    H.blk H0.next = .cells zeroC false ∧ H.blk (H0.next + 1) = .cells (((colV a.col l).take i).foldl (endS sg) (best0 kd l.length)).c false ∧ H0.next + 1 < H.next
def one15 (l : List Row) (a : Ag) : Vl × Bool := if a.kind = 2 then (numV (wr .i64 (sumT a.col l % 18446744073709551616)), decide (In64 (sumT a.col l))) else oneF l a
theorem ref15_one (L : HRef15 p ext F) {ks : List Int} {l : List Row} {a : Ag} (hl : Fine l) (hg : GoodRs ks l) (hc : InK ks a.col) (hk : a.kind = 1 ∨ a.kind = 2 ∨ a.kind = 3 ∨ a.kind = 4) : FnD p ext (F 60) [rowsD l, .agg a.c] (.tup [.agg (one15 l a).1.c, .lit (.bool (one15 l a).2)]) := by
  refine fn_of L.h60 (M := M60) rfl ok60 rfl fun H => sem_run 9000 _ ?_
  simp [Ag.c]
  refine sem_weak (Weak.tell (b := H.next + 1) (ro := false) (cs := [.lit (.bool true), .lit (.int .i64 0), .lit (.int .i64 0), .lit .nilslice]) (cs' := nullV.c) (by simp) (by simp [Vl.c, nullV, byD, byE, D.le, D.les])) ?_
  have hl1 := hl.1
  obtain ⟨kd, hkd⟩ : ∃ kd, kd = (ks[a.col.toNat]?).getD 0 := ⟨_, rfl⟩
  have hcol := hg.col hc
  rw [← hkd] at hcol
  have hlk : ∀ r, r ∈ l → (atV r a.col).kind = kd := fun r hr => (hcol _ (List.mem_map.2 ⟨r, hr, rfl⟩)).1
  obtain ⟨n, hn⟩ : ∃ n : Nat, a.col = n := ⟨a.col.toNat, by have := hc.1; omega⟩
  refine sem_loop (One1I H l a kd) ?_ (k := l.length) ⟨0, .lit .nilslice, by simp, by simp, rfl, by simpa [rowE] using Gr.nil (by repeat (first | exact Sub.refl | apply Sub.new | refine Sub.put ?_ (by first | omega | (simp only [put_next, new_next]; omega)))), by simp [zeroC], by simp [best0], by simp [D.hasB], by simp [D.hasB], by simp⟩
  rintro k fr H' ⟨i, t, rfl, hi, rfl, g, h4, h7, n4, n7, hlt⟩
  refine sem_run 9000 _ ?_
  simp
  by_cases c : i < l.length
  · obtain ⟨r, hr⟩ : ∃ r, l[i]? = some r := ⟨l[i], by simp⟩
    have hrm := List.mem_of_getElem? hr
    have hrk : r.length = ks.length := by have := (hg r hrm).kin; unfold Kin at this; rw [← this]; simp
    have hv : r[n]? = some (atV r n) := (atV_mem (r := r) (c := (n : Int)) (by omega) (by have := hc.2; omega)).2
    have wi : wr .i64 ((i : Int) + 1) = ((i + 1 : Nat) : Int) := by rw [wr_of] <;> omega
    simp [c, hr, hv, hn, Ag.c, -getElem?_pos]
    refine sem_push (g.mono (by repeat (first | exact Sub.refl | apply Sub.new | refine Sub.put ?_ (by first | omega | (simp only [put_next, new_next]; omega))))) rfl rfl (roomyD (by simp; omega) (by simp; omega)) fun s' H1 g1 k1 n1 => ?_
    obtain ⟨n1, rfl⟩ := n1
    simp at n1
    have k7 := k1 (H.next + 1) (by simp; omega) n7
    have k4 := k1 H.next (by simp; omega) n4
    rw [put_blk, if_neg (by omega), new_blk, if_neg (by omega), h7] at k7
    rw [put_blk, if_neg (by omega), new_blk, if_neg (by omega), h4] at k4
    have k9 := k1 H'.next (by simp) (fun h => by have := g.sub.next; rcases g.at_ with ⟨rfl, _⟩ | ⟨b, ex, el0, rfl, _, h2, _⟩ <;> simp [D.hasB] at h; omega)
    have h9 : H1.blk H'.next = .cells (atV r n).c false := by rw [k9]; simp
    have l7 : H.next + 1 < H1.next := by omega
    have l9 : H'.next < H1.next := by omega
    simp [k7, h9]
    refine sem_ok ?_
    rw [← hn, rowE_snoc (colV_get hr)] at g1
    refine ⟨l.length - (i + 1), by omega, i + 1, _, rfl, by omega, by rw [wi]; simp [Ag.c, hn], g1.keep (g1.sub.put (by omega)) (by simp) (fun x hx => ?_), ?_, ?_, ?_, ?_, ?_⟩
    · rw [put_blk, if_neg]
      rintro rfl
      simp [D.hasB] at hx
      omega
    · rw [put_blk, if_neg (by omega), k4]
    · have e1 : (atV r n).kind = kd := by rw [← hn]; exact hlk r hrm
      have e2 : setKind (best0 kd i) kd = best0 kd (i + 1) := by unfold best0; rw [if_neg (Nat.succ_ne_zero i)]; split <;> rfl
      rw [put_blk, if_pos rfl, vl_setk, e1, e2]
    · simp [D.hasB]; omega
    · simp [D.hasB]; omega
    · simp; omega
  · have : i = l.length := by omega
    subst this
    have e : (colV a.col l).take l.length = colV a.col l := List.take_of_length_le (by rw [colV_len]; exact Nat.le_refl _)
    rw [e] at g
    simp
    refine sem_turn_exit g 6 (by simp) fun H2 s2 k2 n2 => ?_
    refine sem_exit (sem_run 9000 _ ?_)
    have h4' := k2 H.next n4
    have h7' := k2 (H.next + 1) n7
    rw [h4] at h4'
    rw [h7] at h7'
    have l4 : H.next < H2.next := by omega
    have l7 : H.next + 1 < H2.next := by omega
    have hk' : a.kind = 1 ∨ a.kind = 2 ∨ ∃ sg, (sg = 1 ∨ sg = -1) ∧ (a.kind = 3 ∧ sg = -1 ∨ a.kind = 4 ∧ sg = 1) := by
      rcases hk with hk | hk | hk | hk
      · exact .inl hk
      · exact .inr (.inl hk)
      · exact .inr (.inr ⟨-1, .inr rfl, .inl ⟨hk, rfl⟩⟩)
      · exact .inr (.inr ⟨1, .inl rfl, .inr ⟨hk, rfl⟩⟩)
    rcases hk' with hk | hk | ⟨sg, hsg, hk⟩
    · simp [hk, Ag.c, h4', zeroC]
      refine sem_ret ?_
      simp [M60]
      exact .le (by have := s2.next; repeat (first | exact s2 | apply Sub.new | refine Sub.put ?_ (by first | omega | (simp only [put_next, new_next]; omega)))) (by simp [one15, oneF, hk, Vl.c, numV, byD, byE, D.le]) (by simp)
    · simp [hk, Ag.c]
      refine sem_fn (ref15_sum L (r := colV a.col l) (by rw [colV_len]; omega) fun v hv => (hcol v hv).2.int) (by simp [rowD, D.les]) (sem_run 9000 _ ?_)
      simp [h4', zeroC, sum15D, vsum_col]
      refine sem_ret ?_
      simp [M60]
      exact .le (by have := s2.next; repeat (first | exact s2 | apply Sub.new | refine Sub.put ?_ (by first | omega | (simp only [put_next, new_next]; omega)))) (by simp [one15, hk, Vl.c, numV, byD, byE, D.le]) (by simp)
    · have k1 : ¬ a.kind = 1 := by omega
      have k2 : ¬ a.kind = 2 := by omega
      simp [k1, k2, Ag.c]
      refine sem_as [(3, .rptr a.c 0), (4, .ptr H.next 0), (6, rowD (colV a.col l)), (7, .ptr (H.next + 1) 0), (12, .lit (.int .i64 0))] (by simp [rowD, Ag.c]) ?_
      refine sem_loop (One2I H l a kd sg) ?_ (k := l.length) ⟨0, by simp, by simp, by simp, s2, h4', by simpa using h7', l7⟩
      rintro k fr H3 ⟨i, rfl, hi, rfl, s3, b4, b7, l3⟩
      refine sem_run 9000 _ ?_
      simp
      obtain ⟨o, ho⟩ : ∃ o, o = ((colV a.col l).take i).foldl (endS sg) (best0 kd l.length) := ⟨_, rfl⟩
      rw [← ho] at b7
      by_cases c : i < l.length
      · obtain ⟨r, hr⟩ : ∃ r, l[i]? = some r := ⟨l[i], by simp⟩
        have hv := colV_get (c := a.col) hr
        have hvm := List.mem_of_getElem? hv
        generalize hve : atV r a.col = v at hv hvm
        have wi : wr .i64 ((i : Int) + 1) = ((i + 1 : Nat) : Int) := by rw [wr_of] <;> omega
        have hok : o.kind = kd := by
          rw [ho]; exact fold_kind (fun v hv => (hcol v (List.mem_of_mem_take hv)).1) (by unfold best0; rw [if_neg (by omega)]; rfl)
        have hnx : ((colV a.col l).take (i + 1)).foldl (endS sg) (best0 kd l.length) = endS sg o v := by
          rw [List.take_add_one, hv]; simp [ho]
        have l4 : H.next < H3.next := by omega
        simp [colV_len, c, hv, b7, l3, -getElem?_pos]
        refine sem_dfn (ref6_compare L.ref6 (a := v) (b := o)) (by first | exact D.les_refl _ | simp) (sem_run 9000 _ ?_)
        have keepO : endS sg o v = o → ∃ k', k' < l.length - i ∧ One2I H l a kd sg k' [(3, .rptr a.c 0), (4, .ptr H.next 0), (6, rowD (colV a.col l)), (7, .ptr (H.next + 1) 0), (12, .lit (.int .i64 (wr .i64 ((i : Int) + 1))))] H3 := fun e =>
          ⟨l.length - (i + 1), by omega, i + 1, rfl, by omega, by rw [wi], s3, b4, by rw [hnx, e]; exact b7, l3⟩
        have keepV : endS sg o v = v → ∃ k', k' < l.length - i ∧ One2I H l a kd sg k' [(3, .rptr a.c 0), (4, .ptr H.next 0), (6, rowD (colV a.col l)), (7, .ptr (H.next + 1) 0), (12, .lit (.int .i64 (wr .i64 ((i : Int) + 1))))] (H3.put (H.next + 1) (.cells v.c false)) := fun e =>
          ⟨l.length - (i + 1), by omega, i + 1, rfl, by omega, by rw [wi], (by have := s3.next; repeat (first | exact s3 | apply Sub.new | refine Sub.put ?_ (by first | omega | (simp only [put_next, new_next]; omega)))), by simp [b4], by rw [hnx, e]; simp, by simpa using l3⟩
        cases hvn : v.null with
        | true =>
          simp [hvn, hv, -getElem?_pos]
          refine sem_ok ?_
          simpa [Ag.c] using keepO (by unfold endS; rw [if_pos hvn]; exact set_self (by rw [hok, (hcol v hvm).1]))
        | false =>
          cases hon : o.null with
          | true =>
            simp [hvn, hon, hv, b7, -getElem?_pos]
            refine sem_ok ?_
            simpa [Ag.c] using keepV (by unfold endS; rw [if_neg (by simp [hvn]), if_pos (.inl hon)])
          | false =>
            rcases hk with ⟨hk, rfl⟩ | ⟨hk, rfl⟩
            · by_cases cc : cmpV v o < 0
              · simp [hvn, hon, hv, b7, hk, cc, Ag.c, -getElem?_pos]
                refine sem_ok ?_
                simpa [Ag.c, hk] using keepV (by unfold endS; rw [if_neg (by simp [hvn]), if_pos (.inr (by omega))])
              · simp [hvn, hon, hv, b7, hk, cc, Ag.c, -getElem?_pos]
                refine sem_ok ?_
                simpa [Ag.c, hk] using keepO (by unfold endS; rw [if_neg (by simp [hvn]), if_neg (by simp [hon]; omega)])
            · by_cases cc : 0 < cmpV v o
              · simp [hvn, hon, hv, b7, hk, cc, Ag.c, -getElem?_pos]
                refine sem_ok ?_
                simpa [Ag.c, hk] using keepV (by unfold endS; rw [if_neg (by simp [hvn]), if_pos (.inr (by omega))])
              · simp [hvn, hon, hv, b7, hk, cc, Ag.c, -getElem?_pos]
                refine sem_ok ?_
                simpa [Ag.c, hk] using keepO (by unfold endS; rw [if_neg (by simp [hvn]), if_neg (by simp [hon]; omega)])
      · have : i = l.length := by omega
        subst this
        have e : (colV a.col l).take l.length = colV a.col l := List.take_of_length_le (by rw [colV_len]; exact Nat.le_refl _)
        rw [e] at ho
        simp [colV_len]
        refine sem_exit (sem_run 9000 _ ?_)
        have l4 : H.next < H3.next := by omega
        simp [b7, b4, zeroC]
        refine sem_ret ?_
        simp [M60]
        have e2 : one15 l a = (o, true) := by
          rw [ho, ← endF_best hlk, one15, if_neg k2, oneF, if_neg k1, if_neg k2]
          rcases hk with ⟨hk, rfl⟩ | ⟨hk, rfl⟩
          · rw [if_pos hk]
          · rw [if_neg (by omega)]
        rw [e2]
        exact .le (by have := s3.next; repeat (first | exact s3 | apply Sub.new | refine Sub.put ?_ (by first | omega | (simp only [put_next, new_next]; omega)))) (by simp) (by simp)
end Go.Lib
end

section
set_option maxRecDepth 10000
namespace Go.Lib
open Go.Vm Go.Dv Go.Srt
variable {p : Prog} {ext : Ext} {F : Nat → Nat}
def frontF (c : Int) (l : List Row) : List Row := l.map fun r => atV r c :: r
theorem frontF_len {c : Int} {l : List Row} : (frontF c l).length = l.length := by simp [frontF]
theorem frontF_get {c : Int} {l : List Row} {i : Nat} {r : Row} (h : l[i]? = some r) : (frontF c l)[i]? = some (atV r c :: r) := by simp [frontF, h]
def FrontI (H0 : HpD) (l : List Row) (c : Int) (k : Nat) (fr : FrD) (H : HpD) : Prop :=
  ∃ (i : Nat) (t : D), k = l.length - i ∧ i ≤ l.length ∧ fr = [(0, rowsD l), (1, .lit (.int .i64 c)), (5, t), (6, .lit (.int .i64 (i : Int)))] ∧ Gr H0 H 1 t (rowsE ((frontF c l).take i))
theorem front_own (L : HRef15 p ext F) {ks : List Int} {l : List Row} {c : Int} {H : HpD} (hl : Fine l) (hg : GoodRs ks l) (hc : InK ks c) : WcD p ext (F 58) [rowsD l, .lit (.int .i64 c)] H (fun d H' => Gr H H' 1 d (rowsE (frontF c l))) := by
  refine wc_of L.h58 (M := M58) rfl ok58 rfl (sem_run 9000 _ ?_)
  simp
  have hl1 := hl.1
  obtain ⟨n, rfl⟩ : ∃ n : Nat, c = n := ⟨c.toNat, by have := hc.1; omega⟩
  refine sem_loop (FrontI H l n) ?_ (k := l.length) ⟨0, .lit .nilslice, by simp, by simp, rfl, by simpa [rowsE] using Gr.start⟩
  rintro k fr H' ⟨i, t, rfl, hi, rfl, g⟩
  refine sem_run 9000 _ ?_
  simp
  by_cases c1 : i < l.length
  · obtain ⟨r, hr⟩ : ∃ r, l[i]? = some r := ⟨l[i], by simp⟩
    have hrm := List.mem_of_getElem? hr
    have hrl := hl.2 r hrm
    have hrk : r.length = ks.length := by have := (hg r hrm).kin; unfold Kin at this; rw [← this]; simp
    have hv : r[n]? = some (atV r n) := (atV_mem (r := r) (c := (n : Int)) (by omega) (by have := hc.2; omega)).2
    have wi : wr .i64 ((i : Int) + 1) = ((i + 1 : Nat) : Int) := by rw [wr_of] <;> omega
    simp [c1, hr, hv, -getElem?_pos]
    have gl : Gr H' (H'.new (.cells (atV r n).c false)) 4 (.slice H'.next 0 4 1 1 true) (rowE [atV r n]) := Gr.lit Sub.refl (by simp [rowE]) (by simp [rowE]) (by simp [rowE])
    refine sem_app gl row_four row_flats (roomyD (by simp only [row_len, List.length_cons, List.length_nil]; omega) (by simp only [row_len, List.length_cons, List.length_nil]; omega)) fun s H2 g2 k2 n2 => ?_
    obtain ⟨b, ex, el0, rfl, hb1, hb2, hb3, hb4, hb5⟩ := g2.place (by simp [rowE])
    simp [-getElem?_pos]
    rw [appendD_slice1 (b := H2.next) (cs := [.slice b 0 4 (1 + r.length) (1 + r.length) ex]) (ro := false) (by simp) (by simp)]
    refine sem_push (g.mono (by have := g2.sub.next; repeat (first | exact g2.sub | apply Sub.new | refine Sub.put ?_ (by first | omega | (simp only [put_next, new_next]; omega))))) rfl rfl (roomyD (by simp; omega) (by simp; omega)) fun t' H3 g3 k3 n3 => ?_
    obtain ⟨n3, rfl⟩ := n3
    simp at n3
    simp
    have hfar : ∀ x, t.hasB x → x < H'.next := fun x hx => (g.far hx).2
    have e2 : rowE [atV r n] ++ rowE r = rowE (atV r n :: r) := by simp [rowE]
    have e5 : (rowE [atV r n] ++ rowE r).length = 1 + r.length := by simp
    rw [e5, e2] at g2
    have g2' := g2.rest (H3 := H3) (by omega) fun x hx => by
      have hx' := g2.far hx
      rw [k3 x (by simp; omega) (fun h => by have := hfar x h; omega), new_blk, if_neg (by omega)]
    refine sem_last_ok g3 g2' g.sub.next (fun x hx hx2 => by
      have := (g2.far hx2).2
      simp [D.hasB] at hx; omega) fun H4 g4 _ _ => ?_
    refine sem_ok ?_
    have e3 : rowsE ((frontF (n : Int) l).take i) ++ [[.row 4 .p (rowE (atV r n :: r))]] = rowsE ((frontF (n : Int) l).take (i + 1)) := by
      rw [← rowsE_snoc (frontF_get hr)]; rfl
    rw [e3] at g4
    exact ⟨l.length - (i + 1), by omega, i + 1, _, rfl, by omega, by rw [wi], by simpa using g4⟩
  · have : i = l.length := by omega
    subst this
    simp
    refine sem_exit (sem_run 9000 _ ?_)
    have e : (frontF (n : Int) l).take l.length = frontF (n : Int) l := List.take_of_length_le (by rw [frontF_len]; exact Nat.le_refl _)
    rw [e] at g
    simp
    refine sem_ret ?_
    simp [M58]
    exact g
theorem one15_ok {l : List Row} {a : Ag} : (one15 l a).2 = (oneF l a).2 := by
  unfold one15
  by_cases h : a.kind = 2
  · rw [if_pos h]
    unfold oneF sumV
    rw [if_neg (by omega), if_pos h]
    split <;> simp_all
  · rw [if_neg h]
theorem one15_val {l : List Row} {a : Ag} (h : (oneF l a).2 = true) : (one15 l a).1 = (oneF l a).1 := by
  unfold one15
  by_cases hk : a.kind = 2
  · rw [if_pos hk]
    unfold oneF sumV at h ⊢
    rw [if_neg (by omega), if_pos hk] at h ⊢
    by_cases hi : In64 (sumT a.col l)
    · rw [if_pos hi, wide_low hi]
    · rw [if_neg hi] at h; simp at h
  · rw [if_neg hk]
def AgK (ks : List Int) (a : Ag) : Prop := InK ks a.col ∧ (a.kind = 1 ∨ a.kind = 2 ∨ a.kind = 3 ∨ a.kind = 4)
def All15I (H0 : HpD) (l : List Row) (ags : List Ag) (k : Nat) (fr : FrD) (H : HpD) : Prop :=
  ∃ (i : Nat) (s : D), k = ags.length - i ∧ i ≤ ags.length ∧ fr = [(0, rowsD l), (1, agsD ags), (6, s), (7, .lit (.int .i64 (i : Int)))] ∧ Gr H0 H 4 s (rowE (vals l (ags.take i))) ∧ oks l (ags.take i) = true
theorem all15_own (L : HRef15 p ext F) {ks : List Int} {H : HpD} {l : List Row} {ags : List Ag} (hl : Fine l) (hg : GoodRs ks l) (ha : ∀ a, a ∈ ags → AgK ks a) (hb : ags.length < 1000) : WcD p ext (F 57) [rowsD l, agsD ags] H (fun d H' => AllR H [] l ags d H') := by
  refine wc_of L.h57 (M := M57) rfl ok57 rfl (sem_run 9000 _ ?_)
  simp
  refine sem_loop (All15I H l ags) ?_ (k := ags.length) ⟨0, .lit .nilslice, by simp, by simp, rfl, by simpa [vals, rowE] using Gr.start, by simp [oks]⟩
  rintro k fr H' ⟨i, s, rfl, hi, rfl, g, hok⟩
  refine sem_run 9000 _ ?_
  simp
  by_cases c : i < ags.length
  · obtain ⟨a, hx'⟩ : ∃ a, ags[i]? = some a := ⟨ags[i], by simp⟩
    have hak := ha a (List.mem_of_getElem? hx')
    simp [c, hx', -getElem?_pos]
    refine sem_fn (ref15_one L (a := a) hl hg hak.1 hak.2) (by first | exact D.les_refl _ | simp) (sem_run 9000 _ ?_)
    have hw : wr .i64 ((i : Int) + 1) = ((i + 1 : Nat) : Int) := by rw [wr_of] <;> omega
    have ho := oks_snoc (l := l) hx'
    rw [hok, Bool.true_and] at ho
    have hv := vals_snoc (l := l) hx'
    rw [one15_ok]
    cases hk : (oneF l a).2 with
    | false =>
      rw [hk] at ho
      simp
      refine sem_ret ?_
      simp [M57]
      refine sem_ret ?_
      simp
      exact .inr ⟨oks_take ho, rfl, (by have := g.sub.next; repeat (first | exact g.sub | apply Sub.new | refine Sub.put ?_ (by first | omega | (simp only [put_next, new_next]; omega))))⟩
    | true =>
      rw [hk] at ho
      rw [one15_val hk]
      simp
      refine sem_push (g.mono (by repeat (first | exact Sub.refl | apply Sub.new | refine Sub.put ?_ (by first | omega | (simp only [put_next, new_next]; omega))))) rfl rfl (roomyD (by simp [row_len, vals]; omega) (by simp [row_len, vals]; omega)) fun s' H1 g1 _ _ => ?_
      simp
      refine sem_ok ?_
      have e : rowE (vals l (ags.take i)) ++ [(oneF l a).1.c] = rowE (vals l (ags.take (i + 1))) := by rw [hv]; simp [rowE]
      rw [e] at g1
      exact ⟨ags.length - (i + 1), by omega, i + 1, s', rfl, by omega, by rw [hw], g1, ho⟩
  · have : i = ags.length := by omega
    subst this
    simp
    refine sem_exit (sem_run 9000 _ ?_)
    rw [List.take_length] at g hok
    simp
    refine sem_ret ?_
    simp [M57]
    exact .inl ⟨hok, s, rfl, by simpa using g⟩
theorem all15_row (L : HRef15 p ext F) {ks : List Int} {l : List Row} {ags : List Ag} (hl : Fine l) (hg : GoodRs ks l) (ha : ∀ a, a ∈ ags → AgK ks a) (hb : ags.length < 1000) :
    FnD p ext (F 57) [rowsD l, agsD ags] (.tup [rowD (if oks l ags then vals l ags else []), .lit (.bool (oks l ags))]) := by
  intro H
  refine WcD.drop ((all15_own L hl hg ha hb).mono ?_)
  rintro d H' (⟨hk, s', rfl, g'⟩ | ⟨hk, rfl, hs⟩)
  · obtain ⟨H2, w, sub, _⟩ := g'.fin row_underss (m := .p) (by simp)
    rw [hk]
    exact ⟨_, H2, WeakV.tup2 w, sub, by simp, by simp [rowD], rfl⟩
  · rw [hk]
    exact ⟨_, H', WeakV.tup2 (WeakV.le (d' := rowD []) (by simp [rowD, rowE, D.le])), hs, by simp [row_under], rfl, rfl⟩
end Go.Lib
end

section
set_option maxRecDepth 10000
namespace Go.Lib
open Go.Vm Go.Dv Go.Srt
variable {p : Prog} {ext : Ext} {F : Nat → Nat}
theorem front_good {ks : List Int} {l : List Row} {c : Int} (hg : GoodRs ks l) (hc : InK ks c) : GoodRs ((ks[c.toNat]?).getD 0 :: ks) (frontF c l) := by
  intro x hx
  obtain ⟨r, hr, rfl⟩ := List.mem_map.1 hx
  exact GoodR.cons ((hg r hr).at_ hc).1 ((hg r hr).at_ hc).2 (hg r hr)
theorem front_fine {ks : List Int} {l : List Row} {c : Int} (hl : Fine l) (hg : GoodRs ks l) (hk : ks.length < 900000) : Fine (frontF c l) :=
  ⟨by rw [frontF_len]; exact hl.1, fun x hx => by
    obtain ⟨r, hr, rfl⟩ := List.mem_map.1 hx
    have := (hg r hr).kin; unfold Kin at this
    have : r.length = ks.length := by rw [← this]; simp
    simp; omega⟩
theorem front_tail {c : Int} {l : List Row} : (frontF c l).map List.tail = l := by
  unfold frontF; rw [List.map_map]; exact List.map_id'' (fun _ => rfl) l
theorem front_sort {ks : List Int} {c : Int} {l : List Row} (hg : GoodRs ks l) (hc : InK ks c) : ∃ l', sortL cmpR (frontF c l) = frontF c l' ∧ l'.Perm l ∧ Rise (cmpC c) l' := by
  have hp := sortL_perm (cmp := cmpR) (l := frontF c l)
  have hr := sortL_rise (cmpR_ord (ks := (ks[c.toNat]?).getD 0 :: ks)) (front_good hg hc)
  refine ⟨(sortL cmpR (frontF c l)).map List.tail, ?_, ?_, ?_⟩
  · unfold frontF
    rw [List.map_map]
    symm
    refine (List.map_congr_left fun x hx => ?_).trans (List.map_id _)
    have := hp.mem_iff.1 hx
    obtain ⟨r, _, rfl⟩ := List.mem_map.1 this
    rfl
  · have := hp.map List.tail
    rw [front_tail] at this
    exact this
  · refine List.pairwise_map.2 (List.Pairwise.imp_of_mem ?_ hr)
    intro x y hx hy h
    obtain ⟨r, _, rfl⟩ := List.mem_map.1 (hp.mem_iff.1 hx)
    obtain ⟨t, _, rfl⟩ := List.mem_map.1 (hp.mem_iff.1 hy)
    simp only [cmpR, cmpRow, List.tail_cons] at h ⊢
    unfold cmpC
    split at h
    · exact h
    · omega
theorem slc_tail {v : Vl} {r : Row} : slcD 4 (rowD (v :: r)) (some (.lit (.int .i64 1))) none none = some (rowD r) := by
  have := slcRow_eq (sz := 4) (m := .p) (l := rowE (v :: r)) (lo := some (.int .i64 1)) (hi := none) (mx := none)
  simp only [Option.map] at this
  rw [rowD, this]
  have e : natOf (.int .i64 1) = some 1 := natOf_cast (n := 1)
  simp [needH, slcRow, boundM, e, boundH, boundL, cutMd, ble_d, rowD, rowE]
  rw [List.take_of_length_le (by simp)]
theorem cnt_at {ks : List Int} {l' : List Row} {c : Int} {i k : Nat} {r : Row} (hg : GoodRs ks l') (hc : InK ks c) (hr : l'[i]? = some r) (hik : i ≤ k) (hkl : k ≤ l'.length) (hq : ∀ q x, i ≤ q → q < k → l'[q]? = some x → atV x c = atV r c) (h3 : k = l'.length ∨ ∃ x, l'[k]? = some x ∧ ¬ atV x c = atV r c) : k - i = cnt c r (l'.drop (i + 1)) := by
  have hi := (List.getElem?_eq_some_iff.1 hr).1
  have hne : i < k := by
    rcases Nat.lt_or_eq_of_le hik with h | h
    · exact h
    · subst h
      rcases h3 with h | ⟨x, hx, hn⟩
      · omega
      · rw [hr] at hx; cases hx; exact absurd rfl hn
  refine cnt_eq (by omega) (by rw [List.length_drop]; omega) (fun q x h e => ?_) ?_
  · rw [List.getElem?_drop] at e
    rw [hq _ x (by omega) (by omega) e]; exact cmpV_self
  · rcases h3 with h | ⟨x, hx, hn⟩
    · left; rw [List.length_drop]; omega
    · right
      refine ⟨x, ?_, fun e => hn (cmpC_zero hc (hg x (List.mem_of_getElem? hx)) (hg r (List.mem_of_getElem? hr)) e)⟩
      rw [List.getElem?_drop, show i + 1 + (k - i - 1) = k by omega]; exact hx
def Grp15I (H0 : HpD) (c : Int) (ags : List Ag) (l' : List Row) (k : Nat) (fr : FrD) (H : HpD) : Prop :=
  ∃ (i : Nat) (done : List Row) (s : D), k = l'.length - i ∧ i ≤ l'.length ∧ done.length ≤ i ∧ fr = [(0, rowsD (frontF c l')), (2, agsD ags), (10, s), (11, .lit (.int .i64 (i : Int)))] ∧ Gr H0 H 1 s (rowsE done) ∧
    runG c ags l'.length l' = (if (runG c ags (l'.drop i).length (l'.drop i)).2 then (done ++ (runG c ags (l'.drop i).length (l'.drop i)).1, true) else ([], false))
def Cnt15I (H0 : HpD) (c : Int) (ags : List Ag) (l' : List Row) (i : Nat) (r : Row) (s : D) (w : Nat) (fr : FrD) (H : HpD) : Prop :=
  ∃ (k : Nat) (t : D), w = l'.length - k ∧ i ≤ k ∧ k ≤ l'.length ∧ (∀ q x, i ≤ q → q < k → l'[q]? = some x → atV x c = atV r c) ∧
    fr = [(0, rowsD (frontF c l')), (2, agsD ags), (10, s), (11, .lit (.int .i64 (i : Int))), (12, .lit (.int .i64 (k : Int))), (13, t)] ∧ Gr H0 H 1 t (rowsE ((l'.drop i).take (k - i)))
theorem groups15_own (L : HRef15 p ext F) {ks : List Int} {l : List Row} {c : Int} {ags : List Ag} {H : HpD} (hl : Fine l) (hg : GoodRs ks l) (hk : ks.length < 900000) (hc : InK ks c) (ha : ∀ a, a ∈ ags → AgK ks a) (hb : ags.length < 900) : WcD p ext (F 55) [rowsD l, .lit (.int .i64 c), agsD ags] H (fun d H' => ((grpF c ags l).2 = true ∧ ∃ s, d = .tup [s, .lit (.bool true)] ∧ Gr H H' 1 s (rowsE (grpF c ags l).1)) ∨ ((grpF c ags l).2 = false ∧ d = .tup [.lit .nilslice, .lit (.bool false)] ∧ Sub H H')) := by
  refine wc_of L.h55 (M := M55) rfl ok55 rfl (sem_run 9000 _ ?_)
  have hc0 : ¬ c < 0 := by have := hc.1; omega
  simp [hc0]
  refine sem_call (front_own L hl hg hc) fun d H1 g1 => ?_
  refine sem_run 9000 _ ?_
  simp
  refine sem_row g1 0 rfl fun H2 s2 _ _ => ?_
  refine sem_fn (ref15_sort L (front_fine hl hg hk) (front_good hg hc)) (by simp [rowsD]) (sem_run 9000 _ ?_)
  obtain ⟨l', e, hp1, hrise⟩ := front_sort hg hc
  rw [e]
  have hG := grp_rise hc (fun a h => (ha a h).1) hg hp1 hrise
  rw [← hG]
  have hl' : Fine l' := hl.perm hp1
  have hg' : GoodRs ks l' := hg.perm hp1.symm
  have hl1 := hl'.1
  simp
  refine sem_loop (Grp15I H c ags l') ?_ (k := l'.length) ⟨0, [], .lit .nilslice, by simp, by simp, by simp, rfl, by simpa [rowsE] using (Gr.start (H := H2)).base s2, by
    cases h : (runG c ags l'.length l').2 with
    | true => simp [← h]
    | false => rw [List.drop_zero, runG_false h]; simp⟩
  rintro k' fr H' ⟨i, done, s, rfl, hi, hdone, rfl, g, heq⟩
  refine sem_run 9000 _ ?_
  simp
  by_cases c1 : i < l'.length
  · obtain ⟨r, hr⟩ : ∃ r, l'[i]? = some r := ⟨l'[i], by simp⟩
    have hf := frontF_get (c := c) hr
    have hrm := List.mem_of_getElem? hr
    have hdrop : l'.drop i = r :: l'.drop (i + 1) := by
      rw [List.drop_eq_getElem_cons c1]; congr; exact (List.getElem?_eq_some_iff.1 hr).2
    simp [frontF_len, c1]
    refine sem_loop (Cnt15I H' c ags l' i r s) ?_ (k := l'.length - i) ⟨i, .lit .nilslice, rfl, by omega, by omega, fun q x h1 h2 => by omega, rfl, by simpa [rowsE] using Gr.start⟩
    rintro k'' fr H5 ⟨k, t, rfl, hik, hkl, hq, rfl, g2⟩
    refine sem_run 9000 _ ?_
    simp
    have stop : (∃ x, k < l'.length ∧ l'[k]? = some x ∧ atV x c = atV r c) ∨ (∃ x, k < l'.length ∧ l'[k]? = some x ∧ ¬ atV x c = atV r c) ∨ ¬ k < l'.length := by
      by_cases h : k < l'.length
      · by_cases h2 : atV l'[k] c = atV r c
        · exact .inl ⟨_, h, by simp, h2⟩
        · exact .inr (.inl ⟨_, h, by simp, h2⟩)
      · exact .inr (.inr h)
    have len' : (frontF c l').length = l'.length := frontF_len
    rcases stop with ⟨x, c2, hx, hxe⟩ | ⟨x, c2, hx, hxe⟩ | c2
    · have hfx := frontF_get (c := c) hx
      have wk : wr .i64 ((k : Int) + 1) = ((k + 1 : Nat) : Int) := by rw [wr_of] <;> omega
      simp [len', c2, hf, hfx, List.getElem?_cons_zero, -getElem?_pos]
      refine sem_dfn (ref6_sameVal L.ref6 (a := atV x c) (b := atV r c)) (by first | exact D.les_refl _ | simp) (sem_run 9000 _ ?_)
      simp [hxe, hfx, slc_tail, -getElem?_pos]
      refine sem_push g2 rfl rfl (roomyD (by simp; omega) (by simp; omega)) fun t' H6 g3 _ _ => ?_
      simp
      refine sem_ok ?_
      have hxd : (l'.drop i)[k - i]? = some x := by rw [List.getElem?_drop, show i + (k - i) = k by omega]; exact hx
      rw [rowsE_snoc hxd, show k - i + 1 = k + 1 - i by omega] at g3
      refine ⟨l'.length - (k + 1), by omega, k + 1, t', rfl, by omega, by omega, fun q y h1 h2 h3 => ?_, by rw [wk], g3⟩
      by_cases e : q = k
      · subst e; rw [hx] at h3; cases h3; exact hxe
      · exact hq q y h1 (by omega) h3
    · have hfx := frontF_get (c := c) hx
      simp [len', c2, hf, hfx, List.getElem?_cons_zero, -getElem?_pos]
      refine sem_dfn (ref6_sameVal L.ref6 (a := atV x c) (b := atV r c)) (by first | exact D.les_refl _ | simp) (sem_run 9000 _ ?_)
      simp [hxe]
      refine sem_exit (sem_run 9000 _ ?_)
      have hcnt := cnt_at (c := c) hg' hc hr hik hkl hq (.inr ⟨x, hx, hxe⟩)
      clear hfx hx hxe c2
      have hpl : ((r :: l'.drop (i + 1)).take (k - i)).length ≤ l'.length := by
        rw [← hdrop, List.length_take, List.length_drop]; omega
      have hps : ∀ y, y ∈ (r :: l'.drop (i + 1)).take (k - i) → y ∈ l' := fun y hy => by
        rw [← hdrop] at hy
        exact List.mem_of_mem_drop (List.mem_of_mem_take hy)
      rw [hdrop] at g2 heq
      simp
      refine sem_row g2 0 rfl fun H6 s6 _ _ => ?_
      refine sem_fn (all15_row L (l := (r :: l'.drop (i + 1)).take (k - i)) ⟨by omega, fun y hy => hl'.2 y (hps y hy)⟩ (fun y hy => hg' y (hps y hy)) ha (by omega)) (by simp [rowsD]) (sem_run 9000 _ ?_)
      cases hok : oks ((r :: l'.drop (i + 1)).take (k - i)) ags with
      | false =>
        rw [runG_stop hcnt hok] at heq
        simp
        refine sem_ret ?_
        simp
        refine sem_ret ?_
        simp [M55]
        rw [heq]
        exact ⟨rfl, g.sub.trans s6⟩
      | true =>
        rw [runG_step hcnt hok] at heq
        simp [hf, List.getElem?_cons_zero, -getElem?_pos]
        generalize hV : vals ((r :: l'.drop (i + 1)).take (k - i)) ags = V at heq
        have hVl : V.length = ags.length := by rw [← hV]; simp [vals]
        have gl : Gr H6 (H6.new (.cells (atV r c).c false)) 4 (.slice H6.next 0 4 1 1 true) (rowE [atV r c]) := Gr.lit Sub.refl (by simp [rowE]) (by simp [rowE]) (by simp [rowE])
        refine sem_app gl row_four row_flats (roomyD (by simp only [row_len, List.length_cons, List.length_nil]; omega) (by simp only [row_len, List.length_cons, List.length_nil]; omega)) fun s3 H7 g3 k3 n3 => ?_
        have e5 : (rowE [atV r c] ++ rowE V).length = 1 + V.length := by simp
        have e2 : rowE [atV r c] ++ rowE V = rowE (atV r c :: V) := by simp [rowE]
        obtain ⟨b, ex, el0, rfl, hb1, hb2, hb3, hb4, hb5⟩ := g3.place (by simp [rowE])
        rw [e5, e2] at g3
        simp
        refine sem_push (g.mono (s6.trans g3.sub)) rfl rfl (roomyD (by simp; omega) (by simp; omega)) fun s8 H8 g8 k8 n8 => ?_
        obtain ⟨n8, rfl⟩ := n8
        simp
        have h67 := g3.sub.next
        have h06 := g.sub.next
        have h6n := s6.next
        have g3' := g3.rest (H3 := H8) n8 fun x hx => by
          have hx' := g3.far hx
          exact k8 x hx'.2 fun h => by have := (g.far h).2; omega
        refine sem_last_ok g8 g3' (by simp; omega) (fun x hx hx2 => by
          have := (g3.far hx2).2
          simp only [D.hasB] at hx; omega) fun H9 g9 _ _ => ?_
        refine sem_ok ?_
        have e3 : rowsE done ++ [[.row 4 .p (rowE (atV r c :: V))]] = rowsE (done ++ [atV r c :: V]) := by simp [rowsE, rowD]
        rw [e3] at g9
        have hdk : (r :: l'.drop (i + 1)).drop (k - i) = l'.drop k := by
          rw [← hdrop, List.drop_drop, show i + (k - i) = k by omega]
        rw [hdk] at heq
        have hik2 : i < k := by
          have : 1 ≤ k - i := by rw [hcnt]; unfold cnt; omega
          omega
        refine ⟨l'.length - k, by omega, k, done ++ [atV r c :: V], _, rfl, hkl, by simp; omega, rfl, by simpa using g9, ?_⟩
        rw [heq]
        cases hz : (runG c ags (l'.drop k).length (l'.drop k)).2 <;> simp
    · simp [len', c2]
      refine sem_exit (sem_run 9000 _ ?_)
      have hcnt := cnt_at (c := c) hg' hc hr hik hkl hq (.inl (by omega))
      clear c2
      have hpl : ((r :: l'.drop (i + 1)).take (k - i)).length ≤ l'.length := by
        rw [← hdrop, List.length_take, List.length_drop]; omega
      have hps : ∀ y, y ∈ (r :: l'.drop (i + 1)).take (k - i) → y ∈ l' := fun y hy => by
        rw [← hdrop] at hy
        exact List.mem_of_mem_drop (List.mem_of_mem_take hy)
      rw [hdrop] at g2 heq
      simp
      refine sem_row g2 0 rfl fun H6 s6 _ _ => ?_
      refine sem_fn (all15_row L (l := (r :: l'.drop (i + 1)).take (k - i)) ⟨by omega, fun y hy => hl'.2 y (hps y hy)⟩ (fun y hy => hg' y (hps y hy)) ha (by omega)) (by simp [rowsD]) (sem_run 9000 _ ?_)
      cases hok : oks ((r :: l'.drop (i + 1)).take (k - i)) ags with
      | false =>
        rw [runG_stop hcnt hok] at heq
        simp
        refine sem_ret ?_
        simp
        refine sem_ret ?_
        simp [M55]
        rw [heq]
        exact ⟨rfl, g.sub.trans s6⟩
      | true =>
        rw [runG_step hcnt hok] at heq
        simp [hf, List.getElem?_cons_zero, -getElem?_pos]
        generalize hV : vals ((r :: l'.drop (i + 1)).take (k - i)) ags = V at heq
        have hVl : V.length = ags.length := by rw [← hV]; simp [vals]
        have gl : Gr H6 (H6.new (.cells (atV r c).c false)) 4 (.slice H6.next 0 4 1 1 true) (rowE [atV r c]) := Gr.lit Sub.refl (by simp [rowE]) (by simp [rowE]) (by simp [rowE])
        refine sem_app gl row_four row_flats (roomyD (by simp only [row_len, List.length_cons, List.length_nil]; omega) (by simp only [row_len, List.length_cons, List.length_nil]; omega)) fun s3 H7 g3 k3 n3 => ?_
        have e5 : (rowE [atV r c] ++ rowE V).length = 1 + V.length := by simp
        have e2 : rowE [atV r c] ++ rowE V = rowE (atV r c :: V) := by simp [rowE]
        obtain ⟨b, ex, el0, rfl, hb1, hb2, hb3, hb4, hb5⟩ := g3.place (by simp [rowE])
        rw [e5, e2] at g3
        simp
        refine sem_push (g.mono (s6.trans g3.sub)) rfl rfl (roomyD (by simp; omega) (by simp; omega)) fun s8 H8 g8 k8 n8 => ?_
        obtain ⟨n8, rfl⟩ := n8
        simp
        have h67 := g3.sub.next
        have h06 := g.sub.next
        have h6n := s6.next
        have g3' := g3.rest (H3 := H8) n8 fun x hx => by
          have hx' := g3.far hx
          exact k8 x hx'.2 fun h => by have := (g.far h).2; omega
        refine sem_last_ok g8 g3' (by simp; omega) (fun x hx hx2 => by
          have := (g3.far hx2).2
          simp only [D.hasB] at hx; omega) fun H9 g9 _ _ => ?_
        refine sem_ok ?_
        have e3 : rowsE done ++ [[.row 4 .p (rowE (atV r c :: V))]] = rowsE (done ++ [atV r c :: V]) := by simp [rowsE, rowD]
        rw [e3] at g9
        have hdk : (r :: l'.drop (i + 1)).drop (k - i) = l'.drop k := by
          rw [← hdrop, List.drop_drop, show i + (k - i) = k by omega]
        rw [hdk] at heq
        have hik2 : i < k := by
          have : 1 ≤ k - i := by rw [hcnt]; unfold cnt; omega
          omega
        refine ⟨l'.length - k, by omega, k, done ++ [atV r c :: V], _, rfl, hkl, by simp; omega, rfl, by simpa using g9, ?_⟩
        rw [heq]
        cases hz : (runG c ags (l'.drop k).length (l'.drop k)).2 <;> simp
  · have : i = l'.length := by omega
    subst this
    simp [frontF_len]
    refine sem_exit (sem_run 9000 _ ?_)
    rw [List.drop_length] at heq
    simp [runG] at heq
    simp
    refine sem_ret ?_
    simp [M55]
    rw [heq]
    exact ⟨rfl, g⟩
theorem ref15_groups (L : HRef15 p ext F) {ks : List Int} {l : List Row} {c : Int} {ags : List Ag} (hl : Fine l) (hg : GoodRs ks l) (hk : ks.length < 900000) (hc : c < ks.length) (ha : ∀ a, a ∈ ags → AgK ks a) (hb : ags.length < 900) :
    FnD p ext (F 55) [rowsD l, .lit (.int .i64 c), agsD ags] (grpD (grpsF c ags l)) := by
  by_cases h : c < 0
  · unfold grpsF grpD
    rw [if_pos h]
    refine fn_of L.h55 (M := M55) rfl ok55 rfl fun H => sem_run 9000 _ ?_
    simp [h]
    refine sem_fn (all15_row L hl hg ha (by omega)) (by first | exact D.les_refl _ | simp) (sem_run 9000 _ ?_)
    cases hok : oks l ags with
    | false =>
      simp
      refine sem_ret ?_
      simp [M55]
      exact .le (by repeat (first | exact Sub.refl | apply Sub.new | refine Sub.put ?_ (by first | omega | (simp only [put_next, new_next]; omega)))) (by simp [rowsD, rowsE, D.le]) (by simp)
    | true =>
      simp
      refine sem_ret ?_
      simp [M55]
      exact .le (by repeat (first | exact Sub.refl | apply Sub.new | refine Sub.put ?_ (by first | omega | (simp only [put_next, new_next]; omega)))) (by simp [rowsD, rowsE, D.le]) (by simp)
  · intro H
    refine WcD.drop ((groups15_own L hl hg hk ⟨by omega, hc⟩ ha hb).mono ?_)
    unfold grpsF grpD
    rw [if_neg h]
    rintro d H' (⟨e, s, rfl, g⟩ | ⟨e, rfl, hs⟩)
    · obtain ⟨H2, w, sub, _⟩ := g.fin rows_underss (m := .p) (by simp)
      rw [e]
      exact ⟨_, H2, WeakV.tup2 w, sub, by simp, by simp [rowsD], rfl⟩
    · have : (grpF c ags l).1 = [] := by unfold grpF at e ⊢; rw [runG_false e]
      rw [e, this]
      exact ⟨_, H', WeakV.tup2 (WeakV.le (d' := rowsD []) (by simp [rowsD, rowsE, D.le])), hs, by simp [rows_under], rfl, rfl⟩
theorem splice_two {v w : Vl} {a b c d : D} : spliceD (v.c ++ [a, b, c, d]) 4 w.c = v.c ++ w.c := rfl
theorem splice_n {v : Vl} {n : Int} : spliceD v.c 2 [.lit (.int .i64 n)] = (withN v n).c := rfl
theorem flats_two {v w : Vl} : flatsD (v.c ++ w.c) = true := rfl
theorem vsum_two {v w : Vl} (hv : v.null = false) (hw : w.Good) : vsum [v, w] = v.n + w.n := by
  have : vterm w = w.n := by
    unfold vterm
    split
    · rename_i h; exact (hw.nul h).1.symm
    · rfl
  simp [vsum, vterm, hv] at this ⊢
  exact this
def Set15I (H0 : HpD) (r0 : Row) (l : List Sx) (k : Nat) (fr : FrD) (H : HpD) : Prop :=
  ∃ (i : Nat) (r : Row) (s : D), k = l.length - i ∧ i ≤ l.length ∧ r.length = r0.length ∧ (∀ v, v ∈ r → In64 v.n) ∧ setF r0 l = setF r (l.drop i) ∧ fr = [(1, sxsD l), (6, s), (7, .lit (.int .i64 (i : Int)))] ∧ Gr H0 H 4 s (rowE r)
theorem set15_own (L : HRef15 p ext F) {r : Row} {l : List Sx} {H : HpD} (hr : r.length < 1000) (hl : l.length < 1000) (hn : ∀ v, v ∈ r → In64 v.n) (hv : ∀ x, x ∈ l → x.v.Good) (hc : ∀ x, x ∈ l → 0 ≤ x.col ∧ x.col < r.length) : WcD p ext (F 56) [rowD r, sxsD l] H (fun d H' => (∃ r' s', setF r l = some r' ∧ d = .tup [s', .lit (.bool true)] ∧ Gr H H' 4 s' (rowE r')) ∨ setF r l = none ∧ d = .tup [.lit .nilslice, .lit (.bool false)] ∧ Sub H H') := by
  refine wc_of L.h56 (M := M56) rfl ok56 rfl (sem_run 9000 _ ?_)
  simp
  have g0 : Gr H (H.new (.cells [] false)) 4 (.slice H.next 0 4 0 0 true) (rowE []) := Gr.lit Sub.refl (by simp [rowE]) (by simp [rowE]) (by simp [rowE])
  refine sem_app g0 row_four row_flats (roomyD (by simp; omega) (by simp; omega)) fun s1 H1 g1 _ _ => ?_
  simp
  refine sem_loop (Set15I H r l) ?_ (k := l.length) ⟨0, r, s1, by simp, by simp, rfl, hn, by simp, rfl, by simpa [rowE] using g1⟩
  rintro k fr H' ⟨i, r', s, rfl, hi, hlen, hn', hset, rfl, g⟩
  refine sem_exact g fun H2 gx _ _ => ?_
  refine sem_run 9000 _ ?_
  simp
  have wi : wr .i64 ((i : Int) + 1) = ((i + 1 : Nat) : Int) := by rw [wr_of] <;> omega
  by_cases c : i < l.length
  · obtain ⟨x, hx'⟩ : ∃ x, l[i]? = some x := ⟨l[i], by simp⟩
    have hdrop : l.drop i = x :: l.drop (i + 1) := by
      rw [List.drop_eq_getElem_cons c]; congr; exact (List.getElem?_eq_some_iff.1 hx').2
    rw [hdrop] at hset
    have hxm := List.mem_of_getElem? hx'
    have hxg := hv x hxm
    have hxn := hxg.int
    obtain ⟨hx0, hx1⟩ := hc x hxm
    obtain ⟨n, hn0⟩ : ∃ n : Nat, x.col = n := ⟨x.col.toNat, by omega⟩
    have hnl : n < r'.length := by omega
    rcases gx.at_ with ⟨rfl, he⟩ | ⟨b, ex, rfl, h1, h2, h3⟩
    · have : r' = [] := by simpa [rowE] using he
      subst this; simp at hnl
    · obtain ⟨v, hv'⟩ : ∃ v, r'[n]? = some v := ⟨r'[n], by simp⟩
      have hat : atV r' x.col = v := by rw [hn0, atV, if_neg (by omega)]; simp [hv']
      have hve : (rowE r')[n]? = some v.c := by simp [rowE, hv']
      have hne : b ≠ H2.next := by omega
      have hnl4 : n * 4 + 4 ≤ (rowE r').flatten.length := by rw [flatten_len row_four, row_len]; omega
      have hrd : ((rowE r').flatten.drop (n * 4)).take 4 = v.c := flat_slice row_four hve
      have hlt1 : b < H2.next + 1 := by omega
      simp [c, hx', hn0, hnl, h3, hnl4, hrd, -getElem?_pos, -List.length_flatten]
      have gxk : ∀ H3, Sub H2 H3 → H3.blk b = H2.blk b → GrX H H3 4 (.slice b 0 4 (rowE r').length (rowE r').length ex) (rowE r') := fun H3 hs hb => gx.keep hs fun y hy => by simp only [D.hasB] at hy; subst hy; exact hb
      have hnr : ¬ (x.col < 0 ∨ (r'.length : Int) ≤ x.col) := by omega
      have setv : ∀ w : Vl, (rowE r').set n w.c = rowE (r'.set n w) := fun w => by unfold rowE; rw [List.map_set]
      cases ca : x.add with
      | false =>
        simp [hx', hn0, hnl, hnl4, hne, h3, -getElem?_pos, -List.length_flatten]
        refine sem_ok ?_
        have g3 := (gxk ((H2.new (.cells [.lit (.bool false), .lit (.int .i64 0), .lit (.int .i64 0), .lit .nilslice] false)).put H2.next (.cells v.c false)) (by repeat (first | exact Sub.refl | apply Sub.new | refine Sub.put ?_ (by first | omega | (simp only [put_next, new_next]; omega)))) (by simp [hne])).whole (x := x.v.c) hve rfl h1 (by simp; omega)
        rw [setv] at g3
        refine ⟨_, by omega, i + 1, r'.set n x.v, _, rfl, by omega, by simpa using hlen, fun y hy => ?_, ?_, by rw [wi], by simpa using g3.gr⟩
        · rcases List.mem_or_eq_of_mem_set hy with hy | rfl
          · exact hn' y hy
          · exact hxn
        · rw [hset, setF, setS, if_neg hnr, if_pos ca, hn0]; rfl
      | true =>
        have hvi := hn' v (List.mem_of_getElem? hv')
        cases hvn : v.null with
        | true =>
          simp [hvn, -getElem?_pos, -List.length_flatten]
          refine sem_ok ?_
          refine ⟨_, by omega, i + 1, r', _, rfl, by omega, hlen, hn', ?_, by rw [wi], by simpa using (gxk _ (by repeat (first | exact Sub.refl | apply Sub.new | refine Sub.put ?_ (by first | omega | (simp only [put_next, new_next]; omega)))) (by simp [hne])).gr⟩
          rw [hset, setF, setS, if_neg hnr, if_neg (by simp [ca]), hat, if_pos hvn]
        | false =>
          simp [hx', hvn, splice_two, flats_two, -getElem?_pos, -List.length_flatten]
          have gl : Gr ((H2.new (.cells [.lit (.bool false), .lit (.int .i64 0), .lit (.int .i64 0), .lit .nilslice] false)).put H2.next (.cells v.c false)) (((H2.new (.cells [.lit (.bool false), .lit (.int .i64 0), .lit (.int .i64 0), .lit .nilslice] false)).put H2.next (.cells v.c false)).new (.cells (v.c ++ x.v.c) false)) 4 (.slice (H2.next + 1) 0 4 2 2 true) (rowE [v, x.v]) := Gr.lit Sub.refl (by simp [rowE]) (by simp [rowE]) (by simp [rowE])
          refine sem_dcall (wc_own gl (ref15_sum L (r := [v, x.v]) (by simp) (by simp; exact ⟨hvi, hxn⟩))) ?_
          rintro _ H6 ⟨rfl, s6, k6, n6⟩
          have k6b : H6.blk b = .cells (rowE r').flatten false := by
            rw [s6.blk b (by simp; omega)]; simp [hne, h3]
          have k68 : H6.blk H2.next = .cells v.c false := by
            rw [s6.blk _ (by simp)]; simp
          simp at n6
          have l6b : b < H6.next := by omega
          have l68 : H2.next < H6.next := by omega
          have sub6 : Sub H2 H6 := ⟨by omega, fun y hy => by rw [s6.blk y (by simp; omega), put_blk, if_neg (by omega), new_blk, if_neg (by omega)]⟩
          rw [vsum_two hvn hxg]
          refine sem_run 9000 _ ?_
          simp
          by_cases ci : In64 (v.n + x.v.n)
          · have hnl3 : n * 4 + 4 ≤ (rowE r').flatten.length := hnl4
            simp [sum15D, ci, wide_low ci, splice_n, hx', hn0, hnl, hnl4, hne, k6b, k68, l68, -getElem?_pos, -List.length_flatten]
            refine sem_ok ?_
            have g3 := (gxk (H6.put H2.next (.cells (withN v (v.n + x.v.n)).c false)) (sub6.put (Nat.le_refl _)) (by rw [put_blk, if_neg hne, k6b, h3])).whole (x := (withN v (v.n + x.v.n)).c) hve rfl h1 (by simp; omega)
            rw [setv] at g3
            refine ⟨l.length - (i + 1), by omega, i + 1, r'.set n (withN v (v.n + x.v.n)), _, rfl, by omega, by simpa using hlen, fun y hy => ?_, ?_, by rw [wi], by simpa using g3.gr⟩
            · rcases List.mem_or_eq_of_mem_set hy with hy | rfl
              · exact hn' y hy
              · exact ci
            · rw [hset, setF, setS, if_neg hnr, if_neg (by simp [ca]), hat, if_neg (by simp [hvn]), if_pos ci, hn0]; rfl
          · simp [sum15D, ci, -getElem?_pos, -List.length_flatten]
            refine sem_ret ?_
            simp
            refine sem_ret ?_
            simp [M56]
            refine ⟨?_, gx.gr.sub.trans sub6⟩
            rw [hset, setF, setS, if_neg hnr, if_neg (by simp [ca]), hat, if_neg (by simp [hvn]), if_neg ci]
  · have : i = l.length := by omega
    subst this
    simp
    refine sem_exit (sem_run 9000 _ ?_)
    simp
    refine sem_ret ?_
    simp [M56]
    rw [List.drop_length] at hset
    exact ⟨r', hset, gx.gr⟩
theorem ref15_set (L : HRef15 p ext F) {r : Row} {l : List Sx} (hr : r.length < 1000) (hl : l.length < 1000) (hn : ∀ v, v ∈ r → In64 v.n) (hv : ∀ x, x ∈ l → x.v.Good) (hc : ∀ x, x ∈ l → 0 ≤ x.col ∧ x.col < r.length) : FnD p ext (F 56) [rowD r, sxsD l] (setD (setF r l)) := by
  intro H
  refine WcD.drop ((set15_own L hr hl hn hv hc).mono ?_)
  rintro d H' (⟨r', s', e, rfl, g⟩ | ⟨e, rfl, hs⟩)
  · obtain ⟨H2, w, s, u⟩ := g.fin row_underss (m := .p) (by simp)
    rw [e]
    exact ⟨_, H2, WeakV.tup2 w, s, by simp, rfl, rfl⟩
  · rw [e]
    exact ⟨_, H', WeakV.tup2 (WeakV.le (d' := rowD []) (by simp [rowD, rowE, D.le])), hs, by simp [row_under], rfl, rfl⟩
end Go.Lib
end

section
set_option maxRecDepth 10000
namespace Go.Lib
open Go.Vm Go.Dv Go.Srt
variable {p : Prog} {ext : Ext} {F : Nat → Nat}
attribute [-simp] bin_and bin_xor
structure HLaw16t (p : Prog) (ext : Ext) (F : Nat → Nat) : Prop where
  aggr : HAggr p ext F
  law6 : HLaw6 p ext F
  ref15 : HRef15 p ext F
  x45 : ∀ args h, ext (F 45) args h = extV .add64 args h
  awake : FnD p ext (F 52) [] (.lit (.bool true))
  h61 : Has p ext F 61 M61
abbrev iL (n : Int) : D := .lit (.int .i64 n)
def RowsOk (ks : List Int) (R : List Row) : Prop := R.length ≤ 40 ∧ Fine R ∧ GoodRs ks R
def T1 (ks : List Int) (s : Sch) (m2 m4 m5 : Md) (cl al sl : List Int) (g : Int) (fr : FrD) (_ : HpD) : Prop :=
  ∃ R, RowsOk ks R ∧ fr = [(2, intsD m2 cl), (3, iL g), (4, intsD m4 al), (5, intsD m5 sl), (13, .rptr [schR s] 0), (14, rowsD R)]
def T1I (H0 : HpD) (ks : List Int) (s : Sch) (m1 m2 m4 m5 : Md) (l cl al sl : List Int) (g : Int) (k : Nat) (fr : FrD) (H : HpD) : Prop :=
  ∃ (i : Nat) (R : List Row) (t : D), k = 41 - i ∧ i ≤ 40 ∧ i ≤ l.length ∧ R.length ≤ i ∧ Fine R ∧ GoodRs ks R ∧ fr = [(1, intsD m1 l), (2, intsD m2 cl), (3, iL g), (4, intsD m4 al), (5, intsD m5 sl), (13, .rptr [schR s] 0), (14, t), (15, iL (i : Int))] ∧ Gr H0 H 1 t (rowsE R)
theorem pick_facts {s : Sch} {x : Int} (h : 0 < s.length) : ∃ q j : Nat, andI x 255 = q ∧ Int.tmod (q : Int) (s.length : Int) = (j : Int) ∧ j < s.length := by
  obtain ⟨q, hq, _⟩ := andI_small (a := x) (m := 255) (by simp)
  exact ⟨q, q % s.length, hq, by rw [Int.tmod_eq_emod_of_nonneg (by omega)]; omega, Nat.mod_lt _ h⟩
def T2 (ks : List Int) (s : Sch) (R : List Row) (m4 m5 : Md) (al sl : List Int) (g : Int) (fr : FrD) (_ : HpD) : Prop :=
  ∃ C : List Int, C.length ≤ 6 ∧ (∀ c, c ∈ C → InK ks c) ∧ fr = [(3, iL g), (4, intsD m4 al), (5, intsD m5 sl), (13, .rptr [schR s] 0), (14, rowsD R), (16, intsD .p C), (17, .lit .nilslice), (18, .lit .nilslice)]
def T2I (H0 : HpD) (ks : List Int) (s : Sch) (R : List Row) (m2 m4 m5 : Md) (cl al sl : List Int) (g : Int) (k : Nat) (fr : FrD) (H : HpD) : Prop :=
  ∃ (i : Nat) (C : List Int) (t : D), k = 7 - i ∧ i ≤ 6 ∧ i ≤ cl.length ∧ C.length ≤ i ∧ (∀ c, c ∈ C → InK ks c) ∧ fr = [(2, intsD m2 cl), (3, iL g), (4, intsD m4 al), (5, intsD m5 sl), (13, .rptr [schR s] 0), (14, rowsD R), (16, t), (17, .lit .nilslice), (18, .lit .nilslice), (19, iL (i : Int))] ∧ Gr H0 H 1 t (C.map fun c => [iL c])
def T3 (ks : List Int) (s : Sch) (R : List Row) (C : List Int) (m5 : Md) (sl : List Int) (g : Int) (fr : FrD) (_ : HpD) : Prop :=
  ∃ A : List Ag, A.length ≤ 4 ∧ (∀ a, a ∈ A → AgK ks a) ∧ fr = [(3, iL g), (5, intsD m5 sl), (13, .rptr [schR s] 0), (14, rowsD R), (16, intsD .p C), (17, agsD A), (18, .lit .nilslice)]
def T3I (H0 : HpD) (ks : List Int) (s : Sch) (R : List Row) (C : List Int) (m4 m5 : Md) (al sl : List Int) (g : Int) (k : Nat) (fr : FrD) (H : HpD) : Prop :=
  ∃ (i : Nat) (A : List Ag) (t : D), k = 5 - i ∧ i ≤ 4 ∧ i ≤ al.length ∧ A.length ≤ i ∧ (∀ a, a ∈ A → AgK ks a) ∧ fr = [(3, iL g), (4, intsD m4 al), (5, intsD m5 sl), (13, .rptr [schR s] 0), (14, rowsD R), (16, intsD .p C), (17, t), (18, .lit .nilslice), (20, iL (i : Int))] ∧ Gr H0 H 2 t (agsE A)
def T4 (ks : List Int) (s : Sch) (R : List Row) (C : List Int) (A : List Ag) (g : Int) (fr : FrD) (_ : HpD) : Prop :=
  ∃ X : List Sx, X.length ≤ 4 ∧ (∀ x, x ∈ X → x.v.Good ∧ 0 ≤ x.col ∧ x.col < ks.length) ∧ fr = [(3, iL g), (13, .rptr [schR s] 0), (14, rowsD R), (16, intsD .p C), (17, agsD A), (18, sxsD X)]
def T4I (H0 : HpD) (ks : List Int) (s : Sch) (R : List Row) (C : List Int) (A : List Ag) (m5 : Md) (sl : List Int) (g : Int) (k : Nat) (fr : FrD) (H : HpD) : Prop :=
  ∃ (i : Nat) (X : List Sx) (t : D), k = 5 - i ∧ i ≤ 4 ∧ i ≤ sl.length ∧ X.length ≤ i ∧ (∀ x, x ∈ X → x.v.Good ∧ 0 ≤ x.col ∧ x.col < ks.length) ∧ fr = [(3, iL g), (5, intsD m5 sl), (13, .rptr [schR s] 0), (14, rowsD R), (16, intsD .p C), (17, agsD A), (18, t), (22, iL (i : Int))] ∧ Gr H0 H 6 t (sxsE X)
def T5I (R : List Row) (A : List Ag) (X : List Sx) (j : Nat) (k : Nat) (fr : FrD) (_ : HpD) : Prop :=
  ∃ t : Nat, k = 2 - t ∧ t ≤ 2 ∧ fr = [(14, rowsD R), (17, agsD A), (18, sxsD X), (204, intsD .c [-1, (j : Int)]), (205, iL 2), (206, iL (t : Int))]
def T6I (R : List Row) (X : List Sx) (k : Nat) (fr : FrD) (_ : HpD) : Prop :=
  ∃ i : Nat, k = R.length - i ∧ i ≤ R.length ∧ fr = [(18, sxsD X), (234, rowsD R), (235, iL (R.length : Int)), (236, iL (i : Int))]
theorem aggrTells (L : HLaw16t p ext F) {n g : Int} {m1 m2 m4 m5 : Md} {l cl al sl : List Int} {H : HpD} : WcD p ext (F 61) [.lit (.int .i64 n), intsD m1 l, intsD m2 cl, .lit (.int .i64 g), intsD m4 al, intsD m5 sl] H (fun d _H' => d = .lit (.bool true)) := by
  refine wc_of L.h61 (M := M61) rfl ok61 rfl (sem_run 9000 _ ?_)
  simp
  refine sem_fn (schema L.law6) (by first | exact D.les_refl _ | simp) (sem_run 15 _ ?_)
  have hsm := schF_small (n := n)
  simp
  refine sem_box (b := H.next) (cs := [schR (schF n)]) (ro := false) 13 (by simp) (by simp) ?_
  refine sem_as [(1, intsD m1 l), (2, intsD m2 cl), (3, iL g), (4, intsD m4 al), (5, intsD m5 sl), (13, .rptr [schR (schF n)] 0), (14, .lit .nilslice), (15, iL 0)] (by simp [iL, intsD]) ?_
  refine sem_cut (T1 (ksF (schF n)) (schF n) m2 m4 m5 cl al sl g) ?_ ?_
  · refine sem_run 9000 _ ?_
    simp
    refine sem_loop (T1I _ (ksF (schF n)) (schF n) m1 m2 m4 m5 l cl al sl g) ?_ (k := 41) ⟨0, [], .lit .nilslice, by simp, by simp, by simp, by simp, ⟨by simp, by simp⟩, fun r hr => by simp at hr, rfl, by simpa [rowsE] using Gr.start⟩
    rintro k fr H1 ⟨i, R, t, rfl, hi, hil, hRl, hRf, hRg, rfl, gr⟩
    refine sem_run 9000 _ ?_
    simp
    have wi : wr .i64 ((i : Int) + 1) = ((i + 1 : Nat) : Int) := by rw [wr_of] <;> omega
    have stop : (i < l.length ∧ i < 40) ∨ (i < l.length ∧ ¬ i < 40) ∨ ¬ i < l.length := by omega
    rcases stop with ⟨c1, c2⟩ | ⟨c1, c2⟩ | c1
    · have c2' : (i : Int) < 40 := by omega
      obtain ⟨x, hx⟩ : ∃ x, l[i]? = some x := ⟨l[i], by simp⟩
      simp [c1, c2', hx, -getElem?_pos]
      refine sem_dfn (law6_row L.law6 (s := schF n) (n := x) hsm.1) (by simp [schD, D.les]) (sem_run 9000 _ ?_)
      simp
      rw [appendD_slice1 (b := H1.next) (cs := [rowD (rowF (schF n) x)]) (ro := false) (by simp) (by simp)]
      refine sem_push (gr.mono Sub.refl.new) rfl rfl (roomyD (by simp; omega) (by simp; omega)) fun t' H2 g2 _ _ => ?_
      simp
      refine sem_ok ?_
      refine ⟨41 - (i + 1), by omega, i + 1, R ++ [rowF (schF n) x], t', rfl, by omega, by omega, by simp; omega, ⟨by simp; omega, fun r hr => ?_⟩, fun r hr => ?_, by rw [wi], ?_⟩
      · rcases List.mem_append.1 hr with hr | hr
        · exact hRf.2 r hr
        · simp at hr; subst hr; rw [rowF_len]; omega
      · rcases List.mem_append.1 hr with hr | hr
        · exact hRg r hr
        · simp at hr; subst hr; exact row6_good
      · simpa [rowsE] using g2
    case' inr.inl => simp [c1, show ¬ (i : Int) < 40 by omega]
    case' inr.inr => simp [c1]
    all_goals
      refine sem_turn_exit gr 14 (by simp) fun H6 s6 _ _ => ?_
      refine sem_exit (sem_run 9000 _ ?_)
      simp
      refine sem_as_ok [(2, intsD m2 cl), (3, iL g), (4, intsD m4 al), (5, intsD m5 sl), (13, .rptr [schR (schF n)] 0), (14, rowsD R)] (by simp [iL, D.le_refl, rowsD]) ?_
      refine sem_ok ?_
      exact ⟨R, ⟨by omega, hRf, hRg⟩, rfl⟩
  · rintro fr H1 ⟨R, ⟨hR, hRf, hRg⟩, rfl⟩
    refine sem_run 9000 _ ?_
    simp
    refine sem_fn (aggr_sort L.aggr hRf hRg) (by first | exact D.les_refl _ | simp) (sem_run 9000 _ ?_)
    simp
    refine sem_fn (ref15_sort L.ref15 hRf hRg) (by first | exact D.les_refl _ | simp) (sem_run 9000 _ ?_)
    simp
    refine sem_fn (ref6_same L.ref15.ref6 (sort_fine hRf)) (by first | exact D.les_refl _ | simp) (sem_run 22 _ ?_)
    simp
    have hz : ((schF n).length : Int) ≠ 0 := by omega
    have hsz : ¬ (schF n).length = 0 := by omega
    have hkl : (ksF (schF n)).length = (schF n).length := ksF_len
    refine sem_cut (T2 (ksF (schF n)) (schF n) R m4 m5 al sl g) ?_ ?_
    · refine sem_run 9000 _ ?_
      simp
      refine sem_loop (T2I _ (ksF (schF n)) (schF n) R m2 m4 m5 cl al sl g) ?_ (k := 7) ⟨0, [], .lit .nilslice, by simp, by simp, by simp, by simp, fun c hc => by simp at hc, rfl, by simpa using Gr.start⟩
      rintro k fr H2 ⟨i, C, t, rfl, hi, hil, hCl, hC, rfl, gr⟩
      refine sem_run 9000 _ ?_
      simp
      have wi : wr .i64 ((i : Int) + 1) = ((i + 1 : Nat) : Int) := by rw [wr_of] <;> omega
      have stop : (i < cl.length ∧ i < 6) ∨ (i < cl.length ∧ ¬ i < 6) ∨ ¬ i < cl.length := by omega
      rcases stop with ⟨c1, c2⟩ | ⟨c1, c2⟩ | c1
      · have c2' : (i : Int) < 6 := by omega
        obtain ⟨x, hx⟩ : ∃ x, cl[i]? = some x := ⟨cl[i], by simp⟩
        obtain ⟨q, j, hq, hj, hjl⟩ := pick_facts (x := x) hsm.2
        simp [c1, c2', hx, hsz, hq, hj, -getElem?_pos]
        rw [appendD_slice1 (b := H2.next) (cs := [iL (j : Int)]) (ro := false) (by simp [iL]) (by simp)]
        refine sem_push (gr.mono Sub.refl.new) rfl rfl (roomyD (by simp; omega) (by simp; omega)) fun t' H3 g2 _ _ => ?_
        simp
        refine sem_ok ?_
        refine ⟨7 - (i + 1), by omega, i + 1, C ++ [(j : Int)], t', rfl, by omega, by omega, by simp; omega, fun c hc => ?_, by rw [wi], by simpa [iL] using g2⟩
        rcases List.mem_append.1 hc with hc | hc
        · exact hC c hc
        · simp at hc; subst hc; exact ⟨by omega, by omega⟩
      case' inr.inl => simp [c1, show ¬ (i : Int) < 6 by omega]
      case' inr.inr => simp [c1]
      all_goals
        refine sem_turn_exit gr 16 (by simp) fun H6 s6 _ _ => ?_
        refine sem_exit (sem_run 9000 _ ?_)
        simp
        refine sem_as_ok [(3, iL g), (4, intsD m4 al), (5, intsD m5 sl), (13, .rptr [schR (schF n)] 0), (14, rowsD R), (16, intsD .p C), (17, .lit .nilslice), (18, .lit .nilslice)] (by simp [iL, D.le_refl, intsD]) ?_
        refine sem_ok ?_
        exact ⟨C, by omega, hC, rfl⟩
    · rintro fr HB ⟨C, hCl, hC, rfl⟩
      refine sem_run 2 _ ?_
      simp
      refine sem_cut (T3 (ksF (schF n)) (schF n) R C m5 sl g) ?_ ?_
      · refine sem_run 9000 _ ?_
        simp
        refine sem_loop (T3I _ (ksF (schF n)) (schF n) R C m4 m5 al sl g) ?_ (k := 5) ⟨0, [], .lit .nilslice, by simp, by simp, by simp, by simp, fun c hc => by simp at hc, rfl, by simpa [agsE] using Gr.start⟩
        rintro k fr H2 ⟨i, A, t, rfl, hi, hil, hAl, hA, rfl, gr⟩
        refine sem_run 9000 _ ?_
        simp
        have wi : wr .i64 ((i : Int) + 1) = ((i + 1 : Nat) : Int) := by rw [wr_of] <;> omega
        have stop : (i < al.length ∧ i < 4) ∨ (i < al.length ∧ ¬ i < 4) ∨ ¬ i < al.length := by omega
        rcases stop with ⟨c1, c2⟩ | ⟨c1, c2⟩ | c1
        · have c2' : (i : Int) < 4 := by omega
          obtain ⟨x, hx⟩ : ∃ x, al[i]? = some x := ⟨al[i], by simp⟩
          obtain ⟨q, j, hq, hj, hjl⟩ := pick_facts (x := shrI .i64 x 2) hsm.2
          obtain ⟨q3, hq3, hq3l⟩ := andI_small (a := x) (m := 3) (by simp)
          have hq3' : andI x 3 = q3 := hq3
          have w3 : wr .i64 ((q3 : Int) + 1) = (q3 : Int) + 1 := by rw [wr_of] <;> omega
          obtain ⟨cl0, hcl⟩ : ∃ c, (schF n)[j]? = some c := ⟨(schF n)[j], by simp⟩
          have skip : ∃ k', k' < 5 - i ∧ T3I HB (ksF (schF n)) (schF n) R C m4 m5 al sl g k' [(3, iL g), (4, intsD m4 al), (5, intsD m5 sl), (13, .rptr [schR (schF n)] 0), (14, rowsD R), (16, intsD .p C), (17, t), (18, .lit .nilslice), (20, iL (wr .i64 ((i : Int) + 1)))] H2 :=
            ⟨5 - (i + 1), by omega, i + 1, A, t, rfl, by omega, by omega, by omega, hA, by rw [wi], gr⟩
          have push : ∀ t' H3, Gr HB H3 2 t' (agsE A ++ [[iL ((q3 : Int) + 1), iL (j : Int)]]) → ∃ k', k' < 5 - i ∧ T3I HB (ksF (schF n)) (schF n) R C m4 m5 al sl g k' [(3, iL g), (4, intsD m4 al), (5, intsD m5 sl), (13, .rptr [schR (schF n)] 0), (14, rowsD R), (16, intsD .p C), (17, t'), (18, .lit .nilslice), (20, iL (wr .i64 ((i : Int) + 1)))] H3 := fun t' H3 g3 =>
            ⟨5 - (i + 1), by omega, i + 1, A ++ [⟨(q3 : Int) + 1, j⟩], t', rfl, by omega, by omega, by simp; omega, fun a ha => by
              rcases List.mem_append.1 ha with ha | ha
              · exact hA a ha
              · simp at ha; subst ha; exact ⟨⟨by simp, by simp; omega⟩, by simp; omega⟩, by rw [wi], by simpa [agsE, Ag.c] using g3⟩
          have w2 : wr .i64 2 = 2 := by rw [wr_of] <;> omega
          by_cases ck : (q3 : Int) + 1 = 2
          · by_cases cc : cl0.kind = 1
            · simp [c1, c2', hx, hsz, hq, hj, hq3', w2, ck, hcl, cc, -getElem?_pos]
              refine sem_push gr rfl rfl (roomyD (by simp; omega) (by simp; omega)) fun t' H3 g2 _ _ => ?_
              simp
              refine sem_ok ?_
              exact push t' H3 (by rw [ck]; exact g2)
            · simp [c1, c2', hx, hsz, hq, hj, hq3', w2, ck, hcl, cc, -getElem?_pos]
              exact sem_ok skip
          · simp [c1, c2', hx, hsz, hq, hj, hq3', w3, ck, -getElem?_pos]
            refine sem_push gr rfl rfl (roomyD (by simp; omega) (by simp; omega)) fun t' H3 g2 _ _ => ?_
            simp
            refine sem_ok ?_
            exact push t' H3 g2
        case' inr.inl => simp [c1, show ¬ (i : Int) < 4 by omega]
        case' inr.inr => simp [c1]
        all_goals
          refine sem_turn_exit gr 17 (by simp) fun H6 s6 _ _ => ?_
          refine sem_exit (sem_run 9000 _ ?_)
          simp
          refine sem_as_ok [(3, iL g), (5, intsD m5 sl), (13, .rptr [schR (schF n)] 0), (14, rowsD R), (16, intsD .p C), (17, agsD A), (18, .lit .nilslice)] (by simp [iL, D.le_refl, agsD]) ?_
          refine sem_ok ?_
          exact ⟨A, by omega, hA, rfl⟩
      · rintro fr HC ⟨A, hAl, hA, rfl⟩
        refine sem_run 2 _ ?_
        simp
        refine sem_cut (T4 (ksF (schF n)) (schF n) R C A g) ?_ ?_
        · refine sem_run 9000 _ ?_
          simp
          refine sem_loop (T4I _ (ksF (schF n)) (schF n) R C A m5 sl g) ?_ (k := 5) ⟨0, [], .lit .nilslice, by simp, by simp, by simp, by simp, fun c hc => by simp at hc, rfl, by simpa [sxsE] using Gr.start⟩
          rintro k fr H2 ⟨i, X, t, rfl, hi, hil, hXl, hX, rfl, gr⟩
          refine sem_run 9000 _ ?_
          simp
          have wi : wr .i64 ((i : Int) + 1) = ((i + 1 : Nat) : Int) := by rw [wr_of] <;> omega
          have stop : (i < sl.length ∧ i < 4) ∨ (i < sl.length ∧ ¬ i < 4) ∨ ¬ i < sl.length := by omega
          rcases stop with ⟨c1, c2⟩ | ⟨c1, c2⟩ | c1
          · have c2' : (i : Int) < 4 := by omega
            obtain ⟨x, hx⟩ : ∃ x, sl[i]? = some x := ⟨sl[i], by simp⟩
            obtain ⟨q, j, hq, hj, hjl⟩ := pick_facts (x := x) hsm.2
            obtain ⟨cl0, hcl⟩ : ∃ c, (schF n)[j]? = some c := ⟨(schF n)[j], by simp⟩
            have hck := schF_kinds (n := n) cl0 (List.mem_of_getElem? hcl)
            simp [c1, c2', hx, hsz, hq, hj, hcl, -getElem?_pos]
            refine sem_dfn (law6_value L.law6 (c := cl0) (n := shrI .i64 x 8)) (by first | exact D.les_refl _ | simp) (sem_run 9000 _ ?_)
            have hvg : (valF cl0 (shrI .i64 x 8)).Good := valF_good hck
            generalize valF cl0 (shrI .i64 x 8) = v at hvg
            have push : ∀ b t' H3, Gr HC H3 6 t' (sxsE X ++ [Sx.c ⟨j, b, v⟩]) → ∃ k', k' < 5 - i ∧ T4I HC (ksF (schF n)) (schF n) R C A m5 sl g k' [(3, iL g), (5, intsD m5 sl), (13, .rptr [schR (schF n)] 0), (14, rowsD R), (16, intsD .p C), (17, agsD A), (18, t'), (22, iL (wr .i64 ((i : Int) + 1)))] H3 := fun b t' H3 g3 =>
              ⟨5 - (i + 1), by omega, i + 1, X ++ [⟨j, b, v⟩], t', rfl, by omega, by omega, by simp; omega, fun a ha => by
                rcases List.mem_append.1 ha with ha | ha
                · exact hX a ha
                · simp at ha; subst ha; exact ⟨hvg, by simp, by simp; omega⟩, by rw [wi], by simpa [sxsE] using g3⟩
            by_cases ck : cl0.kind = 1
            · cases hvn : v.null with
              | true =>
                simp [hcl, ck, hvn, -getElem?_pos]
                rw [appendD_slice1 (b := H2.next + 1) (cs := Sx.c ⟨j, false, v⟩) (ro := false) (by simp [Sx.c]) (by simp)]
                refine sem_push (gr.mono (by repeat (first | exact Sub.refl | apply Sub.new | refine Sub.put ?_ (by first | omega | (simp only [put_next, new_next]; omega))))) rfl rfl (roomyD (by simp; omega) (by simp; omega)) fun t' H3 g2 _ _ => ?_
                simp
                exact sem_ok (push false t' H3 g2)
              | false =>
                by_cases cb : andI (shrI .i64 x 20) 1 = 1
                · simp [hx, hcl, ck, hvn, cb, -getElem?_pos]
                  rw [appendD_slice1 (b := H2.next + 1) (cs := Sx.c ⟨j, true, v⟩) (ro := false) (by simp [Sx.c]) (by simp)]
                  refine sem_push (gr.mono (by repeat (first | exact Sub.refl | apply Sub.new | refine Sub.put ?_ (by first | omega | (simp only [put_next, new_next]; omega))))) rfl rfl (roomyD (by simp; omega) (by simp; omega)) fun t' H3 g2 _ _ => ?_
                  simp
                  exact sem_ok (push true t' H3 g2)
                · simp [hx, hcl, ck, hvn, cb, -getElem?_pos]
                  rw [appendD_slice1 (b := H2.next + 1) (cs := Sx.c ⟨j, false, v⟩) (ro := false) (by simp [Sx.c]) (by simp)]
                  refine sem_push (gr.mono (by repeat (first | exact Sub.refl | apply Sub.new | refine Sub.put ?_ (by first | omega | (simp only [put_next, new_next]; omega))))) rfl rfl (roomyD (by simp; omega) (by simp; omega)) fun t' H3 g2 _ _ => ?_
                  simp
                  exact sem_ok (push false t' H3 g2)
            · simp [hcl, ck, -getElem?_pos]
              rw [appendD_slice1 (b := H2.next + 1) (cs := Sx.c ⟨j, false, v⟩) (ro := false) (by simp [Sx.c]) (by simp)]
              refine sem_push (gr.mono (by repeat (first | exact Sub.refl | apply Sub.new | refine Sub.put ?_ (by first | omega | (simp only [put_next, new_next]; omega))))) rfl rfl (roomyD (by simp; omega) (by simp; omega)) fun t' H3 g2 _ _ => ?_
              simp
              exact sem_ok (push false t' H3 g2)
          case' inr.inl => simp [c1, show ¬ (i : Int) < 4 by omega]
          case' inr.inr => simp [c1]
          all_goals
            refine sem_turn_exit gr 18 (by simp) fun H6 s6 _ _ => ?_
            refine sem_exit (sem_run 9000 _ ?_)
            simp
            refine sem_as_ok [(3, iL g), (13, .rptr [schR (schF n)] 0), (14, rowsD R), (16, intsD .p C), (17, agsD A), (18, sxsD X)] (by simp [iL, D.le_refl, sxsD]) ?_
            refine sem_ok ?_
            exact ⟨X, by omega, hX, rfl⟩
        · rintro fr HD ⟨X, hXl, hX, rfl⟩
          refine sem_run 9000 _ ?_
          simp
          refine sem_fn (aggr_cols L.aggr (cols := C) (m := .p) hRf hRg (by omega) hC) (by first | exact D.les_refl _ | simp) (sem_run 9000 _ ?_)
          simp
          refine sem_fn (ref15_cols L.ref15 (cols := C) (m := .p) hRf hRg (by omega) hC) (by first | exact D.les_refl _ | simp) (sem_run 9000 _ ?_)
          simp
          refine sem_fn (ref6_same L.ref15.ref6 (sort_fine (colsF_fine (cols := C) hRf (by omega)))) (by first | exact D.les_refl _ | simp) (sem_run 9000 _ ?_)
          simp
          obtain ⟨q, j, hq, hj, hjl⟩ := pick_facts (x := g) hsm.2
          simp [hsz, hq, hj]
          refine sem_as [(14, rowsD R), (17, agsD A), (18, sxsD X), (204, intsD .c [-1, (j : Int)]), (205, iL 2), (206, iL 0)] (by simp [rowsD, intsD, D.le_refl]) ?_
          refine sem_loop (T5I R A X j) ?_ (k := 2) ⟨0, by simp, by simp, by simp⟩
          rintro k fr H7 ⟨t, rfl, ht, rfl⟩
          refine sem_run 9000 _ ?_
          simp
          by_cases ct : t < 2
          · have ct' : (t : Int) < 2 := by omega
            have wt : wr .i64 ((t : Int) + 1) = ((t + 1 : Nat) : Int) := by rw [wr_of] <;> omega
            obtain ⟨gx, hgx⟩ : ∃ gx, [-1, (j : Int)][t]? = some gx := ⟨_, List.getElem?_eq_getElem (by simpa using ct)⟩
            have hgk : gx < ((ksF (schF n)).length : Int) := by
              have := List.mem_of_getElem? hgx
              simp only [List.mem_cons, List.not_mem_nil, or_false] at this
              omega
            simp [ct', hgx, -getElem?_pos]
            refine sem_fn (aggr_groups L.aggr L.x45 hRf hRg hgk (fun a ha => (hA a ha).1) (by omega)) (by first | exact D.les_refl _ | simp) (sem_run 9000 _ ?_)
            simp [grpD]
            refine sem_fn (ref15_groups L.ref15 hRf hRg (by omega) hgk hA (by omega)) (by first | exact D.les_refl _ | simp) (sem_run 9000 _ ?_)
            simp [grpD]
            refine sem_fn (ref6_same L.ref15.ref6 (grpsF_fine (c := gx) (ags := A) hRf (by omega))) (by first | exact D.les_refl _ | simp) (sem_run 9000 _ ?_)
            simp
            refine sem_ok ?_
            exact ⟨2 - (t + 1), by omega, t + 1, rfl, by omega, by simp [wt]⟩
          · have : t = 2 := by omega
            subst this
            simp
            refine sem_exit (sem_run 9000 _ ?_)
            simp
            refine sem_loop (T6I R X) ?_ (k := R.length) ⟨0, by simp, by simp, by simp⟩
            rintro k fr H8 ⟨i, rfl, hi, rfl⟩
            refine sem_run 9000 _ ?_
            simp
            have hRf1 := hRf.1
            by_cases ci : i < R.length
            · have wi : wr .i64 ((i : Int) + 1) = ((i + 1 : Nat) : Int) := by rw [wr_of] <;> omega
              obtain ⟨r, hr⟩ : ∃ r, R[i]? = some r := ⟨R[i], by simp⟩
              have hrm := List.mem_of_getElem? hr
              have hrg := hRg r hrm
              have hrl : r.length = (schF n).length := by
                have := hrg.kin; unfold Kin at this
                have e : r.length = (ksF (schF n)).length := by rw [← this]; simp
                omega
              have hset : Fine [(setF r X).getD []] := ⟨by simp, fun y hy => by
                simp at hy; subst hy
                have : ∀ (l : List Sx) (r : Row), ((setF r l).getD []).length ≤ r.length := by
                  intro l
                  induction l with
                  | nil => intro r; simp [setF]
                  | cons x l ih =>
                    intro r
                    unfold setF
                    split
                    · rename_i r' e
                      have := ih r'
                      have e2 : r'.length = r.length := by
                        unfold setS at e
                        repeat' split at e
                        all_goals first | (cases e; simp) | cases e
                      omega
                    · simp
                have := this X r
                omega⟩
              simp [ci, hr, -getElem?_pos]
              refine sem_fn (aggr_set L.aggr L.x45 (l := X) (by omega) (by omega) (fun v hv => (hrg.good v hv).int) (fun x hx => (hX x hx).1.int)) (by first | exact D.les_refl _ | simp) (sem_run 9000 _ ?_)
              simp [setD]
              refine sem_fn (ref15_set L.ref15 (l := X) (by omega) (by omega) (fun v hv => (hrg.good v hv).int) (fun x hx => (hX x hx).1) (fun x hx => by have := (hX x hx).2; omega)) (by first | exact D.les_refl _ | simp) (sem_run 9000 _ ?_)
              simp [setD]
              refine sem_fn (ref6_sameRow L.ref15.ref6 (hset.2 ((setF r X).getD []) (by simp))) (by first | exact D.les_refl _ | simp) (sem_run 9000 _ ?_)
              simp
              refine sem_ok ?_
              exact ⟨R.length - (i + 1), by omega, i + 1, rfl, by omega, by simp [wi]⟩
            · have : i = R.length := by omega
              subst this
              simp
              refine sem_exit (sem_run 9000 _ ?_)
              simp
              refine sem_fn (L.awake) (by first | exact D.les_refl _ | simp) (sem_run 9000 _ ?_)
              simp
              refine sem_ret ?_
              simp [M61]
end Go.Lib
end

section
namespace Go.Proofs.Ytnbmmnjihipahaa.sa
def F0 (i : Nat) : Nat := ([0, 56, 60, 57, 61, 62, 138, 131, 88, 87, 89, 90, 91, 85, 92, 140, 135, 136, 116, 117, 118, 137, 18, 17, 25, 27, 54, 86, 114, 115, 127, 132, 15, 21, 22, 23, 52, 53, 55, 58, 63, 84, 93, 112, 113, 119, 19, 64, 24, 31, 67, 4, 16, 26, 28, 29, 30, 65, 66, 68, 94, 6, 7, 5, 20, 71, 96, 95, 97, 98, 33, 38, 69, 70, 72, 73, 74, 77, 100, 99, 101, 102, 103, 120, 121, 128, 133, 104, 43, 123, 122, 80, 42, 41, 37, 78, 79, 36, 40, 76, 12, 13, 11, 9, 10, 39, 35, 34] : List Nat).getD i 0
end Go.Proofs.Ytnbmmnjihipahaa.sa
end

section
set_option maxRecDepth 100000
namespace Go.Proofs.Ytnbmmnjihipahaa
open Go.Vm
def m6 : Fun := Go.Lib.M61 Go.Proofs.Ytnbmmnjihipahaa.sa.F0
theorem v6 : IsFun Try.prog 6 m6 := ⟨_, Try.func6, by kernel_rfl, by kernel_rfl⟩
def m15 : Fun := Go.Lib.M32 Go.Proofs.Ytnbmmnjihipahaa.sa.F0
theorem v15 : IsFun Try.prog 15 m15 := ⟨_, Try.func15, by kernel_rfl, by kernel_rfl⟩
def m16 : Fun := ⟨155,0,.seq (.region [⟨(some 0),(.p (.mov (.val (.bool false)))),none⟩])
 (.seq (.region [⟨(some 1),(.p (.mov (.val (.func 59 [] [])))),none⟩])
 (.seq (.region [⟨(some 13),(.p (.build [.bool false,.int .i64 (.ofNat 0),.int .i64 (.ofNat 0),.nilslice] [(1,1,(.val (.int .i64 (.ofNat 1)))),(0,1,(.val (.bool true)))])),none⟩,⟨(some 2),(.a (.new [.bool false,.int .i64 (.ofNat 0),.int .i64 (.ofNat 0),.nilslice])),none⟩,⟨none,(.e (.store 4 (.tmp 2) (.tmp 13))),none⟩])
 (.seq (.dregion [⟨⟨(some 14),(.p (.mov (.tmp 1))),none⟩,0,1⟩,⟨⟨(some 15),(.e (.callv (.tmp 14) [(.val (.int .i64 (.ofNat 2)))])),none⟩,0,3⟩,⟨⟨(some 16),(.p (.mov (.tmp 1))),none⟩,0,3⟩,⟨⟨(some 17),(.e (.callv (.tmp 16) [(.val (.int .i64 (.ofNat 9223372036854775807)))])),none⟩,2,5⟩,⟨⟨(some 19),(.p (.mov (.tmp 1))),none⟩,0,5⟩,⟨⟨(some 20),(.e (.callv (.tmp 19) [(.val (.int .i64 (.ofNat 1)))])),none⟩,4,7⟩,⟨⟨(some 21),(.p (.mov (.tmp 1))),none⟩,0,7⟩,⟨⟨(some 22),(.e (.callv (.tmp 21) [(.val (.int .i64 (.ofNat 1)))])),none⟩,6,9⟩,⟨⟨(some 24),(.p (.mov (.tmp 1))),none⟩,0,9⟩,⟨⟨(some 25),(.e (.callv (.tmp 24) [(.val (.int .i64 (.ofNat 3)))])),none⟩,8,11⟩,⟨⟨(some 28),(.p (.mov (.tmp 1))),none⟩,0,11⟩,⟨⟨(some 29),(.e (.callv (.tmp 28) [(.val (.int .i64 (.ofNat 2)))])),none⟩,10,13⟩,⟨⟨(some 30),(.p (.mov (.tmp 1))),none⟩,0,13⟩,⟨⟨(some 31),(.e (.callv (.tmp 30) [(.val (.int .i64 (.negSucc 4)))])),none⟩,12,21⟩,⟨⟨(some 18),(.a (.bslice [.bool false,.int .i64 (.ofNat 0),.int .i64 (.ofNat 0),.nilslice,.bool false,.int .i64 (.ofNat 0),.int .i64 (.ofNat 0),.nilslice] 4 2 [(0,4,(.tmp 15)),(4,4,(.tmp 17))])),none⟩,4,21⟩,⟨⟨(some 23),(.a (.bslice [.bool false,.int .i64 (.ofNat 0),.int .i64 (.ofNat 0),.nilslice,.bool false,.int .i64 (.ofNat 0),.int .i64 (.ofNat 0),.nilslice] 4 2 [(0,4,(.tmp 20)),(4,4,(.tmp 22))])),none⟩,8,21⟩,⟨⟨(some 26),(.loadn 4 (.tmp 2)),none⟩,0,21⟩,⟨⟨(some 27),(.a (.bslice [.bool false,.int .i64 (.ofNat 0),.int .i64 (.ofNat 0),.nilslice,.bool false,.int .i64 (.ofNat 0),.int .i64 (.ofNat 0),.nilslice] 4 2 [(0,4,(.tmp 25)),(4,4,(.tmp 26))])),none⟩,10,21⟩,⟨⟨(some 32),(.a (.bslice [.bool false,.int .i64 (.ofNat 0),.int .i64 (.ofNat 0),.nilslice,.bool false,.int .i64 (.ofNat 0),.int .i64 (.ofNat 0),.nilslice] 4 2 [(0,4,(.tmp 29)),(4,4,(.tmp 31))])),none⟩,14,21⟩,⟨⟨(some 33),(.a (.bslice [.nilslice,.nilslice,.nilslice,.nilslice] 1 4 [(0,1,(.tmp 18)),(1,1,(.tmp 23)),(2,1,(.tmp 27)),(3,1,(.tmp 32))])),none⟩,14,21⟩,⟨⟨(some 3),(.p (.mov (.tmp 33))),none⟩,14,21⟩])
 (.seq (.region [⟨(some 35),(.p (.mov (.tmp 3))),none⟩,⟨(some 36),(.p (.build [.int .i64 (.ofNat 0),.int .i64 (.ofNat 0)] [(0,1,(.val (.int .i64 (.ofNat 1))))])),none⟩,⟨(some 37),(.p (.build [.int .i64 (.ofNat 0),.int .i64 (.ofNat 0)] [(0,1,(.val (.int .i64 (.ofNat 2)))),(1,1,(.val (.int .i64 (.ofNat 1))))])),none⟩,⟨(some 38),(.a (.bslice [.int .i64 (.ofNat 0),.int .i64 (.ofNat 0),.int .i64 (.ofNat 0),.int .i64 (.ofNat 0)] 2 2 [(0,2,(.tmp 36)),(2,2,(.tmp 37))])),none⟩,⟨(some 39),(.e (.call 15 [(.tmp 35),(.val (.int .i64 (.ofNat 0))),(.tmp 38)])),none⟩,⟨(some 34),(.p (.mov (.tmp 39))),none⟩,⟨(some 40),(.p (.ext (.tmp 34) 0)),none⟩,⟨(some 41),(.p (.ext (.tmp 34) 1)),none⟩,⟨(some 4),(.p (.mov (.tmp 40))),none⟩,⟨(some 5),(.p (.mov (.tmp 41))),none⟩])
 (.seq (.region [⟨(some 43),(.p (.mov (.tmp 3))),none⟩,⟨(some 44),(.p (.slc 1 (.tmp 43) none (some (.val (.int .i64 (.ofNat 2)))) none)),none⟩,⟨(some 45),(.p (.build [.int .i64 (.ofNat 0),.int .i64 (.ofNat 0)] [(0,1,(.val (.int .i64 (.ofNat 2)))),(1,1,(.val (.int .i64 (.ofNat 1))))])),none⟩,⟨(some 46),(.a (.bslice [.int .i64 (.ofNat 0),.int .i64 (.ofNat 0)] 2 1 [(0,2,(.tmp 45))])),none⟩,⟨(some 47),(.e (.call 15 [(.tmp 44),(.val (.int .i64 (.negSucc 0))),(.tmp 46)])),none⟩,⟨(some 42),(.p (.mov (.tmp 47))),none⟩,⟨(some 48),(.p (.ext (.tmp 42) 0)),none⟩,⟨(some 49),(.p (.ext (.tmp 42) 1)),none⟩,⟨(some 6),(.p (.mov (.tmp 48))),none⟩,⟨(some 7),(.p (.mov (.tmp 49))),none⟩])
 (.seq (.region [⟨(some 51),(.p (.build [.int .i64 (.ofNat 0),.int .i64 (.ofNat 0)] [(0,1,(.val (.int .i64 (.ofNat 1))))])),none⟩,⟨(some 52),(.p (.build [.int .i64 (.ofNat 0),.int .i64 (.ofNat 0)] [(0,1,(.val (.int .i64 (.ofNat 3)))),(1,1,(.val (.int .i64 (.ofNat 1))))])),none⟩,⟨(some 53),(.a (.bslice [.int .i64 (.ofNat 0),.int .i64 (.ofNat 0),.int .i64 (.ofNat 0),.int .i64 (.ofNat 0)] 2 2 [(0,2,(.tmp 51)),(2,2,(.tmp 52))])),none⟩,⟨(some 54),(.e (.call 15 [(.val (.nilslice)),(.val (.int .i64 (.negSucc 0))),(.tmp 53)])),none⟩,⟨(some 50),(.p (.mov (.tmp 54))),none⟩,⟨(some 55),(.p (.ext (.tmp 50) 0)),none⟩,⟨(some 56),(.p (.ext (.tmp 50) 1)),none⟩,⟨(some 8),(.p (.mov (.tmp 55))),none⟩,⟨(some 9),(.p (.mov (.tmp 56))),none⟩])
 (.seq (.dregion [⟨⟨(some 58),(.p (.mov (.tmp 1))),none⟩,0,1⟩,⟨⟨(some 59),(.e (.callv (.tmp 58) [(.val (.int .i64 (.ofNat 1)))])),none⟩,0,3⟩,⟨⟨(some 62),(.p (.mov (.tmp 1))),none⟩,0,3⟩,⟨⟨(some 63),(.e (.callv (.tmp 62) [(.val (.int .i64 (.ofNat 5)))])),none⟩,2,8⟩,⟨⟨(some 60),(.loadn 4 (.tmp 2)),none⟩,0,8⟩,⟨⟨(some 61),(.a (.bslice [.bool false,.int .i64 (.ofNat 0),.int .i64 (.ofNat 0),.nilslice,.bool false,.int .i64 (.ofNat 0),.int .i64 (.ofNat 0),.nilslice] 4 2 [(0,4,(.tmp 59)),(4,4,(.tmp 60))])),none⟩,2,8⟩,⟨⟨(some 64),(.p (.build [.int .i64 (.ofNat 0),.bool false,.bool false,.int .i64 (.ofNat 0),.int .i64 (.ofNat 0),.nilslice] [(0,1,(.val (.int .i64 (.ofNat 1)))),(1,1,(.val (.bool true))),(2,4,(.tmp 63))])),none⟩,4,8⟩,⟨⟨(some 65),(.a (.bslice [.int .i64 (.ofNat 0),.bool false,.bool false,.int .i64 (.ofNat 0),.int .i64 (.ofNat 0),.nilslice] 6 1 [(0,6,(.tmp 64))])),none⟩,4,8⟩,⟨⟨(some 66),(.e (.call 23 [(.tmp 61),(.tmp 65)])),none⟩,4,14⟩,⟨⟨(some 57),(.p (.mov (.tmp 66))),none⟩,9,14⟩,⟨⟨(some 67),(.p (.ext (.tmp 57) 0)),none⟩,9,14⟩,⟨⟨(some 68),(.p (.ext (.tmp 57) 1)),none⟩,9,14⟩,⟨⟨(some 10),(.p (.mov (.tmp 67))),none⟩,9,14⟩,⟨⟨(some 11),(.p (.mov (.tmp 68))),none⟩,9,14⟩])
 (.seq (.region [⟨(some 69),(.p (.mov (.tmp 3))),none⟩,⟨(some 70),(.a (.bslice [.int .i64 (.ofNat 0)] 1 1 [(0,1,(.val (.int .i64 (.ofNat 1))))])),none⟩,⟨(some 71),(.e (.call 22 [(.tmp 69),(.tmp 70)])),none⟩,⟨(some 12),(.p (.mov (.tmp 71))),none⟩])
 (.seq (.region [⟨(some 72),(.p (.mov (.tmp 5))),none⟩,⟨(some 73),(.p (.mov (.tmp 72))),none⟩,⟨(some 74),(.p (.mov (.tmp 4))),(some (73,true))⟩,⟨(some 75),(.p (.mov (.tmp 1))),(some (73,true))⟩,⟨(some 76),(.e (.callv (.tmp 75) [(.val (.int .i64 (.ofNat 1)))])),(some (73,true))⟩,⟨(some 77),(.p (.mov (.tmp 1))),(some (73,true))⟩,⟨(some 78),(.e (.callv (.tmp 77) [(.val (.int .i64 (.ofNat 1)))])),(some (73,true))⟩,⟨(some 79),(.p (.mov (.tmp 1))),(some (73,true))⟩,⟨(some 80),(.e (.callv (.tmp 79) [(.val (.int .i64 (.ofNat 1)))])),(some (73,true))⟩,⟨(some 81),(.a (.bslice [.bool false,.int .i64 (.ofNat 0),.int .i64 (.ofNat 0),.nilslice,.bool false,.int .i64 (.ofNat 0),.int .i64 (.ofNat 0),.nilslice,.bool false,.int .i64 (.ofNat 0),.int .i64 (.ofNat 0),.nilslice] 4 3 [(0,4,(.tmp 76)),(4,4,(.tmp 78)),(8,4,(.tmp 80))])),(some (73,true))⟩,⟨(some 82),(.p (.mov (.tmp 1))),(some (73,true))⟩,⟨(some 83),(.e (.callv (.tmp 82) [(.val (.int .i64 (.ofNat 2)))])),(some (73,true))⟩,⟨(some 84),(.p (.mov (.tmp 1))),(some (73,true))⟩,⟨(some 85),(.e (.callv (.tmp 84) [(.val (.int .i64 (.ofNat 2)))])),(some (73,true))⟩,⟨(some 86),(.p (.mov (.tmp 1))),(some (73,true))⟩,⟨(some 87),(.e (.callv (.tmp 86) [(.val (.int .i64 (.ofNat 9223372036854775802)))])),(some (73,true))⟩,⟨(some 88),(.a (.bslice [.bool false,.int .i64 (.ofNat 0),.int .i64 (.ofNat 0),.nilslice,.bool false,.int .i64 (.ofNat 0),.int .i64 (.ofNat 0),.nilslice,.bool false,.int .i64 (.ofNat 0),.int .i64 (.ofNat 0),.nilslice] 4 3 [(0,4,(.tmp 83)),(4,4,(.tmp 85)),(8,4,(.tmp 87))])),(some (73,true))⟩,⟨(some 89),(.p (.mov (.tmp 1))),(some (73,true))⟩,⟨(some 90),(.e (.callv (.tmp 89) [(.val (.int .i64 (.ofNat 3)))])),(some (73,true))⟩,⟨(some 91),(.p (.mov (.tmp 1))),(some (73,true))⟩,⟨(some 92),(.e (.callv (.tmp 91) [(.val (.int .i64 (.ofNat 1)))])),(some (73,true))⟩,⟨(some 93),(.p (.mov (.tmp 1))),(some (73,true))⟩,⟨(some 94),(.e (.callv (.tmp 93) [(.val (.int .i64 (.ofNat 0)))])),(some (73,true))⟩,⟨(some 95),(.a (.bslice [.bool false,.int .i64 (.ofNat 0),.int .i64 (.ofNat 0),.nilslice,.bool false,.int .i64 (.ofNat 0),.int .i64 (.ofNat 0),.nilslice,.bool false,.int .i64 (.ofNat 0),.int .i64 (.ofNat 0),.nilslice] 4 3 [(0,4,(.tmp 90)),(4,4,(.tmp 92)),(8,4,(.tmp 94))])),(some (73,true))⟩,⟨(some 96),(.a (.bslice [.nilslice,.nilslice,.nilslice] 1 3 [(0,1,(.tmp 81)),(1,1,(.tmp 88)),(2,1,(.tmp 95))])),(some (73,true))⟩,⟨(some 97),(.e (.call 24 [(.tmp 74),(.tmp 96)])),(some (73,true))⟩,⟨(some 98),(.p (.pick (.tmp 73) (.tmp 97) (.val (.bool false)))),none⟩,⟨(some 99),(.p (.mov (.tmp 98))),none⟩,⟨(some 100),(.p (.mov (.tmp 7))),(some (99,true))⟩,⟨(some 101),(.p (.not (.tmp 100))),(some (99,true))⟩,⟨(some 102),(.p (.pick (.tmp 99) (.tmp 101) (.val (.bool false)))),none⟩,⟨(some 103),(.p (.mov (.tmp 102))),none⟩,⟨(some 104),(.p (.mov (.tmp 9))),(some (103,true))⟩,⟨(some 105),(.p (.pick (.tmp 103) (.tmp 104) (.val (.bool false)))),none⟩,⟨(some 106),(.p (.mov (.tmp 105))),none⟩,⟨(some 107),(.p (.mov (.tmp 8))),(some (106,true))⟩,⟨(some 108),(.p (.mov (.tmp 1))),(some (106,true))⟩,⟨(some 109),(.e (.callv (.tmp 108) [(.val (.int .i64 (.ofNat 0)))])),(some (106,true))⟩,⟨(some 110),(.p (.build [.bool false,.int .i64 (.ofNat 0),.int .i64 (.ofNat 0),.nilslice] [(0,1,(.val (.bool true)))])),(some (106,true))⟩,⟨(some 111),(.a (.bslice [.bool false,.int .i64 (.ofNat 0),.int .i64 (.ofNat 0),.nilslice,.bool false,.int .i64 (.ofNat 0),.int .i64 (.ofNat 0),.nilslice] 4 2 [(0,4,(.tmp 109)),(4,4,(.tmp 110))])),(some (106,true))⟩,⟨(some 112),(.a (.bslice [.nilslice] 1 1 [(0,1,(.tmp 111))])),(some (106,true))⟩,⟨(some 113),(.e (.call 24 [(.tmp 107),(.tmp 112)])),(some (106,true))⟩,⟨(some 114),(.p (.pick (.tmp 106) (.tmp 113) (.val (.bool false)))),none⟩,⟨(some 115),(.p (.mov (.tmp 114))),none⟩,⟨(some 116),(.p (.mov (.tmp 11))),(some (115,true))⟩,⟨(some 117),(.p (.pick (.tmp 115) (.tmp 116) (.val (.bool false)))),none⟩,⟨(some 118),(.p (.mov (.tmp 117))),none⟩,⟨(some 119),(.p (.mov (.tmp 10))),(some (118,true))⟩,⟨(some 120),(.p (.lenb (.tmp 119))),(some (118,true))⟩,⟨(some 121),(.p (.bin .eql (.tmp 120) (.val (.int .i64 (.ofNat 2))))),(some (118,true))⟩,⟨(some 122),(.p (.pick (.tmp 118) (.tmp 121) (.val (.bool false)))),none⟩,⟨(some 123),(.p (.mov (.tmp 122))),none⟩,⟨(some 124),(.p (.mov (.tmp 10))),(some (123,true))⟩,⟨(some 125),(.p (.iaddr 4 (.tmp 124) (.val (.int .i64 (.ofNat 1))))),(some (123,true))⟩,⟨(some 126),(.p (.faddr 0 (.tmp 125))),(some (123,true))⟩,⟨(some 127),(.load1 (.tmp 126)),(some (123,true))⟩,⟨(some 128),(.p (.pick (.tmp 123) (.tmp 127) (.val (.bool false)))),none⟩,⟨(some 129),(.p (.mov (.tmp 128))),none⟩,⟨(some 130),(.p (.mov (.tmp 12))),(some (129,true))⟩,⟨(some 131),(.p (.lenb (.tmp 130))),(some (129,true))⟩,⟨(some 132),(.p (.bin .eql (.tmp 131) (.val (.int .i64 (.ofNat 4))))),(some (129,true))⟩,⟨(some 133),(.p (.pick (.tmp 129) (.tmp 132) (.val (.bool false)))),none⟩,⟨(some 134),(.p (.mov (.tmp 133))),none⟩,⟨(some 135),(.p (.mov (.tmp 12))),(some (134,true))⟩,⟨(some 136),(.p (.iaddr 1 (.tmp 135) (.val (.int .i64 (.ofNat 0))))),(some (134,true))⟩,⟨(some 137),(.load1 (.tmp 136)),(some (134,true))⟩,⟨(some 138),(.p (.lenb (.tmp 137))),(some (134,true))⟩,⟨(some 139),(.p (.bin .eql (.tmp 138) (.val (.int .i64 (.ofNat 1))))),(some (134,true))⟩,⟨(some 140),(.p (.pick (.tmp 134) (.tmp 139) (.val (.bool false)))),none⟩,⟨(some 141),(.p (.mov (.tmp 140))),none⟩,⟨(some 142),(.p (.mov (.tmp 12))),(some (141,true))⟩,⟨(some 143),(.p (.iaddr 1 (.tmp 142) (.val (.int .i64 (.ofNat 0))))),(some (141,true))⟩,⟨(some 144),(.load1 (.tmp 143)),(some (141,true))⟩,⟨(some 145),(.p (.iaddr 4 (.tmp 144) (.val (.int .i64 (.ofNat 0))))),(some (141,true))⟩,⟨(some 146),(.p (.faddr 0 (.tmp 145))),(some (141,true))⟩,⟨(some 147),(.load1 (.tmp 146)),(some (141,true))⟩,⟨(some 148),(.p (.pick (.tmp 141) (.tmp 147) (.val (.bool false)))),none⟩,⟨(some 149),(.p (.mov (.tmp 148))),none⟩,⟨(some 150),(.p (.mov (.tmp 3))),(some (149,true))⟩,⟨(some 151),(.e (.call 21 [(.tmp 150)])),(some (149,true))⟩,⟨(some 152),(.p (.lenb (.tmp 151))),(some (149,true))⟩,⟨(some 153),(.p (.bin .eql (.tmp 152) (.val (.int .i64 (.ofNat 4))))),(some (149,true))⟩,⟨(some 154),(.p (.pick (.tmp 149) (.tmp 153) (.val (.bool false)))),none⟩,⟨(some 0),(.p (.mov (.tmp 154))),none⟩])
 (.ret)))))))))),[.tmp 0]⟩
theorem v16 : IsFun Try.prog 16 m16 := ⟨_, Try.func16, by kernel_rfl, by kernel_rfl⟩
def m17 : Fun := Go.Lib.M23 Go.Proofs.Ytnbmmnjihipahaa.sa.F0
theorem v17 : IsFun Try.prog 17 m17 := ⟨_, Try.func17, by kernel_rfl, by kernel_rfl⟩
def m18 : Fun := Go.Lib.M22 Go.Proofs.Ytnbmmnjihipahaa.sa.F0
theorem v18 : IsFun Try.prog 18 m18 := ⟨_, Try.func18, by kernel_rfl, by kernel_rfl⟩
def m19 : Fun := Go.Lib.M46 Go.Proofs.Ytnbmmnjihipahaa.sa.F0
theorem v19 : IsFun Try.prog 19 m19 := ⟨_, Try.func19, by kernel_rfl, by kernel_rfl⟩
def m21 : Fun := Go.Lib.M33 Go.Proofs.Ytnbmmnjihipahaa.sa.F0
theorem v21 : IsFun Try.prog 21 m21 := ⟨_, Try.func21, by kernel_rfl, by kernel_rfl⟩
def m22 : Fun := Go.Lib.M34 Go.Proofs.Ytnbmmnjihipahaa.sa.F0
theorem v22 : IsFun Try.prog 22 m22 := ⟨_, Try.func22, by kernel_rfl, by kernel_rfl⟩
def m23 : Fun := Go.Lib.M35 Go.Proofs.Ytnbmmnjihipahaa.sa.F0
theorem v23 : IsFun Try.prog 23 m23 := ⟨_, Try.func23, by kernel_rfl, by kernel_rfl⟩
def m24 : Fun := Go.Lib.M48 Go.Proofs.Ytnbmmnjihipahaa.sa.F0
theorem v24 : IsFun Try.prog 24 m24 := ⟨_, Try.func24, by kernel_rfl, by kernel_rfl⟩
def m25 : Fun := Go.Lib.M24 Go.Proofs.Ytnbmmnjihipahaa.sa.F0
theorem v25 : IsFun Try.prog 25 m25 := ⟨_, Try.func25, by kernel_rfl, by kernel_rfl⟩
def m26 : Fun := Go.Lib.M53 Go.Proofs.Ytnbmmnjihipahaa.sa.F0
theorem v26 : IsFun Try.prog 26 m26 := ⟨_, Try.func26, by kernel_rfl, by kernel_rfl⟩
def m27 : Fun := Go.Lib.M25 Go.Proofs.Ytnbmmnjihipahaa.sa.F0
theorem v27 : IsFun Try.prog 27 m27 := ⟨_, Try.func27, by kernel_rfl, by kernel_rfl⟩
def m28 : Fun := Go.Lib.M54 Go.Proofs.Ytnbmmnjihipahaa.sa.F0
theorem v28 : IsFun Try.prog 28 m28 := ⟨_, Try.func28, by kernel_rfl, by kernel_rfl⟩
def m29 : Fun := Go.Lib.M55 Go.Proofs.Ytnbmmnjihipahaa.sa.F0
theorem v29 : IsFun Try.prog 29 m29 := ⟨_, Try.func29, by kernel_rfl, by kernel_rfl⟩
def m30 : Fun := Go.Lib.M56 Go.Proofs.Ytnbmmnjihipahaa.sa.F0
theorem v30 : IsFun Try.prog 30 m30 := ⟨_, Try.func30, by kernel_rfl, by kernel_rfl⟩
def m31 : Fun := Go.Lib.M49 Go.Proofs.Ytnbmmnjihipahaa.sa.F0
theorem v31 : IsFun Try.prog 31 m31 := ⟨_, Try.func31, by kernel_rfl, by kernel_rfl⟩
def m52 : Fun := Go.Lib.M36 Go.Proofs.Ytnbmmnjihipahaa.sa.F0
theorem v52 : IsFun Try.prog 52 m52 := ⟨_, Try.func52, by kernel_rfl, by kernel_rfl⟩
def m53 : Fun := Go.Lib.M37 Go.Proofs.Ytnbmmnjihipahaa.sa.F0
theorem v53 : IsFun Try.prog 53 m53 := ⟨_, Try.func53, by kernel_rfl, by kernel_rfl⟩
def m54 : Fun := Go.Lib.M26 Go.Proofs.Ytnbmmnjihipahaa.sa.F0
theorem v54 : IsFun Try.prog 54 m54 := ⟨_, Try.func54, by kernel_rfl, by kernel_rfl⟩
def m55 : Fun := Go.Lib.M38 Go.Proofs.Ytnbmmnjihipahaa.sa.F0
theorem v55 : IsFun Try.prog 55 m55 := ⟨_, Try.func55, by kernel_rfl, by kernel_rfl⟩
def m56 : Fun := Go.Lib.M1 Go.Proofs.Ytnbmmnjihipahaa.sa.F0
theorem v56 : IsFun Try.prog 56 m56 := ⟨_, Try.func56, by kernel_rfl, by kernel_rfl⟩
def m57 : Fun := Go.Lib.M3 Go.Proofs.Ytnbmmnjihipahaa.sa.F0
theorem v57 : IsFun Try.prog 57 m57 := ⟨_, Try.func57, by kernel_rfl, by kernel_rfl⟩
def m58 : Fun := Go.Lib.M39 Go.Proofs.Ytnbmmnjihipahaa.sa.F0
theorem v58 : IsFun Try.prog 58 m58 := ⟨_, Try.func58, by kernel_rfl, by kernel_rfl⟩
def m59 : Fun := ⟨5,1,.seq (.region [⟨(some 2),(.a (.new [.bool false,.int .i64 (.ofNat 0),.int .i64 (.ofNat 0),.nilslice])),none⟩])
 (.seq (.region [⟨(some 3),(.p (.mov (.tmp 0))),none⟩,⟨(some 4),(.p (.build [.bool false,.int .i64 (.ofNat 0),.int .i64 (.ofNat 0),.nilslice] [(1,1,(.val (.int .i64 (.ofNat 1)))),(2,1,(.tmp 3))])),none⟩,⟨none,(.e (.store 4 (.tmp 2) (.tmp 4))),none⟩])
 (.ret)),[.celln 4 2]⟩
theorem v59 : IsFun Try.prog 59 m59 := ⟨_, Try.func59, by kernel_rfl, by kernel_rfl⟩
def m60 : Fun := Go.Lib.M2 Go.Proofs.Ytnbmmnjihipahaa.sa.F0
theorem v60 : IsFun Try.prog 60 m60 := ⟨_, Try.func60, by kernel_rfl, by kernel_rfl⟩
def m61 : Fun := Go.Lib.M4 Go.Proofs.Ytnbmmnjihipahaa.sa.F0
theorem v61 : IsFun Try.prog 61 m61 := ⟨_, Try.func61, by kernel_rfl, by kernel_rfl⟩
def m62 : Fun := Go.Lib.M5 Go.Proofs.Ytnbmmnjihipahaa.sa.F0
theorem v62 : IsFun Try.prog 62 m62 := ⟨_, Try.func62, by kernel_rfl, by kernel_rfl⟩
def m63 : Fun := Go.Lib.M40 Go.Proofs.Ytnbmmnjihipahaa.sa.F0
theorem v63 : IsFun Try.prog 63 m63 := ⟨_, Try.func63, by kernel_rfl, by kernel_rfl⟩
def m64 : Fun := Go.Lib.M47 Go.Proofs.Ytnbmmnjihipahaa.sa.F0
theorem v64 : IsFun Try.prog 64 m64 := ⟨_, Try.func64, by kernel_rfl, by kernel_rfl⟩
def m65 : Fun := Go.Lib.M57 Go.Proofs.Ytnbmmnjihipahaa.sa.F0
theorem v65 : IsFun Try.prog 65 m65 := ⟨_, Try.func65, by kernel_rfl, by kernel_rfl⟩
def m66 : Fun := Go.Lib.M58 Go.Proofs.Ytnbmmnjihipahaa.sa.F0
theorem v66 : IsFun Try.prog 66 m66 := ⟨_, Try.func66, by kernel_rfl, by kernel_rfl⟩
def m67 : Fun := Go.Lib.M50 Go.Proofs.Ytnbmmnjihipahaa.sa.F0
theorem v67 : IsFun Try.prog 67 m67 := ⟨_, Try.func67, by kernel_rfl, by kernel_rfl⟩
def m68 : Fun := Go.Lib.M59 Go.Proofs.Ytnbmmnjihipahaa.sa.F0
theorem v68 : IsFun Try.prog 68 m68 := ⟨_, Try.func68, by kernel_rfl, by kernel_rfl⟩
def m84 : Fun := Go.Lib.M41 Go.Proofs.Ytnbmmnjihipahaa.sa.F0
theorem v84 : IsFun Try.prog 84 m84 := ⟨_, Try.func84, by kernel_rfl, by kernel_rfl⟩
def m85 : Fun := Go.Lib.M13 Go.Proofs.Ytnbmmnjihipahaa.sa.F0
theorem v85 : IsFun Try.prog 85 m85 := ⟨_, Try.func85, by kernel_rfl, by kernel_rfl⟩
def m86 : Fun := Go.Lib.M27 Go.Proofs.Ytnbmmnjihipahaa.sa.F0
theorem v86 : IsFun Try.prog 86 m86 := ⟨_, Try.func86, by kernel_rfl, by kernel_rfl⟩
def m87 : Fun := Go.Lib.M9 Go.Proofs.Ytnbmmnjihipahaa.sa.F0
theorem v87 : IsFun Try.prog 87 m87 := ⟨_, Try.func87, by kernel_rfl, by kernel_rfl⟩
def m88 : Fun := Go.Lib.M8 Go.Proofs.Ytnbmmnjihipahaa.sa.F0
theorem v88 : IsFun Try.prog 88 m88 := ⟨_, Try.func88, by kernel_rfl, by kernel_rfl⟩
def m89 : Fun := Go.Lib.M10 Go.Proofs.Ytnbmmnjihipahaa.sa.F0
theorem v89 : IsFun Try.prog 89 m89 := ⟨_, Try.func89, by kernel_rfl, by kernel_rfl⟩
def m90 : Fun := Go.Lib.M11 Go.Proofs.Ytnbmmnjihipahaa.sa.F0
theorem v90 : IsFun Try.prog 90 m90 := ⟨_, Try.func90, by kernel_rfl, by kernel_rfl⟩
end Go.Proofs.Ytnbmmnjihipahaa
end

section
set_option maxRecDepth 100000
namespace Go.Proofs.Ytnbmmnjihipahaa
open Go.Vm
def m91 : Fun := Go.Lib.M12 Go.Proofs.Ytnbmmnjihipahaa.sa.F0
theorem v91 : IsFun Try.prog 91 m91 := ⟨_, Try.func91, by kernel_rfl, by kernel_rfl⟩
def m92 : Fun := Go.Lib.M14 Go.Proofs.Ytnbmmnjihipahaa.sa.F0
theorem v92 : IsFun Try.prog 92 m92 := ⟨_, Try.func92, by kernel_rfl, by kernel_rfl⟩
def m93 : Fun := Go.Lib.M42 Go.Proofs.Ytnbmmnjihipahaa.sa.F0
theorem v93 : IsFun Try.prog 93 m93 := ⟨_, Try.func93, by kernel_rfl, by kernel_rfl⟩
def m94 : Fun := Go.Lib.M60 Go.Proofs.Ytnbmmnjihipahaa.sa.F0
theorem v94 : IsFun Try.prog 94 m94 := ⟨_, Try.func94, by kernel_rfl, by kernel_rfl⟩
def m112 : Fun := Go.Lib.M43 Go.Proofs.Ytnbmmnjihipahaa.sa.F0
theorem v112 : IsFun Try.prog 112 m112 := ⟨_, Try.func112, by kernel_rfl, by kernel_rfl⟩
def m113 : Fun := Go.Lib.M44 Go.Proofs.Ytnbmmnjihipahaa.sa.F0
theorem v113 : IsFun Try.prog 113 m113 := ⟨_, Try.func113, by kernel_rfl, by kernel_rfl⟩
def m114 : Fun := Go.Lib.M28 Go.Proofs.Ytnbmmnjihipahaa.sa.F0
theorem v114 : IsFun Try.prog 114 m114 := ⟨_, Try.func114, by kernel_rfl, by kernel_rfl⟩
def m115 : Fun := Go.Lib.M29 Go.Proofs.Ytnbmmnjihipahaa.sa.F0
theorem v115 : IsFun Try.prog 115 m115 := ⟨_, Try.func115, by kernel_rfl, by kernel_rfl⟩
def m116 : Fun := Go.Lib.M18 Go.Proofs.Ytnbmmnjihipahaa.sa.F0
theorem v116 : IsFun Try.prog 116 m116 := ⟨_, Try.func116, by kernel_rfl, by kernel_rfl⟩
def m117 : Fun := Go.Lib.M19 Go.Proofs.Ytnbmmnjihipahaa.sa.F0
theorem v117 : IsFun Try.prog 117 m117 := ⟨_, Try.func117, by kernel_rfl, by kernel_rfl⟩
def m127 : Fun := Go.Lib.M30 Go.Proofs.Ytnbmmnjihipahaa.sa.F0
theorem v127 : IsFun Try.prog 127 m127 := ⟨_, Try.func127, by kernel_rfl, by kernel_rfl⟩
def m131 : Fun := Go.Lib.M7 Go.Proofs.Ytnbmmnjihipahaa.sa.F0
theorem v131 : IsFun Try.prog 131 m131 := ⟨_, Try.func131, by kernel_rfl, by kernel_rfl⟩
def m132 : Fun := Go.Lib.M31 Go.Proofs.Ytnbmmnjihipahaa.sa.F0
theorem v132 : IsFun Try.prog 132 m132 := ⟨_, Try.func132, by kernel_rfl, by kernel_rfl⟩
def m135 : Fun := Go.Lib.M16 Go.Proofs.Ytnbmmnjihipahaa.sa.F0
theorem v135 : IsFun Try.prog 135 m135 := ⟨_, Try.func135, by kernel_rfl, by kernel_rfl⟩
def m136 : Fun := Go.Lib.M17 Go.Proofs.Ytnbmmnjihipahaa.sa.F0
theorem v136 : IsFun Try.prog 136 m136 := ⟨_, Try.func136, by kernel_rfl, by kernel_rfl⟩
def m137 : Fun := Go.Lib.M21 Go.Proofs.Ytnbmmnjihipahaa.sa.F0
theorem v137 : IsFun Try.prog 137 m137 := ⟨_, Try.func137, by kernel_rfl, by kernel_rfl⟩
def m138 : Fun := Go.Lib.M6 Go.Proofs.Ytnbmmnjihipahaa.sa.F0
theorem v138 : IsFun Try.prog 138 m138 := ⟨_, Try.func138, by kernel_rfl, by kernel_rfl⟩
def m140 : Fun := Go.Lib.M15 Go.Proofs.Ytnbmmnjihipahaa.sa.F0
theorem v140 : IsFun Try.prog 140 m140 := ⟨_, Try.func140, by kernel_rfl, by kernel_rfl⟩
end Go.Proofs.Ytnbmmnjihipahaa
end

section
set_option maxRecDepth 100000
namespace Go.Proofs.Ytnbmmnjihipahaa
open Go.Vm
def funs : T Fun := (.node (.node (.node (.node (.node (.node (.node (.node .leaf (some m127) .leaf) (some m63) .leaf) (some m31) .leaf) (some m15) .leaf) none (.node (.node (.node (.node .leaf (some m135) .leaf) none .leaf) none .leaf) (some m23) (.node (.node .leaf (some m87) .leaf) (some m55) .leaf))) none (.node (.node (.node (.node (.node .leaf (some m131) .leaf) (some m67) .leaf) none .leaf) (some m19) (.node .leaf none (.node .leaf (some m115) .leaf))) none (.node .leaf (some m27) (.node (.node .leaf (some m91) .leaf) (some m59) .leaf)))) none (.node (.node (.node (.node (.node .leaf (some m65) .leaf) none .leaf) (some m17) (.node .leaf none (.node .leaf (some m113) .leaf))) none (.node (.node (.node (.node .leaf (some m137) .leaf) none .leaf) none .leaf) (some m25) (.node (.node .leaf (some m89) .leaf) (some m57) .leaf))) none (.node (.node .leaf (some m21) (.node (.node .leaf (some m85) .leaf) (some m53) (.node .leaf (some m117) .leaf))) none (.node .leaf (some m29) (.node (.node .leaf (some m93) .leaf) (some m61) .leaf))))) none (.node (.node (.node (.node (.node (.node .leaf (some m64) .leaf) none .leaf) (some m16) (.node .leaf none (.node .leaf (some m112) .leaf))) none (.node (.node (.node (.node .leaf (some m136) .leaf) none .leaf) none .leaf) (some m24) (.node (.node .leaf (some m88) .leaf) (some m56) .leaf))) none (.node (.node (.node (.node (.node .leaf (some m132) .leaf) (some m68) .leaf) none .leaf) none (.node (.node .leaf (some m84) .leaf) (some m52) (.node .leaf (some m116) .leaf))) none (.node (.node (.node (.node .leaf (some m140) .leaf) none .leaf) none .leaf) (some m28) (.node (.node .leaf (some m92) .leaf) (some m60) .leaf)))) none (.node (.node (.node (.node (.node .leaf (some m66) .leaf) none .leaf) (some m18) (.node .leaf none (.node .leaf (some m114) .leaf))) none (.node (.node (.node (.node .leaf (some m138) .leaf) none .leaf) none .leaf) (some m26) (.node (.node .leaf (some m90) .leaf) (some m58) .leaf))) (some m6) (.node (.node .leaf (some m22) (.node (.node .leaf (some m86) .leaf) (some m54) .leaf)) none (.node .leaf (some m30) (.node (.node .leaf (some m94) .leaf) (some m62) .leaf))))))
def ints : List Nat := [2,3,5,6,12,21,56,72,147,191,192,193,196,197]
theorem intsOk : IntsOk Try.prog ints := ints_of (by kernel_rfl)
def mach (tab : Tab) : Vm.Prog := ⟨funs, ⟨tab, ints⟩⟩
theorem valid (tab : Tab) : Valid Try.prog (mach tab) := valid_of (show AllT (IsFun Try.prog) 1 0 funs from ⟨trivial, ⟨trivial, ⟨trivial, ⟨trivial, ⟨v15, ⟨v31, ⟨v63, ⟨v127, trivial, trivial⟩, trivial⟩, trivial⟩, trivial⟩, ⟨v23, ⟨trivial, ⟨trivial, ⟨v135, trivial, trivial⟩, trivial⟩, trivial⟩, ⟨v55, ⟨v87, trivial, trivial⟩, trivial⟩⟩⟩, ⟨trivial, ⟨v19, ⟨trivial, ⟨v67, ⟨v131, trivial, trivial⟩, trivial⟩, trivial⟩, ⟨trivial, trivial, ⟨v115, trivial, trivial⟩⟩⟩, ⟨v27, trivial, ⟨v59, ⟨v91, trivial, trivial⟩, trivial⟩⟩⟩⟩, ⟨trivial, ⟨trivial, ⟨v17, ⟨trivial, ⟨v65, trivial, trivial⟩, trivial⟩, ⟨trivial, trivial, ⟨v113, trivial, trivial⟩⟩⟩, ⟨v25, ⟨trivial, ⟨trivial, ⟨v137, trivial, trivial⟩, trivial⟩, trivial⟩, ⟨v57, ⟨v89, trivial, trivial⟩, trivial⟩⟩⟩, ⟨trivial, ⟨v21, trivial, ⟨v53, ⟨v85, trivial, trivial⟩, ⟨v117, trivial, trivial⟩⟩⟩, ⟨v29, trivial, ⟨v61, ⟨v93, trivial, trivial⟩, trivial⟩⟩⟩⟩⟩, ⟨trivial, ⟨trivial, ⟨trivial, ⟨v16, ⟨trivial, ⟨v64, trivial, trivial⟩, trivial⟩, ⟨trivial, trivial, ⟨v112, trivial, trivial⟩⟩⟩, ⟨v24, ⟨trivial, ⟨trivial, ⟨v136, trivial, trivial⟩, trivial⟩, trivial⟩, ⟨v56, ⟨v88, trivial, trivial⟩, trivial⟩⟩⟩, ⟨trivial, ⟨trivial, ⟨trivial, ⟨v68, ⟨v132, trivial, trivial⟩, trivial⟩, trivial⟩, ⟨v52, ⟨v84, trivial, trivial⟩, ⟨v116, trivial, trivial⟩⟩⟩, ⟨v28, ⟨trivial, ⟨trivial, ⟨v140, trivial, trivial⟩, trivial⟩, trivial⟩, ⟨v60, ⟨v92, trivial, trivial⟩, trivial⟩⟩⟩⟩, ⟨v6, ⟨trivial, ⟨v18, ⟨trivial, ⟨v66, trivial, trivial⟩, trivial⟩, ⟨trivial, trivial, ⟨v114, trivial, trivial⟩⟩⟩, ⟨v26, ⟨trivial, ⟨trivial, ⟨v138, trivial, trivial⟩, trivial⟩, trivial⟩, ⟨v58, ⟨v90, trivial, trivial⟩, trivial⟩⟩⟩, ⟨trivial, ⟨v22, trivial, ⟨v54, ⟨v86, trivial, trivial⟩, trivial⟩⟩, ⟨v30, trivial, ⟨v62, ⟨v94, trivial, trivial⟩, trivial⟩⟩⟩⟩⟩⟩)
end Go.Proofs.Ytnbmmnjihipahaa
end

section
set_option maxRecDepth 100000
namespace Go.Proofs.Ytnbmmnjihipahaa
open Go.Vm
theorem x118 : IsExt Try.prog (118, .cmp) := ⟨_, Try.func118, by kernel_rfl, by kernel_rfl, by kernel_rfl, by kernel_rfl⟩
theorem x119 : IsExt Try.prog (119, .add64) := ⟨_, Try.func119, by kernel_rfl, by kernel_rfl, by kernel_rfl, by kernel_rfl⟩
def exts : List (Nat × Ek) := [(118, .cmp), (119, .add64)]
theorem extsOk : ∀ x, x ∈ exts → IsExt Try.prog x := by
  intro x hx
  unfold exts at hx
  rcases List.mem_cons.1 hx with rfl | hx
  · exact x118
  rcases List.mem_cons.1 hx with rfl | hx
  · exact x119
  cases hx
end Go.Proofs.Ytnbmmnjihipahaa
end

section
set_option maxRecDepth 100000
namespace Go.Proofs.Ytnbmmnjihipahaa.sa
open Go.Vm Go.Dv Go.Lib
def pr : Vm.Prog := mach []
def xt : Ext := orX (constX [16]) (extBy exts)
theorem has1 : Go.Dv.Has pr xt F0 1 Go.Lib.M1 := ⟨by kernel_rfl, fun _ _ => rfl⟩
theorem has2 : Go.Dv.Has pr xt F0 2 Go.Lib.M2 := ⟨by kernel_rfl, fun _ _ => rfl⟩
theorem has3 : Go.Dv.Has pr xt F0 3 Go.Lib.M3 := ⟨by kernel_rfl, fun _ _ => rfl⟩
theorem has4 : Go.Dv.Has pr xt F0 4 Go.Lib.M4 := ⟨by kernel_rfl, fun _ _ => rfl⟩
theorem has5 : Go.Dv.Has pr xt F0 5 Go.Lib.M5 := ⟨by kernel_rfl, fun _ _ => rfl⟩
theorem has6 : Go.Dv.Has pr xt F0 6 Go.Lib.M6 := ⟨by kernel_rfl, fun _ _ => rfl⟩
theorem has7 : Go.Dv.Has pr xt F0 7 Go.Lib.M7 := ⟨by kernel_rfl, fun _ _ => rfl⟩
theorem has8 : Go.Dv.Has pr xt F0 8 Go.Lib.M8 := ⟨by kernel_rfl, fun _ _ => rfl⟩
theorem has9 : Go.Dv.Has pr xt F0 9 Go.Lib.M9 := ⟨by kernel_rfl, fun _ _ => rfl⟩
theorem has10 : Go.Dv.Has pr xt F0 10 Go.Lib.M10 := ⟨by kernel_rfl, fun _ _ => rfl⟩
theorem has11 : Go.Dv.Has pr xt F0 11 Go.Lib.M11 := ⟨by kernel_rfl, fun _ _ => rfl⟩
theorem has12 : Go.Dv.Has pr xt F0 12 Go.Lib.M12 := ⟨by kernel_rfl, fun _ _ => rfl⟩
theorem has13 : Go.Dv.Has pr xt F0 13 Go.Lib.M13 := ⟨by kernel_rfl, fun _ _ => rfl⟩
theorem has14 : Go.Dv.Has pr xt F0 14 Go.Lib.M14 := ⟨by kernel_rfl, fun _ _ => rfl⟩
theorem has15 : Go.Dv.Has pr xt F0 15 Go.Lib.M15 := ⟨by kernel_rfl, fun _ _ => rfl⟩
theorem has16 : Go.Dv.Has pr xt F0 16 Go.Lib.M16 := ⟨by kernel_rfl, fun _ _ => rfl⟩
theorem has17 : Go.Dv.Has pr xt F0 17 Go.Lib.M17 := ⟨by kernel_rfl, fun _ _ => rfl⟩
theorem has18 : Go.Dv.Has pr xt F0 18 Go.Lib.M18 := ⟨by kernel_rfl, fun _ _ => rfl⟩
theorem has19 : Go.Dv.Has pr xt F0 19 Go.Lib.M19 := ⟨by kernel_rfl, fun _ _ => rfl⟩
theorem has21 : Go.Dv.Has pr xt F0 21 Go.Lib.M21 := ⟨by kernel_rfl, fun _ _ => rfl⟩
theorem has22 : Go.Dv.Has pr xt F0 22 Go.Lib.M22 := ⟨by kernel_rfl, fun _ _ => rfl⟩
theorem has23 : Go.Dv.Has pr xt F0 23 Go.Lib.M23 := ⟨by kernel_rfl, fun _ _ => rfl⟩
theorem has24 : Go.Dv.Has pr xt F0 24 Go.Lib.M24 := ⟨by kernel_rfl, fun _ _ => rfl⟩
theorem has25 : Go.Dv.Has pr xt F0 25 Go.Lib.M25 := ⟨by kernel_rfl, fun _ _ => rfl⟩
theorem has26 : Go.Dv.Has pr xt F0 26 Go.Lib.M26 := ⟨by kernel_rfl, fun _ _ => rfl⟩
theorem has27 : Go.Dv.Has pr xt F0 27 Go.Lib.M27 := ⟨by kernel_rfl, fun _ _ => rfl⟩
theorem has28 : Go.Dv.Has pr xt F0 28 Go.Lib.M28 := ⟨by kernel_rfl, fun _ _ => rfl⟩
theorem has29 : Go.Dv.Has pr xt F0 29 Go.Lib.M29 := ⟨by kernel_rfl, fun _ _ => rfl⟩
theorem has30 : Go.Dv.Has pr xt F0 30 Go.Lib.M30 := ⟨by kernel_rfl, fun _ _ => rfl⟩
theorem has31 : Go.Dv.Has pr xt F0 31 Go.Lib.M31 := ⟨by kernel_rfl, fun _ _ => rfl⟩
theorem has32 : Go.Dv.Has pr xt F0 32 Go.Lib.M32 := ⟨by kernel_rfl, fun _ _ => rfl⟩
theorem has33 : Go.Dv.Has pr xt F0 33 Go.Lib.M33 := ⟨by kernel_rfl, fun _ _ => rfl⟩
theorem has34 : Go.Dv.Has pr xt F0 34 Go.Lib.M34 := ⟨by kernel_rfl, fun _ _ => rfl⟩
theorem has35 : Go.Dv.Has pr xt F0 35 Go.Lib.M35 := ⟨by kernel_rfl, fun _ _ => rfl⟩
theorem has36 : Go.Dv.Has pr xt F0 36 Go.Lib.M36 := ⟨by kernel_rfl, fun _ _ => rfl⟩
theorem has37 : Go.Dv.Has pr xt F0 37 Go.Lib.M37 := ⟨by kernel_rfl, fun _ _ => rfl⟩
theorem has38 : Go.Dv.Has pr xt F0 38 Go.Lib.M38 := ⟨by kernel_rfl, fun _ _ => rfl⟩
theorem has39 : Go.Dv.Has pr xt F0 39 Go.Lib.M39 := ⟨by kernel_rfl, fun _ _ => rfl⟩
theorem has40 : Go.Dv.Has pr xt F0 40 Go.Lib.M40 := ⟨by kernel_rfl, fun _ _ => rfl⟩
theorem has41 : Go.Dv.Has pr xt F0 41 Go.Lib.M41 := ⟨by kernel_rfl, fun _ _ => rfl⟩
theorem has42 : Go.Dv.Has pr xt F0 42 Go.Lib.M42 := ⟨by kernel_rfl, fun _ _ => rfl⟩
theorem has43 : Go.Dv.Has pr xt F0 43 Go.Lib.M43 := ⟨by kernel_rfl, fun _ _ => rfl⟩
theorem has44 : Go.Dv.Has pr xt F0 44 Go.Lib.M44 := ⟨by kernel_rfl, fun _ _ => rfl⟩
theorem has46 : Go.Dv.Has pr xt F0 46 Go.Lib.M46 := ⟨by kernel_rfl, fun _ _ => rfl⟩
theorem has47 : Go.Dv.Has pr xt F0 47 Go.Lib.M47 := ⟨by kernel_rfl, fun _ _ => rfl⟩
theorem has48 : Go.Dv.Has pr xt F0 48 Go.Lib.M48 := ⟨by kernel_rfl, fun _ _ => rfl⟩
theorem has49 : Go.Dv.Has pr xt F0 49 Go.Lib.M49 := ⟨by kernel_rfl, fun _ _ => rfl⟩
theorem has50 : Go.Dv.Has pr xt F0 50 Go.Lib.M50 := ⟨by kernel_rfl, fun _ _ => rfl⟩
theorem has53 : Go.Dv.Has pr xt F0 53 Go.Lib.M53 := ⟨by kernel_rfl, fun _ _ => rfl⟩
theorem has54 : Go.Dv.Has pr xt F0 54 Go.Lib.M54 := ⟨by kernel_rfl, fun _ _ => rfl⟩
theorem has55 : Go.Dv.Has pr xt F0 55 Go.Lib.M55 := ⟨by kernel_rfl, fun _ _ => rfl⟩
theorem has56 : Go.Dv.Has pr xt F0 56 Go.Lib.M56 := ⟨by kernel_rfl, fun _ _ => rfl⟩
theorem has57 : Go.Dv.Has pr xt F0 57 Go.Lib.M57 := ⟨by kernel_rfl, fun _ _ => rfl⟩
theorem has58 : Go.Dv.Has pr xt F0 58 Go.Lib.M58 := ⟨by kernel_rfl, fun _ _ => rfl⟩
theorem has59 : Go.Dv.Has pr xt F0 59 Go.Lib.M59 := ⟨by kernel_rfl, fun _ _ => rfl⟩
theorem has60 : Go.Dv.Has pr xt F0 60 Go.Lib.M60 := ⟨by kernel_rfl, fun _ _ => rfl⟩
theorem has61 : Go.Dv.Has pr xt F0 61 Go.Lib.M61 := ⟨by kernel_rfl, fun _ _ => rfl⟩
end Go.Proofs.Ytnbmmnjihipahaa.sa
end

section
set_option maxRecDepth 100000
namespace Go.Proofs.Ytnbmmnjihipahaa.sa
open Go.Vm
theorem awakeR : runs (mach []) (extBy exts) 1000000 16 [] Try.prog.globals.size = true := by decide +kernel
end Go.Proofs.Ytnbmmnjihipahaa.sa
end

section
set_option maxRecDepth 100000
namespace Go.Proofs.Ytnbmmnjihipahaa.sa
open Go.Vm Go.Dv Go.Lib
theorem hawake : FnD pr xt (F0 52) [] (.lit (.bool true)) := by
  intro H ψ S h vs s k
  simp only [VDl] at k
  subst k
  refine wpc_ext (v := .bool true) (h' := h) rfl ⟨ψ, S, _, H, .refl, s, ?_, rfl, rfl⟩
  simp [VD, atomV]
theorem x20 : ∀ args h, xt (F0 20) args h = extV .cmp args h := fun _ _ => rfl
theorem x45 : ∀ args h, xt (F0 45) args h = extV .add64 args h := fun _ _ => rfl
theorem hschm : HSchm pr xt F0 := ⟨has1, has2, has3, has4, has5, has6, has7, has8, has9, has10, has11, has12, has13, has14, has15, has16, has17, has18, has19, has21, x20⟩
theorem hlaw6 : HLaw6 pr xt F0 := ⟨has22, has23, has24, has25⟩
theorem hsrt : HSrt pr xt F0 := ⟨has26, has27, has28, has29, has30, has31⟩
theorem haggr : HAggr pr xt F0 := ⟨hsrt, hschm, has32, has33, has34, has35, has36, has37, has38, has39, has40, has41, has42, has43, has44⟩
theorem href6 : HRef6 pr xt F0 := ⟨has46, has47, has48, has49, has50⟩
theorem href15 : HRef15 pr xt F0 := ⟨href6, has53, has54, has55, has56, has57, has58, has59, has60⟩
theorem hlaw : HLaw16t pr xt F0 := ⟨haggr, hlaw6, href15, x45, hawake, has61⟩
theorem mixed : Try.prog.follows .mixedOrders = true := by kernel_rfl
theorem xt_ok {env : Env} : CallOk Try.prog env xt := orX_ok (constX_ok mixed (valid []) (extBy_rises _) (extBy_ok extsOk) rfl intsOk (n := 1000000) fun f hf => by
  rcases List.mem_cons.1 hf with rfl | hf
  · exact ⟨by kernel_rfl, awakeR⟩
  · cases hf) (extBy_ok extsOk)
theorem xt_rises : Rises xt := orX_rises (constX_rises _) (extBy_rises _)
end Go.Proofs.Ytnbmmnjihipahaa.sa
end
