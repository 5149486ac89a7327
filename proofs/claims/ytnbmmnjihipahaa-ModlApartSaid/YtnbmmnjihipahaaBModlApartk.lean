/-
  Texts that the claim's last one rests on, joined.
-/
import Derived.Test.YtnbmmnjihipahaaBModlApartj
import Derived.Test.YtnbmmnjihipahaaBModlAparti
import Derived.Test.YtnbmmnjihipahaaBModlApartg
import Derived.Test.YtnbmmnjihipahaaBModlApartf
import Derived.Test.YtnbmmnjihipahaaRows
import Derived.Test.YtnbmmnjihipahaaBModlAparth
import Derived.Test.YtnbmmnjihipahaaBModlApartc

section
set_option maxRecDepth 10000
namespace Go.Lib
open Go.Vm Go.Dv Go.Srt
variable {p : Prog} {ext : Ext} {F : Nat → Nat}
def insK (R : List Row) (r : Row) : List Row := R.takeWhile (fun x => decide (keyF x < keyF r)) ++ r :: R.dropWhile (fun x => decide (keyF x < keyF r))
def hasR (R : List Row) (k : Int) : Bool := R.any fun x => decide (keyF x = k)
theorem KeyAt.len {R : List Row} {k : Int} {i : Nat} (h : KeyAt R k i) : (R.takeWhile (fun x => decide (keyF x < k))).length = i := by
  obtain ⟨h1, h2, h3⟩ := h
  refine takeWhile_len h1 (fun q x hq hx => by simpa using h2 q x hq hx) ?_
  by_cases e : i = R.length
  · exact .inl e
  · refine .inr ⟨R[i]'(by omega), by simp, ?_⟩
    have := h3 i (R[i]'(by omega)) (Nat.le_refl _) (by simp)
    simpa using this
theorem KeyAt.put {R : List Row} {r : Row} {i : Nat} (h : KeyAt R (keyF r) i) : putAt R i r = insK R r := by
  have e := h.len
  unfold putAt insK
  rw [← e, take_tw, drop_tw]
theorem KeyAt.has {R : List Row} {k : Int} {i : Nat} (h : KeyAt R k i) (hk : KeyRise R) : hasK R k i = hasR R k := by
  obtain ⟨h1, h2, h3⟩ := h
  unfold hasK hasR
  rw [Bool.eq_iff_iff]
  constructor
  · intro e
    split at e
    · rename_i r hr
      exact List.any_eq_true.2 ⟨r, List.mem_of_getElem? hr, e⟩
    · cases e
  · intro e
    obtain ⟨x, hx, hxk⟩ := List.any_eq_true.1 e
    have hxk : keyF x = k := by simpa using hxk
    obtain ⟨q, hq⟩ := List.mem_iff_getElem?.1 hx
    have hqi : i ≤ q := by
      by_cases hlt : q < i
      · have := h2 q x hlt hq; omega
      · omega
    have hql := (List.getElem?_eq_some_iff.1 hq).1
    have hi : R[i]? = some (R[i]'(by omega)) := by simp
    rw [hi]
    by_cases e2 : i = q
    · subst e2
      have e3 := Option.some.inj (hi.symm.trans hq)
      simpa [e3] using hxk
    · have := List.pairwise_iff_getElem.1 hk i q (by omega) hql (by omega)
      obtain ⟨_, e3⟩ := List.getElem?_eq_some_iff.1 hq
      have h4 := h3 i (R[i]'(by omega)) (Nat.le_refl _) hi
      rw [e3] at this
      omega
def doF (R : List Row) (o : Op) : List Row × Rs :=
  if o.kind = 1 then (if hasR R (keyF o.row) then (R, ⟨1, 0, []⟩) else (insK R o.row, ⟨0, 1, []⟩))
  else if o.kind = 2 then (match updF o R with
    | some M => (M, ⟨0, cntF o R, []⟩)
    | none => (R, ⟨2, 0, []⟩))
  else if o.kind = 3 then (keepF (pickF o) R, ⟨0, cntF o R, []⟩)
  else if o.kind = 4 then (R, ⟨0, 0, sortL cmpR (colsF o.cols (R.filter (pickF o)))⟩)
  else if o.kind = 5 then (if (grpsF o.group o.aggs (R.filter (pickF o))).2 then (R, ⟨0, 0, (grpsF o.group o.aggs (R.filter (pickF o))).1⟩) else (R, ⟨2, 0, []⟩))
  else if o.kind = 6 then (R, ⟨3, 0, []⟩) else (R, ⟨0, 0, []⟩)
theorem WeakV.tupA {d d2 : D} {H H2 : HpD} {cs cs2 : List D} (k : WeakV d H d2 H2) (h : D.les cs cs2) : WeakV (.tup [d, .agg cs]) H (.tup [d2, .agg cs2]) H2 := by
  intro ψ S hp v s kv
  simp only [VD, VDl] at kv
  obtain ⟨l', rfl, x, r, rfl, kx, y, r2, rfl, ⟨ly, rfl, ky⟩, rfl⟩ := kv
  obtain ⟨ψ', S', x1, s1, k1⟩ := k ψ S hp x s kx
  refine ⟨ψ', S', x1, s1, ?_⟩
  simp only [VD, VDl]
  exact ⟨_, rfl, x, _, rfl, k1, _, _, rfl, ⟨ly, rfl, VDl.le _ _ h (VDl.mono x1 _ ky)⟩, rfl⟩
theorem fin_own {H0 H : HpD} {s : D} {R : List Row} {cs : List D} {x : Rs} (g : Gr H0 H 1 s (rowsE R)) (h : D.les cs x.c) : Fin H0 (.tup [rowsD R, .agg x.c]) (.tup [s, .agg cs]) H := by
  obtain ⟨H2, w, sub, _⟩ := g.fin rows_underss (m := .p) (by simp)
  exact ⟨H2, WeakV.tupA w h, sub, by simp [rows_under]⟩
theorem fin_row {H0 H : HpD} {R : List Row} {cs : List D} {x : Rs} (hs : Sub H0 H) (h : D.les cs x.c) : Fin H0 (.tup [rowsD R, .agg x.c]) (.tup [rowsD R, .agg cs]) H :=
  ⟨H, WeakV.tupA .refl h, hs, by simp [rows_under]⟩
theorem fin_part {H0 H : HpD} {s : D} {R : List Row} {cs : List D} {x : Rs} (g : Part H0 H 1 s (rowsE R)) (h : D.les cs x.c) : Fin H0 (.tup [rowsD R, .agg x.c]) (.tup [s, .agg cs]) H := by
  obtain ⟨H2, w, sub⟩ := g.fin
  exact ⟨H2, WeakV.tupA w h, sub, by simp [rows_under]⟩
theorem clip_part (L : HAggr p ext F) {H : HpD} {b m n : Nat} (hm : m ≤ n) : WcD p ext (F 39) [.slice b 0 1 m n true] H (fun d H' => d = .slice b 0 1 m m true ∧ H' = H) := by
  refine wc_of L.h39 (M := M39) rfl ok39 rfl (sem_run 9000 _ ?_)
  have e : slcD 1 (.slice b 0 1 m n true) none (some (.lit (.int .i64 (m : Int)))) (some (.lit (.int .i64 (m : Int)))) = some (.slice b 0 1 m m true) := by
    simp [slcD, bndD, slcV, sliceO, needH, boundM, boundH, boundL, ble_d, hm]
  simp [e]
  refine sem_ret ?_
  simp [M39]
theorem clip_nil (L : HAggr p ext F) {H : HpD} : WcD p ext (F 39) [.lit .nilslice] H (fun d H' => d = .lit .nilslice ∧ H' = H) := by
  refine wc_of L.h39 (M := M39) rfl ok39 rfl (sem_run 9000 _ ?_)
  simp [slc_nil]
  refine sem_ret ?_
  simp [M39]
structure DoOk (ks : List Int) (n : Nat) (R : List Row) (o : Op) : Prop where
  rows : RowsS R
  good : GoodRs ks R
  rise : KeyRise R
  op : OpS n o
  row : o.row.length < 1000
  cols : o.kind = 4 → o.cols.length < 1000 ∧ ∀ c, c ∈ o.cols → InK ks c
  aggs : o.kind = 5 → o.group < ks.length ∧ o.aggs.length < 900 ∧ ∀ a, a ∈ o.aggs → InK ks a.col
def DoI (H1 : HpD) (hb : Nat) (s : D) (o : Op) (R : List Row) (f : Nat) (k : Nat) (fr : FrD) (H : HpD) : Prop :=
  ∃ (i : Nat) (t : D), k = R.length - i ∧ i ≤ R.length ∧ fr = [(1, s), (5, .rptr o.c 0), (7, .ptr hb 0), (8, .func f [] [.rptr o.c 0]), (9, t), (17, s), (18, .lit (.int .i64 (R.length : Int))), (19, .lit (.int .i64 (i : Int)))] ∧
    Gr H1 H 1 t (rowsE ((R.take i).filter (pickF o)))
theorem modl_do (L : HModl p ext F) {ks : List Int} {n : Nat} {sc : Sch} {R : List Row} {o : Op} (h : DoOk ks n R o) : FnD p ext (F 70) [schD sc, rowsD R, .agg o.c] (.tup [rowsD (doF R o).1, .agg (doF R o).2.c]) := by
  refine fn_of L.h70 (M := M70) rfl ok70 rfl fun H => sem_run 9000 _ ?_
  simp
  refine sem_call (mstill_own L h.rows.fine) fun s H1 g1 => ?_
  obtain ⟨g1, tight⟩ := g1
  have hlen := g1.lenb
  rw [rows_len] at hlen
  have hR1 := h.rows.len
  refine sem_run 9000 _ ?_
  simp [hlen]
  refine sem_exact g1 fun H2 gx k2 n2 => ?_
  have gt : GrT (H.new (.cells [.lit (.int .i64 0), .lit (.int .i64 0), .lit .nilslice] false)) H2 s R := ⟨gx, tight⟩
  have hs7 : ¬ s.hasB H.next := fun e => by have := (g1.far e).1; rw [Dv.new_next] at this; omega
  have b7 : H2.blk H.next = .cells [.lit (.int .i64 0), .lit (.int .i64 0), .lit .nilslice] false := by
    rw [k2 _ hs7, g1.sub.blk H.next (by simp)]; simp
  have hn2 := gx.gr.sub.next
  rw [Dv.new_next] at hn2
  refine sem_loop (DoI H2 H.next s o R (F 73)) ?_ (k := R.length) ⟨0, .lit .nilslice, by simp, by simp, rfl, by simpa [rowsE] using Gr.start⟩
  rintro k fr H3 ⟨i, t, rfl, hi, rfl, g⟩
  refine sem_run 9000 _ ?_
  simp
  by_cases c : i < R.length
  · obtain ⟨r, hr⟩ : ∃ r, R[i]? = some r := ⟨R[i], by simp⟩
    have hc := cell_row hr
    have wi : wr .i64 ((i : Int) + 1) = ((i + 1 : Nat) : Int) := by rw [wr_of] <;> omega
    have gt3 := gt.far g.sub
    rcases gt3.at_ with ⟨rfl, rfl⟩ | ⟨b, rfl, h1, h2, h3⟩
    · simp at c
    · simp [c, h3, hc, -List.length_flatten]
      refine sem_fn (modl_do1 L (o := o) (r := r) h.op.pred) (by first | exact D.les_refl _ | simp) (sem_run 9000 _ ?_)
      cases hp : pickF o r with
      | true =>
        have ef : (R.take (i + 1)).filter (pickF o) = (R.take i).filter (pickF o) ++ [r] := by
          rw [List.take_add_one, hr, List.filter_append]; simp [hp]
        have hfl := List.length_filter_le (pickF o) (R.take i)
        rw [List.length_take, Nat.min_eq_left hi] at hfl
        simp
        refine sem_push g rfl rfl (roomyD (by simp only [rows_len]; omega) (by simp only [rows_len]; omega)) fun t' H4 g4 _ _ => ?_
        simp
        refine sem_ok ?_
        have e : rowsE ((R.take i).filter (pickF o)) ++ [[rowD r]] = rowsE ((R.take (i + 1)).filter (pickF o)) := by rw [ef]; simp [rowsE]
        rw [e] at g4
        exact ⟨R.length - (i + 1), by omega, i + 1, t', rfl, by omega, by rw [wi], g4⟩
      | false =>
        have ef : (R.take (i + 1)).filter (pickF o) = (R.take i).filter (pickF o) := by
          rw [List.take_add_one, hr, List.filter_append]; simp [hp]
        simp
        refine sem_ok ?_
        exact ⟨R.length - (i + 1), by omega, i + 1, t, rfl, by omega, by rw [wi], by rw [ef]; exact g⟩
  · have : i = R.length := by omega
    subst this
    rw [List.take_length] at g
    simp
    refine sem_turn_exit g 9 (by simp) fun H4 s4 k4 n4 => ?_
    refine sem_exit (sem_run 9000 _ ?_)
    have gt4 := gt.far s4
    have b7' : H4.blk H.next = .cells [.lit (.int .i64 0), .lit (.int .i64 0), .lit .nilslice] false := by
      rw [s4.blk _ (by omega), b7]
    have l7 : H.next < H4.next := by have := s4.next; omega
    have hfl := List.length_filter_le (pickF o) R
    have sub0 : Sub H (H.new (.cells [.lit (.int .i64 0), .lit (.int .i64 0), .lit .nilslice] false)) := Sub.refl.new
    have stay : ∀ x : BD, Gr H (H4.put H.next x) 1 s (rowsE R) := fun x => gt4.x.gr.aside sub0 (Nat.le_refl _) (by simp)
    have hfg : GoodRs ks (R.filter (pickF o)) := fun r hr => h.good r ((List.mem_filter.1 hr).1)
    have hff : Fine (R.filter (pickF o)) := ⟨by omega, fun r hr => h.rows.fine.2 r ((List.mem_filter.1 hr).1)⟩
    by_cases o1 : o.kind = 1
    · simp [o1]
      refine sem_call (modl_insert L gt4 hR1 h.rise (by have := h.row; omega)) ?_
      rintro d H5 ⟨i, hi, ⟨hh, rfl, g5⟩ | ⟨hh, s', rfl, g5⟩⟩
      · have b5 := g5.sub.blk H.next (by simp)
        have l5 := g5.sub.next
        simp at b5 l5
        have e : doF R o = (R, ⟨1, 0, []⟩) := by unfold doF; rw [if_pos o1, ← hi.has h.rise, hh]; rfl
        rw [e]
        refine sem_run 9000 _ ?_
        simp
        simp [b5]
        refine sem_ret ?_
        simp [M70]
        exact fin_own (g5.aside sub0 (Nat.le_refl _) (by simp)) (by simp [Rs.c, D.les, D.le, rows_nil])
      · have b5 := g5.sub.blk H.next (by simp)
        have l5 := g5.sub.next
        simp at b5 l5
        have e : doF R o = (insK R o.row, ⟨0, 1, []⟩) := by unfold doF; rw [if_pos o1, ← hi.has h.rise, hh]; rfl
        rw [e, ← hi.put]
        refine sem_run 9000 _ ?_
        simp
        simp [b5]
        refine sem_ret ?_
        simp [M70]
        exact fin_own (g5.aside sub0 (Nat.le_refl _) (by simp)) (by simp [Rs.c, D.les, D.le, rows_nil])
    · by_cases o2 : o.kind = 2
      · simp [o2]
        refine sem_row gt4.x.gr 0 rfl fun H5 s5 k5 n5 => ?_
        have b5 := s5.blk H.next (by simp)
        simp at b5
        refine sem_call (modl_update L h.rows h.op) ?_
        rintro d H6 (⟨M, s', hM, rfl, g6⟩ | ⟨hM, rfl, s6⟩)
        · have e : doF R o = (M, ⟨0, cntF o R, []⟩) := by unfold doF; rw [if_neg o1, if_pos o2, hM]
          rw [e]
          have b6 := g6.sub.blk H.next (by omega)
          rw [b5] at b6
          have l6 := g6.sub.next
          refine sem_run 9000 _ ?_
          simp
          simp [b6]
          refine sem_ret ?_
          simp [M70]
          exact fin_own (g6.aside (sub0.trans s5) (Nat.le_refl _) (by omega)) (by simp [Rs.c, D.les, D.le, rows_nil])
        · have e : doF R o = (R, ⟨2, 0, []⟩) := by unfold doF; rw [if_neg o1, if_pos o2, hM]
          rw [e]
          have b6 := s6.blk H.next (by omega)
          rw [b5] at b6
          have l6 := s6.next
          refine sem_run 9000 _ ?_
          simp
          simp [b6]
          refine sem_ret ?_
          simp [M70]
          exact fin_row (((sub0.trans s5).trans s6).put (Nat.le_refl _)) (by simp [Rs.c, D.les, D.le, rows_nil])
      · by_cases o3 : o.kind = 3
        · have e : doF R o = (keepF (pickF o) R, ⟨0, cntF o R, []⟩) := by unfold doF; rw [if_neg o1, if_neg o2, if_pos o3]
          rw [e]
          simp [o3]
          refine sem_call (deleteFunc L gt4 hR1 (f := F 73) (cl := [.rptr o.c 0]) (pf := pickF o) fun r _ => modl_do1 L h.op.pred) ?_
          rintro d H5 (⟨rfl, hk, s5⟩ | ⟨b, cs, rfl, hle, h1, h2, h3, h4, s5⟩)
          · have b5 := s5.blk H.next (by simp)
            have l5 := s5.next
            simp at b5 l5
            have l5' : H.next < H5.next := by omega
            refine sem_run 9000 _ ?_
            simp
            refine sem_call (clip_nil L.aggr) ?_
            rintro _ _ ⟨rfl, rfl⟩
            refine sem_run 9000 _ ?_
            simp
            simp [b5]
            refine sem_ret ?_
            simp [M70]
            exact fin_part ⟨(sub0.trans s5).put (Nat.le_refl _), rows_one, .inl ⟨rfl, by rw [hk]; rfl⟩⟩ (by simp [Rs.c, D.les, D.le, rows_nil, cntF])
          · have b5 := s5.blk H.next (by simp)
            have l5 := s5.next
            simp at b5 l5
            have l5' : H.next < H5.next := by omega
            refine sem_run 9000 _ ?_
            simp
            refine sem_call (clip_part L.aggr hle) ?_
            rintro _ _ ⟨rfl, rfl⟩
            refine sem_run 9000 _ ?_
            simp
            simp [b5]
            refine sem_ret ?_
            simp [M70]
            rw [Dv.new_next] at h1
            have hne : b ≠ H.next := by omega
            exact fin_part ⟨(sub0.trans s5).put (Nat.le_refl _), rows_one, .inr ⟨b, 0, _, _, cs, by rw [rows_len], by rw [rows_len]; exact Nat.le_refl _, by omega, by simpa using h2, by rw [put_blk, if_neg hne]; exact h3, by rw [rows_len, rowsE_flat, List.drop_zero, Nat.mul_one, h4]; rfl⟩⟩ (by simp [Rs.c, D.les, D.le, rows_nil, cntF])
        · by_cases o4 : o.kind = 4
          · have e : doF R o = (R, ⟨0, 0, sortL cmpR (colsF o.cols (R.filter (pickF o)))⟩) := by unfold doF; rw [if_neg o1, if_neg o2, if_neg o3, if_pos o4]
            rw [e]
            simp [o4]
            refine sem_fn (aggr_cols L.aggr (cols := o.cols) (m := .p) hff hfg (h.cols o4).1 (h.cols o4).2) (by simp [rowsD, D.les, D.le_refl]) (sem_run 9000 _ ?_)
            simp [b7']
            refine sem_ret ?_
            simp [M70]
            exact fin_own (stay _) (by simp [Rs.c])
          · by_cases o5 : o.kind = 5
            · simp [o5]
              refine sem_fn (aggr_groups L.aggr L.x45 (c := o.group) (ags := o.aggs) hff hfg (h.aggs o5).1 (h.aggs o5).2.2 (h.aggs o5).2.1) (by simp [rowsD, D.les, D.le, D.le_refl]) (sem_run 9000 _ ?_)
              cases hg : (grpsF o.group o.aggs (R.filter (pickF o))).2 with
              | true =>
                have e : doF R o = (R, ⟨0, 0, (grpsF o.group o.aggs (R.filter (pickF o))).1⟩) := by unfold doF; rw [if_neg o1, if_neg o2, if_neg o3, if_neg o4, if_pos o5, if_pos hg]
                rw [e]
                simp [grpD, hg, b7']
                refine sem_ret ?_
                simp [M70]
                exact fin_own (stay _) (by simp [Rs.c])
              | false =>
                have e : doF R o = (R, ⟨2, 0, []⟩) := by unfold doF; rw [if_neg o1, if_neg o2, if_neg o3, if_neg o4, if_pos o5, if_neg (by simp [hg])]
                rw [e]
                simp [grpD, hg, b7']
                refine sem_ret ?_
                simp [M70]
                exact fin_own (stay _) (by simp [Rs.c, D.les, D.le, rows_nil])
            · by_cases o6 : o.kind = 6
              · have e : doF R o = (R, ⟨3, 0, []⟩) := by unfold doF; rw [if_neg o1, if_neg o2, if_neg o3, if_neg o4, if_neg o5, if_pos o6]
                rw [e]
                simp [o6, b7']
                refine sem_ret ?_
                simp [M70]
                exact fin_own (stay _) (by simp [Rs.c, D.les, D.le, rows_nil])
              · have e : doF R o = (R, ⟨0, 0, []⟩) := by unfold doF; rw [if_neg o1, if_neg o2, if_neg o3, if_neg o4, if_neg o5, if_neg o6]
                rw [e]
                simp [o1, o2, o3, o4, o5, o6, b7']
                refine sem_ret ?_
                simp [M70]
                exact fin_own (stay _) (by simp [Rs.c, D.les, D.le, rows_nil])
end Go.Lib
end

section
set_option maxRecDepth 10000
namespace Go.Lib
open Go.Vm Go.Dv Go.Srt
variable {p : Prog} {ext : Ext} {F : Nat → Nat}
structure RowsK (ks : List Int) (B : Nat) (R : List Row) : Prop where
  good : GoodRs ks R
  rise : KeyRise R
  len : R.length ≤ B
structure SxOk (ks : List Int) (x : Sx) : Prop where
  col : 1 ≤ x.col ∧ x.col < ks.length
  good : x.v.Good
  kind : x.v.kind = (ks[x.col.toNat]?).getD 0
  add : x.add = true → (ks[x.col.toNat]?).getD 0 = 1
structure OpOk (ks : List Int) (n : Nat) (o : Op) : Prop where
  op : OpS n o
  rowl : o.row.length < 1000
  row : o.kind = 1 → GoodR ks o.row
  sets : o.kind = 2 → ∀ x, x ∈ o.sets → SxOk ks x
  cols : o.kind = 4 → o.cols.length < 1000 ∧ ∀ c, c ∈ o.cols → InK ks c
  aggs : o.kind = 5 → o.group < ks.length ∧ o.aggs.length < 900 ∧ ∀ a, a ∈ o.aggs → InK ks a.col
theorem GoodR.len {ks : List Int} {r : Row} (h : GoodR ks r) : r.length = ks.length := by
  have := h.kin; unfold Kin at this; rw [← this]; simp
theorem RowsK.rows {ks : List Int} {B : Nat} {R : List Row} (h : RowsK ks B R) (hk : ks.length < 1000) (hB : B < 1000000) : RowsS R :=
  ⟨by have := h.len; omega, fun r hr => by rw [(h.good r hr).len]; exact hk, fun r hr v hv => ((h.good r hr).good v hv).int⟩
theorem RowsK.do_ {ks : List Int} {B n : Nat} {R : List Row} {o : Op} (h : RowsK ks B R) (hk : ks.length < 1000) (hB : B < 1000000) (ho : OpOk ks n o) : DoOk ks n R o :=
  ⟨h.rows hk hB, h.good, h.rise, ho.op, ho.rowl, ho.cols, ho.aggs⟩
theorem GoodR.set {ks : List Int} {r : Row} {v : Vl} {i : Nat} (h : GoodR ks r) (hv : v.Good) (hk : v.kind = (ks[i]?).getD 0) (hi : i < ks.length) : GoodR ks (r.set i v) := by
  refine ⟨?_, fun w hw => ?_⟩
  · have := h.kin
    unfold Kin at this ⊢
    have hks : (ks[i]?).getD 0 = ks[i] := by simp [hi]
    rw [List.map_set, this, hk, hks, List.set_getElem_self hi]
  · rcases List.mem_or_eq_of_mem_set hw with hw | rfl
    · exact h.good w hw
    · exact hv
theorem atV_set {r : Row} {v : Vl} {i : Nat} (hi : 1 ≤ i) : atV (r.set i v) 0 = atV r 0 := by
  unfold atV
  rw [if_neg (by omega), if_neg (by omega), show (0 : Int).toNat = 0 from rfl, List.getElem?_set_ne (by omega)]
theorem setS_ok {ks : List Int} {r r' : Row} {x : Sx} (h : GoodR ks r) (hx : SxOk ks x) (e : setS r x = some r') : GoodR ks r' ∧ keyF r' = keyF r := by
  obtain ⟨⟨c1, c2⟩, hg, hkd, hadd⟩ := hx
  have hl := h.len
  have hin : InK ks x.col := ⟨by omega, c2⟩
  have hat := h.at_ hin
  unfold setS at e
  rw [if_neg (by omega)] at e
  split at e
  · cases e
    exact ⟨h.set hg hkd (by omega), by unfold keyF; rw [atV_set (by omega)]⟩
  · rename_i ha
    have ha : x.add = true := by simpa using ha
    split at e
    · cases e; exact ⟨h, rfl⟩
    · rename_i hn
      split at e
      · rename_i hi
        cases e
        have hk1 := hadd ha
        refine ⟨h.set ⟨fun h2 => absurd h2 hn, .inl ⟨by show (atV r x.col).kind = 1; rw [hat.1, hk1], ?_⟩, hi⟩ (by show (atV r x.col).kind = _; rw [hat.1]) (by omega), by unfold keyF; rw [atV_set (by omega)]⟩
        rcases hat.2.kd with ⟨_, hb⟩ | ⟨hb, _⟩
        · exact hb
        · rw [hat.1, hk1] at hb; simp at hb
      · cases e
theorem setF_ok {ks : List Int} : ∀ {l : List Sx} {r r' : Row}, GoodR ks r → (∀ x, x ∈ l → SxOk ks x) → setF r l = some r' → GoodR ks r' ∧ keyF r' = keyF r
  | [], r, r', h, _, e => by simp [setF] at e; subst e; exact ⟨h, rfl⟩
  | x :: l, r, r', h, hx, e => by
    unfold setF at e
    split at e
    · rename_i r1 e1
      obtain ⟨a, b⟩ := setS_ok h (hx x (by simp)) e1
      obtain ⟨c, d⟩ := setF_ok a (fun y hy => hx y (by simp [hy])) e
      exact ⟨c, by rw [d, b]⟩
    · cases e
theorem updF_ok {ks : List Int} {o : Op} (hs : ∀ x, x ∈ o.sets → SxOk ks x) : ∀ {R M : List Row}, GoodRs ks R → updF o R = some M → GoodRs ks M ∧ M.map keyF = R.map keyF
  | [], M, _, e => by simp [updF] at e; subst e; exact ⟨fun r hr => by simp at hr, rfl⟩
  | r :: R, M, hg, e => by
    have hr := hg r (by simp)
    have hR : GoodRs ks R := fun x hx => hg x (by simp [hx])
    unfold updF at e
    split at e
    · split at e
      · rename_i r' e1
        obtain ⟨M', e2, rfl⟩ := Option.map_eq_some_iff.1 e
        obtain ⟨a, b⟩ := updF_ok hs hR e2
        obtain ⟨c, d⟩ := setF_ok hr hs e1
        exact ⟨fun x hx => by rcases List.mem_cons.1 hx with rfl | hx; exact c; exact a x hx, by simp [b, d]⟩
      · cases e
    · obtain ⟨M', e2, rfl⟩ := Option.map_eq_some_iff.1 e
      obtain ⟨a, b⟩ := updF_ok hs hR e2
      exact ⟨fun x hx => by rcases List.mem_cons.1 hx with rfl | hx; exact hr; exact a x hx, by simp [b]⟩
theorem keyRise_map {R : List Row} : KeyRise R ↔ (R.map keyF).Pairwise (· < ·) := by
  unfold KeyRise; rw [List.pairwise_map]
theorem insK_len {R : List Row} {r : Row} : (insK R r).length = R.length + 1 := by
  unfold insK
  have := congrArg List.length (List.takeWhile_append_dropWhile (p := fun x => decide (keyF x < keyF r)) (l := R))
  simp only [List.length_append, List.length_cons] at this ⊢; omega
theorem insK_mem {R : List Row} {r x : Row} (h : x ∈ insK R r) : x = r ∨ x ∈ R := by
  unfold insK at h
  rcases List.mem_append.1 h with h | h
  · exact .inr (List.takeWhile_subset _ h)
  · rcases List.mem_cons.1 h with h | h
    · exact .inl h
    · exact .inr (List.dropWhile_subset _ h)
theorem insK_rise {R : List Row} {r : Row} (h : KeyRise R) (hn : hasR R (keyF r) = false) : KeyRise (insK R r) := by
  have hne : ∀ x, x ∈ R → keyF x ≠ keyF r := fun x hx e => by
    have : hasR R (keyF r) = true := List.any_eq_true.2 ⟨x, hx, by simpa using e⟩
    rw [hn] at this; cases this
  have hd : ∀ (L : List Row), KeyRise L → (∀ x, x ∈ L → keyF x ≠ keyF r) → ∀ x, x ∈ L.dropWhile (fun x => decide (keyF x < keyF r)) → keyF r < keyF x := by
    intro L
    induction L with
    | nil => intro _ _ x hx; simp at hx
    | cons y L ih =>
      intro hL hn x hx
      have hL' := List.pairwise_cons.1 hL
      rw [List.dropWhile_cons] at hx
      split at hx
      · exact ih hL'.2 (fun z hz => hn z (by simp [hz])) x hx
      · rename_i hy
        have hy : ¬ keyF y < keyF r := by simpa using hy
        have := hn y (by simp)
        rcases List.mem_cons.1 hx with rfl | hx
        · omega
        · have := hL'.1 x hx; omega
  have hsplit : KeyRise (R.takeWhile (fun x => decide (keyF x < keyF r)) ++ R.dropWhile (fun x => decide (keyF x < keyF r))) := by
    rw [List.takeWhile_append_dropWhile]; exact h
  obtain ⟨a, b, c⟩ := List.pairwise_append.1 hsplit
  have ht : ∀ x, x ∈ R.takeWhile (fun x => decide (keyF x < keyF r)) → keyF x < keyF r := fun x hx => by
    have := List.all_takeWhile (p := fun x => decide (keyF x < keyF r)) (l := R)
    simpa using List.all_eq_true.1 this x hx
  refine List.pairwise_append.2 ⟨a, List.pairwise_cons.2 ⟨fun x hx => hd R h hne x hx, b⟩, fun x hx y hy => ?_⟩
  rcases List.mem_cons.1 hy with rfl | hy
  · exact ht x hx
  · exact c x hx y hy
theorem doF_ok {ks : List Int} {B n : Nat} {R : List Row} {o : Op} (h : RowsK ks B R) (ho : OpOk ks n o) : RowsK ks (B + 1) (doF R o).1 := by
  have h0 : RowsK ks (B + 1) R := ⟨h.good, h.rise, by have := h.len; omega⟩
  unfold doF
  split
  · rename_i o1
    split
    · exact h0
    · rename_i hn
      refine ⟨fun x hx => ?_, insK_rise h.rise (by simpa using hn), by show (insK R o.row).length ≤ _; rw [insK_len]; have := h.len; omega⟩
      rcases insK_mem hx with rfl | hx
      · exact ho.row o1
      · exact h.good x hx
  · split
    · rename_i o2
      cases hu : updF o R with
      | none => exact h0
      | some M =>
        obtain ⟨a, b⟩ := updF_ok (ho.sets o2) h.good hu
        exact ⟨a, keyRise_map.2 (by show (M.map keyF).Pairwise _; rw [b]; exact keyRise_map.1 h.rise), by show M.length ≤ _; rw [updF_len hu]; exact h0.len⟩
    · split
      · exact ⟨fun x hx => h.good x (List.mem_filter.1 hx).1, h.rise.filter _, Nat.le_trans (List.length_filter_le _ _) h0.len⟩
      · split
        · exact h0
        · split
          · split <;> exact h0
          · split <;> exact h0
def rssD (l : List Rs) : D := .row 3 .p (l.map Rs.c)
def opsD (l : List Op) : D := .row 14 .p (l.map Op.c)
theorem ops_len {l : List Op} : lenbD (opsD l) = some (.lit (.int .i64 (l.length : Int))) := by simp [opsD]
theorem at_ops {l : List Op} {n : Nat} : atO 14 (opsD l) (some n) = elemD (l[n]?.map Op.c) := by simp [opsD]
theorem rs_len {x : Rs} : x.c.length = 3 := rfl
theorem rs_flats {x : Rs} : flatsD x.c = true := rfl
theorem rs_take {x : Rs} : x.c.take 3 = x.c := rfl
theorem rs_drop {x : Rs} : x.c.drop 3 = [] := rfl
theorem rs_0 {x : Rs} : x.c[0]? = some (.lit (.int .i64 x.err)) := rfl
theorem rs_1 {x : Rs} : x.c[1]? = some (.lit (.int .i64 x.n)) := rfl
theorem rs_2 {x : Rs} : x.c[2]? = some (rowsD x.rows) := rfl
theorem rss_len {l : List Rs} : lenbD (rssD l) = some (.lit (.int .i64 (l.length : Int))) := by simp [rssD]
theorem at_rss {l : List Rs} {n : Nat} : atO 3 (rssD l) (some n) = elemD (l[n]?.map Rs.c) := by simp [rssD]
theorem rss_under {n : Nat} {l : List Rs} : (rssD l).under n := by simp only [rssD, D.under]; exact underss_map (fun _ => rs_unders) _
attribute [simp] ops_len at_ops rs_len rs_flats rs_take rs_drop rs_0 rs_1 rs_2 rss_len at_rss rss_under
end Go.Lib
end

section
set_option maxRecDepth 10000
namespace Go.Lib
open Go.Vm Go.Dv Go.Srt
attribute [-simp] bin_and bin_xor
def nV (n : Int) : Vl := ⟨false, 1, n, [], by simp⟩
def pr0 : Pr := .mk 0 0 0 zv []
def prT : Pr := .mk 1 0 0 zv []
def prK (n : Int) : Pr := .mk 2 0 1 (nV n) []
def insO (r : Row) : Op := ⟨1, r, pr0, [], [], 0, []⟩
def scanO (q : Pr) (c : List Int) : Op := ⟨4, [], q, [], c, 0, []⟩
def delO (q : Pr) : Op := ⟨3, [], q, [], [], 0, []⟩
def setO (q : Pr) (x : Sx) : Op := ⟨2, [], q, [x], [], 0, []⟩
def aggO (q : Pr) (g : Int) (l : List Ag) : Op := ⟨5, [], q, [], [], g, l⟩
def rollO : Op := ⟨6, [], pr0, [], [], 0, []⟩
theorem sxs_under {n : Nat} {l : List Sx} : (sxsD l).under n := by simp only [sxsD, D.under]; exact underss_map (fun _ => sx_unders) _
theorem ags_under {n : Nat} {l : List Ag} : (agsD l).under n := by simp only [agsD, D.under]; exact underss_map (fun _ => by simp [Ag.c]) _
theorem op_unders {n : Nat} {o : Op} : D.unders n o.c := by
  rw [op_c]; simp [D.unders, row_under, by_under, prs_under, ints_under, sxs_under, ags_under]
theorem evalK {k : Int} {r : Row} : evalF (prK k) r = if (atV r 0).null = true then 3 else truthF (decide (cmpV (atV r 0) (nV k) = 0)) := by
  simp [prK, evalF, holdsF]
theorem pickK_no {k : Int} {r : Row} (h1 : (atV r 0).kind = 1) (h2 : keyF r ≠ k) : evalF (prK k) r ≠ 1 := by
  rw [evalK]
  split
  · omega
  · rename_i hn
    have : ¬ cmpV (atV r 0) (nV k) = 0 := by
      rw [cmpV_null, if_neg hn, if_neg (by simp [nV]), if_pos h1, cmpI_eq]; exact h2
    simp [this, truthF]
def numP (l : List Int) (a : Nat) : Int := (l[a]?).getD (wr .i64 ((a : Int) * 7919))
def kP (d : Nat) (n : Int) : Int := if d ≤ 1 ∧ 4 < andI n 7 then andI n 7 - 4 else andI n 7
def cP (s : Sch) (n : Int) : Int := Int.tmod (andI (shrI .i64 n 3) 255) (s.length : Int)
def vP (s : Sch) (n : Int) : Vl := if cP s n = 0 then nV (andI (shrI .i64 n 11) 15) else match s[(cP s n).toNat]? with
  | some c => valF ⟨c.name, c.kind, false⟩ (shrI .i64 n 11)
  | none => zv
def leafP (s : Sch) (n : Int) : Pr := .mk 2 (cP s n) (Int.tmod (andI (shrI .i64 n 17) 255) 6 + 1) (vP s n) []
def sonsP (n : Int) (son : Nat → Pr) : List Pr := (List.range (andI (shrI .i64 n 11) 3).toNat).map son
def predG (s : Sch) (n k : Int) (son : Nat → Pr) : Pr :=
  if k = 0 then prT else if k = 1 then .mk 3 (cP s n) 0 zv []
  else if k = 5 ∨ k = 6 then .mk (k - 1) 0 0 zv (sonsP n son)
  else if k = 7 then .mk 6 0 0 zv [son 0] else leafP s n
def predF (s : Sch) (l : List Int) : Nat → Nat → Pr
  | 0, a => predG s (numP l a) (kP 0 (numP l a)) fun _ => prT
  | d + 1, a => predG s (numP l a) (kP (d + 1) (numP l a)) fun i => predF s l d (3 * a + i + 1)
theorem kP_at {d : Nat} {n : Int} : ∃ k : Nat, kP d n = k ∧ k ≤ 7 ∧ (d ≤ 1 → k ≤ 4) := by
  obtain ⟨q, hq, h1⟩ := andI_small (a := n) (m := 7) (by simp)
  have hq' : andI n 7 = q := hq
  unfold kP
  rw [hq']
  split
  · exact ⟨q - 4, by omega, by omega, by omega⟩
  · exact ⟨q, rfl, h1, by omega⟩
def numO (l : List Int) (a : Nat) : Int := match l[a % l.length]? with
  | some x => wr .i64 (x + wr .i64 ((a : Int) * 7919))
  | none => 0
def predO (s : Sch) (l : List Int) (a : Nat) : Pr := if andI (shrI .i64 (numO l a) 3) 3 = 0 then prK (andI (shrI .i64 (numO l a) 5) 15) else predF s l 3 (a % 7)
def colO (s : Sch) (n : Int) : Int := Int.tmod (andI (shrI .i64 n 9) 255) (s.length : Int)
def addO (cl : Cl) (n : Int) : Bool := decide (cl.kind = 1) && !(valF cl (shrI .i64 n 17)).null && decide (andI (shrI .i64 n 13) 1 = 1)
def sxO (c : Int) (cl : Cl) (n : Int) : Sx := ⟨c, addO cl n, valF cl (shrI .i64 n 17)⟩
def opG (s : Sch) (n k c : Int) (q : Pr) : Op :=
  if k ≤ 2 then insO (rowF s (shrI .i64 n 5))
  else if k ≤ 4 then (if 0 < c then setO q (match s[c.toNat]? with | some cl => sxO c cl n | none => ⟨0, false, zv⟩) else delO q)
  else if k = 5 then scanO q [c, 0]
  else if k = 6 then aggO q (wr .i64 (c - wr .i64 (andI (shrI .i64 n 14) 1 * wr .i64 (c + 1)))) [⟨1, 0⟩, ⟨wr .i64 (3 + andI (shrI .i64 n 15) 1), c⟩, ⟨2, 0⟩]
  else if andI (shrI .i64 n 18) 7 = 0 then rollO else delO q
def opF (s : Sch) (l : List Int) (a : Nat) : Op := opG s (numO l a) (andI (numO l a) 7) (colO s (numO l a)) (predO s l a)
end Go.Lib
end

section
set_option maxRecDepth 10000
namespace Go.Lib
open Go.Vm Go.Dv Go.Srt
variable {p : Prog} {ext : Ext} {F : Nat → Nat}
attribute [-simp] bin_and bin_xor
structure HPredL (p : Prog) (ext : Ext) (F : Nat → Nat) : Prop where
  law6 : HLaw6 p ext F
  h99 : Has p ext F 99 M99
@[simp] def nilPr : List D := [.lit (.int .i64 0), .lit (.int .i64 0), .lit (.int .i64 0), .lit (.bool false), .lit (.int .i64 0), .lit (.int .i64 0), .lit .nilslice, .lit .nilslice]
def P7a (s : Sch) (m : Md) (l : List Int) (a d : Nat) (H : HpD) (n : Int) (fr : FrD) (H' : HpD) : Prop :=
  fr = [(1, intsD m l), (2, .lit (.int .i64 (a : Int))), (3, .lit (.int .i64 (d : Int))), (4, .rptr [schR s] 0), (8, .ptr H.next 0), (9, .lit (.int .i64 n))] ∧ H' = H.new (.cells nilPr false)
def P7b (s : Sch) (m : Md) (l : List Int) (a d : Nat) (H : HpD) (n k : Int) (fr : FrD) (H' : HpD) : Prop :=
  fr = [(1, intsD m l), (2, .lit (.int .i64 (a : Int))), (3, .lit (.int .i64 (d : Int))), (4, .rptr [schR s] 0), (8, .ptr H.next 0), (9, .lit (.int .i64 n)), (10, .lit (.int .i64 k))] ∧ H' = H.new (.cells nilPr false)
theorem VDl_last {h : Hp} {ψ : Nat → Option Nat} {S : Nat → Prop} {d : D} : ∀ {pre : List D} {l : List V}, VDl h ψ S (pre ++ [d]) l → ∃ l1 v, l = l1 ++ [v] ∧ VDl h ψ S pre l1 ∧ VD h ψ S d v
  | [], l, k => by
    simp only [List.nil_append, VDl] at k
    obtain ⟨v, r, rfl, k, rfl⟩ := k
    exact ⟨[], v, rfl, by simp only [VDl], k⟩
  | x :: pre, l, k => by
    simp only [List.cons_append, VDl] at k
    obtain ⟨v, r, rfl, k1, k⟩ := k
    obtain ⟨l1, w, rfl, k2, k3⟩ := VDl_last (pre := pre) k
    exact ⟨v :: l1, w, rfl, by simp only [VDl]; exact ⟨v, l1, rfl, k1, k2⟩, k3⟩
theorem WeakV.aggLast {pre : List D} {d d2 : D} {H H2 : HpD} (k : WeakV d H d2 H2) : WeakV (.agg (pre ++ [d])) H (.agg (pre ++ [d2])) H2 := by
  intro ψ S hp v s kv
  simp only [VD] at kv
  obtain ⟨l, rfl, kl⟩ := kv
  obtain ⟨l1, w, rfl, k1, k2⟩ := VDl_last kl
  obtain ⟨ψ', S', x1, s1, k3⟩ := k ψ S hp w s k2
  refine ⟨ψ', S', x1, s1, ?_⟩
  simp only [VD]
  exact ⟨_, rfl, (VDl.mono x1 _ k1).append (by simp only [VDl]; exact ⟨w, [], rfl, k3, rfl⟩)⟩
theorem predF_eq {s : Sch} {l : List Int} {d a : Nat} : predF s l d a = predG s (numP l a) (kP d (numP l a)) (fun i => match d with | 0 => prT | d' + 1 => predF s l d' (3 * a + i + 1)) := by
  cases d <;> rfl
def head7 (k : Int) : List D := [.lit (.int .i64 k), .lit (.int .i64 0), .lit (.int .i64 0), .lit (.bool false), .lit (.int .i64 0), .lit (.int .i64 0), .lit .nilslice]
def P7I (H : HpD) (s : Sch) (m : Md) (l : List Int) (a d : Nat) (n k : Int) (sons : List Pr) (w : Nat) (fr : FrD) (H' : HpD) : Prop :=
  ∃ (i : Nat) (t : D), w = sons.length - i ∧ i ≤ sons.length ∧ fr = [(1, intsD m l), (2, .lit (.int .i64 (a : Int))), (3, .lit (.int .i64 (d : Int))), (4, .rptr [schR s] 0), (8, .ptr H.next 0), (9, .lit (.int .i64 n)), (12, .ptr (H.next + 1) 0), (13, .lit (.int .i64 (i : Int)))] ∧
    Gr ⟨H.next + 2, H'.blk⟩ H' 8 t ((sons.take i).map Pr.c) ∧ H'.blk (H.next + 1) = .cells (head7 k ++ [t]) false ∧ H'.blk H.next = .cells nilPr false ∧ Sub H H'
theorem fin_sons {H X : HpD} {t : D} {sons : List Pr} {kk : Int} {N : Nat} (hs : Dv.Sub H X) (g : Gr ⟨N, X.blk⟩ X 8 t (sons.map Pr.c)) (hN : H.next ≤ N) : Dv.Fin H (.agg (Pr.mk kk 0 0 zv sons).c) (.agg (head7 kk ++ [t])) X := by
  obtain ⟨H2, w, sub2, _⟩ := g.fin (underss_map (fun q => pr_unders q) _) (m := .p) (by simp)
  have hn2 := sub2.next
  simp at hn2
  exact ⟨H2, (WeakV.aggLast (pre := head7 _) w).trans (.le (by simp [head7, pr_c, Pr.kind, Pr.col, Pr.op, Pr.v, Pr.l, zv, D.le, byD, byE, prsD, D.less_refl])), ⟨by omega, fun x hx => by rw [sub2.blk x (by simp; omega), ← hs.blk x hx]⟩, by simp [D.under]⟩
theorem pred7_1 (L : HPredL p ext F) {s : Sch} {m : Md} {l : List Int} {a d : Nat} (hs0 : 0 < s.length) (hs : s.length < 1000) (ha : a < 1000000) (hd : d < 1000) (ih : ∀ d' a' : Nat, d = d' + 1 → 1 ≤ d' → a' ≤ 3 * a + 10 → FnD p ext (F 99) [schD s, intsD m l, .lit (.int .i64 (a' : Int)), .lit (.int .i64 (d' : Int))] (.agg (predF s l d' a').c)) : FnD p ext (F 99) [schD s, intsD m l, .lit (.int .i64 (a : Int)), .lit (.int .i64 (d : Int))] (.agg (predF s l d a).c) := by
  refine fn_of L.h99 (M := M99) rfl ok99 rfl fun H => sem_run 14 _ ?_
  simp
  refine sem_cut (P7a s m l a d H (numP l a)) (sem_run 9000 _ ?_) ?_
  · by_cases c : a < l.length
    · have hn : numP l a = l[a] := by simp [numP, c]
      rw [hn]
      simp [c]
      exact sem_ok ⟨rfl, rfl⟩
    · have hn : numP l a = wr .i64 ((a : Int) * 7919) := by simp [numP, c]
      rw [hn]
      simp [c]
      refine sem_as_ok [(1, intsD m l), (2, .lit (.int .i64 (a : Int))), (3, .lit (.int .i64 (d : Int))), (4, .rptr [schR s] 0), (8, .ptr H.next 0), (9, .lit (.int .i64 (wr .i64 ((a : Int) * 7919))))] (by simp [D.le_refl, intsD]) ?_
      exact sem_ok ⟨rfl, rfl⟩
  rintro fr H1 ⟨rfl, rfl⟩
  obtain ⟨n, hn⟩ : ∃ n, numP l a = n := ⟨_, rfl⟩
  rw [hn]
  refine sem_run 9 _ ?_
  simp
  refine sem_cut (P7b s m l a d H n (kP d n)) (sem_run 9000 _ ?_) ?_
  · obtain ⟨q, hq, hq7⟩ := andI_small (a := n) (m := 7) (by simp)
    have hq' : andI n 7 = q := hq
    by_cases c : d ≤ 1
    · have c' : (d : Int) ≤ 1 := by omega
      by_cases c2 : 4 < q
      · have c2' : (4 : Int) < q := by omega
        have hk : kP d n = (q : Int) - 4 := by unfold kP; rw [hq', if_pos ⟨c, by omega⟩]
        have w : wr .i64 ((q : Int) - 4) = (q : Int) - 4 := by rw [wr_of] <;> omega
        rw [hk]
        simp [hq', c', c2', w]
        exact sem_ok ⟨rfl, rfl⟩
      · have c2' : ¬ (4 : Int) < q := by omega
        have hk : kP d n = (q : Int) := by unfold kP; rw [hq', if_neg (by omega)]
        rw [hk]
        simp [hq', c', c2']
        refine sem_as_ok [(1, intsD m l), (2, .lit (.int .i64 (a : Int))), (3, .lit (.int .i64 (d : Int))), (4, .rptr [schR s] 0), (8, .ptr H.next 0), (9, .lit (.int .i64 n)), (10, .lit (.int .i64 (q : Int)))] (by simp [D.le_refl, intsD]) ?_
        exact sem_ok ⟨rfl, rfl⟩
    · have c' : ¬ (d : Int) ≤ 1 := by omega
      have hk : kP d n = (q : Int) := by unfold kP; rw [hq', if_neg (by omega)]
      rw [hk]
      simp [hq', c']
      refine sem_as_ok [(1, intsD m l), (2, .lit (.int .i64 (a : Int))), (3, .lit (.int .i64 (d : Int))), (4, .rptr [schR s] 0), (8, .ptr H.next 0), (9, .lit (.int .i64 n)), (10, .lit (.int .i64 (q : Int)))] (by simp [D.le_refl, intsD]) ?_
      exact sem_ok ⟨rfl, rfl⟩
  rintro fr H1 ⟨rfl, rfl⟩
  obtain ⟨k, hk, hk7, hk4⟩ := kP_at (d := d) (n := n)
  rw [hk]
  have hz : (s.length : Int) ≠ 0 := by omega
  have hsz : ¬ s.length = 0 := by omega
  have hc : Int.tmod (andI (shrI .i64 n 3) 255) (s.length : Int) = cP s n := rfl
  obtain ⟨c, hcn, hcl⟩ : ∃ c : Nat, cP s n = c ∧ c < s.length := by
    obtain ⟨q, hq, hq1⟩ := andI_small (a := shrI .i64 n 3) (m := 255) (by simp)
    have hq' : andI (shrI .i64 n 3) 255 = q := hq
    refine ⟨q % s.length, ?_, Nat.mod_lt _ hs0⟩
    unfold cP
    rw [hq', Int.tmod_eq_emod_of_nonneg (by omega)]; omega
  refine sem_run 9000 _ ?_
  simp [hsz, hc, hcn]
  have hF := predF_eq (s := s) (l := l) (d := d) (a := a)
  rw [hn, hk] at hF
  generalize hson : (fun i => match d with | 0 => prT | d' + 1 => predF s l d' (3 * a + i + 1)) = son at hF
  rw [hF]
  have hih : ∀ i : Nat, 1 < d → i ≤ 3 → FnD p ext (F 99) [schD s, intsD m l, .lit (.int .i64 (3 * (a : Int) + (i : Int) + 1)), .lit (.int .i64 ((d : Int) - 1))] (.agg (son i).c) := fun i hd hi => by
    obtain ⟨d', rfl⟩ : ∃ d', d = d' + 1 := ⟨d - 1, by omega⟩
    have := ih d' (3 * a + i + 1) rfl (by omega) (by omega)
    rw [← hson]
    rw [show (((d' + 1 : Nat) : Int) - 1) = (d' : Int) by omega, show 3 * (a : Int) + (i : Int) + 1 = ((3 * a + i + 1 : Nat) : Int) by omega]
    exact this
  clear ih hson hF
  have hkk : k = 0 ∨ k = 1 ∨ k = 5 ∨ k = 6 ∨ k = 7 ∨ k = 2 ∨ k = 3 ∨ k = 4 := by omega
  rcases hkk with rfl | rfl | h
  · simp
    refine sem_ret ?_
    simp [M99]
    exact .le (by repeat (first | exact Sub.refl | apply Sub.new | refine Sub.put ?_ (by first | omega | (simp only [put_next, new_next]; omega)))) (by simp [predG, prT, pr_c, Pr.kind, Pr.col, Pr.op, Pr.v, Pr.l, zv, D.le, byD, byE, prsD]) (by simp [D.under])
  · simp
    refine sem_ret ?_
    simp [M99]
    exact .le (by repeat (first | exact Sub.refl | apply Sub.new | refine Sub.put ?_ (by first | omega | (simp only [put_next, new_next]; omega)))) (by simp [predG, hcn, pr_c, Pr.kind, Pr.col, Pr.op, Pr.v, Pr.l, zv, D.le, byD, byE, prsD]) (by simp [D.under])
  · have hh : ((k = 5 ∨ k = 6) ∧ 1 < d) ∨ (k = 7 ∧ 1 < d) ∨ (k = 2 ∨ k = 3 ∨ k = 4) := by omega
    rcases hh with ⟨h5, hd⟩ | ⟨rfl, hd⟩ | h2
    · have w1 : wr .i64 ((d : Int) - 1) = (d : Int) - 1 := by rw [wr_of] <;> omega
      have hw : ∃ kk : Int, predG s n (k : Int) son = .mk kk 0 0 zv (sonsP n son) ∧ kk = (k : Int) - 1 := ⟨(k : Int) - 1, by rcases h5 with rfl | rfl <;> simp [predG], rfl⟩
      obtain ⟨q, hq, hq3⟩ := andI_small (a := shrI .i64 n 11) (m := 3) (by simp)
      have hq' : andI (shrI .i64 n 11) 3 = q := hq
      have hsl : (sonsP n son).length = q := by simp [sonsP, hq']
      have hsg : ∀ i, i < q → (sonsP n son)[i]? = some (son i) := fun i hi => by simp [sonsP, hq', hi]
      have g0 : ∀ HB : HpD, HB.next = H.next + 2 → Gr ⟨H.next + 2, HB.blk⟩ HB 8 (.lit .nilslice) (((sonsP n son).take 0).map Pr.c) := fun HB e => ⟨⟨by simp [e], fun _ _ => rfl⟩, by simp, .inl ⟨rfl, by simp⟩⟩
      obtain ⟨kk, hG, hkk⟩ := hw
      rw [hG]
      clear hG
      generalize sonsP n son = sons at hsl hsg g0
      rcases h5 with rfl | rfl
      case' inl => simp [show wr .i64 9 = 9 from rfl, show wr .i64 4 = 4 from rfl]
      case' inl => obtain rfl : kk = 4 := by omega
      case' inl => refine sem_loop (P7I H s m l a d n 4 sons) ?_ (k := sons.length) ⟨0, .lit .nilslice, by simp, by simp, by simp, g0 _ (by simp), by simp [head7], by simp, (by repeat (first | exact Sub.refl | apply Sub.new | refine Sub.put ?_ (by first | omega | (simp only [put_next, new_next]; omega))))⟩
      case' inr => simp [show wr .i64 10 = 10 from rfl, show wr .i64 5 = 5 from rfl]
      case' inr => obtain rfl : kk = 5 := by omega
      case' inr => refine sem_loop (P7I H s m l a d n 5 sons) ?_ (k := sons.length) ⟨0, .lit .nilslice, by simp, by simp, by simp, g0 _ (by simp), by simp [head7], by simp, (by repeat (first | exact Sub.refl | apply Sub.new | refine Sub.put ?_ (by first | omega | (simp only [put_next, new_next]; omega))))⟩
      all_goals
        rintro w fr H' ⟨i, t, rfl, hi, rfl, g, hb, hb8, hsub⟩
        have hnx := g.sub.next
        simp at hnx
        refine sem_run 9000 _ ?_
        simp
        by_cases c : i < sons.length
        · have ci : (i : Int) < (q : Int) := by omega
          have w2 : wr .i64 (wr .i64 (3 * (a : Int)) + (i : Int)) = 3 * (a : Int) + (i : Int) := by rw [wr_of (n := 3 * (a : Int)) (by omega) (by omega), wr_of] <;> omega
          have w3 : wr .i64 (3 * (a : Int) + (i : Int) + 1) = 3 * (a : Int) + (i : Int) + 1 := by rw [wr_of] <;> omega
          have wi : wr .i64 ((i : Int) + 1) = ((i + 1 : Nat) : Int) := by rw [wr_of] <;> omega
          simp [hq', ci, w1, w2, w3]
          refine sem_dfn (hih i hd (by omega)) (by first | exact D.les_refl _ | simp) (sem_run 9000 _ ?_)
          have hl1 : H.next + 1 < H'.next := by omega
          have hrg : rigid t = true := by
            rcases g.at_ with ⟨rfl, _⟩ | ⟨b, ex, el0, rfl, _⟩ <;> rfl
          have hfar : ∀ x, t.hasB x → H.next + 2 ≤ x ∧ x < H'.next := fun x hx => g.far hx
          simp [hb, hl1, head7, hrg]
          rw [appendD_slice1 (b := H'.next) (cs := (son i).c) (ro := false) (by simp) (by simp)]
          refine sem_push (g.rest (by simp) fun x hx => by rw [new_blk, if_neg (by have := (hfar x hx).2; omega)]) (by simp) (by simp) (roomyD (by simp; omega) (by simp; omega)) fun t' H2 g2 k2 n2 => ?_
          have b12 : H2.blk (H.next + 1) = H'.blk (H.next + 1) := by
            rw [k2 _ (by simp; omega) (fun h => by have := (hfar _ h).1; omega), new_blk, if_neg (by omega)]
          rw [hb] at b12
          have b8 : H2.blk H.next = .cells nilPr false := by
            rw [k2 _ (by simp; omega) (fun h => by have := (hfar _ h).1; omega), new_blk, if_neg (by omega), hb8]
          have hrg2 : cellsD t' = some [t'] ∧ flatD t' = true := by
            rcases g2.at_ with ⟨rfl, _⟩ | ⟨b, ex, el0, rfl, _⟩ <;> exact ⟨rfl, rfl⟩
          obtain ⟨n2, _⟩ := n2
          simp at n2
          have l12 : H.next + 1 < H2.next := by omega
          simp [b12, head7, hrg2.1, hrg2.2]
          refine sem_ok ?_
          have hdrop : sons.take (i + 1) = sons.take i ++ [son i] := by rw [List.take_add_one, hsg i (by omega)]; rfl
          refine ⟨sons.length - (i + 1), by omega, i + 1, t', rfl, by omega, by rw [wi], ?_, by simp [head7], by simp [b8], ⟨by simp; omega, fun x hx => ?_⟩⟩
          · rw [hdrop]
            have g3 := fun B => g2.rest (H3 := H2.put (H.next + 1) B) (by simp) fun x hx => by rw [put_blk, if_neg (by have := (g2.far hx).1; simp at this; omega)]
            simpa using g3 _
          · rw [put_blk, if_neg (by omega), k2 x (by simp; have := hsub.next; omega) (fun h => by have := (hfar _ h).1; omega), new_blk, if_neg (by omega), hsub.blk x hx]
        · have : i = sons.length := by omega
          subst this
          have ci : ¬ ((sons.length : Nat) : Int) < (q : Int) := by omega
          have hft : flatD t = true := by
            rcases g.at_ with ⟨rfl, _⟩ | ⟨b, ex, el0, rfl, _⟩ <;> rfl
          simp [hq', ci]
          refine sem_exit (sem_run 9000 _ ?_)
          have hl1 : H.next + 1 < H'.next := by omega
          have hl0 : H.next < H'.next := by omega
          simp [hb, hb8, head7, hft]
          refine sem_ret ?_
          simp [M99]
          rw [List.take_length] at g
          exact fin_sons (N := H.next + 2) (hsub.put (Nat.le_refl _)) (g.rest (by simp) fun x hx => by rw [put_blk, if_neg (by have := (g.far hx).1; simp at this; omega)]) (by omega)
    · have w1 : wr .i64 ((d : Int) - 1) = (d : Int) - 1 := by rw [wr_of] <;> omega
      have w2 : wr .i64 (wr .i64 (3 * (a : Int)) + 1) = 3 * (a : Int) + 1 := by rw [wr_of (n := 3 * (a : Int)) (by omega) (by omega), wr_of] <;> omega
      have h7 := hih 0 hd (by omega)
      rw [show 3 * (a : Int) + ((0 : Nat) : Int) + 1 = 3 * (a : Int) + 1 by omega] at h7
      simp [w1, w2]
      refine sem_fn h7 (by first | exact D.les_refl _ | simp) (sem_run 9000 _ ?_)
      simp
      refine sem_ret ?_
      simp [M99]
      rw [show predG s n 7 son = .mk 6 0 0 zv [son 0] by simp [predG]]
      refine fin_sons (N := H.next + 1) (by repeat (first | exact Sub.refl | apply Sub.new | refine Sub.put ?_ (by first | omega | (simp only [put_next, new_next]; omega)))) ⟨⟨by simp, fun _ _ => rfl⟩, by simp, .inr ⟨H.next + 1, true, [(son 0).c], by simp, by simp, by simp, by simp, D.less_refl _⟩⟩ (by omega)
    · obtain ⟨cl, hcl⟩ : ∃ cl, s[c]? = some cl := ⟨s[c], by simp⟩
      have hG : predG s n (k : Int) son = leafP s n := by rcases h2 with rfl | rfl | rfl <;> simp [predG]
      rw [hG]
      have hop : ∃ o : Int, Int.tmod (andI (shrI .i64 n 17) 255) 6 = o ∧ wr .i64 (o + 1) = o + 1 := by
        obtain ⟨q, hq, hq1⟩ := andI_small (a := shrI .i64 n 17) (m := 255) (by simp)
        have hq' : andI (shrI .i64 n 17) 255 = q := hq
        refine ⟨_, rfl, ?_⟩
        rw [hq', Int.tmod_eq_emod_of_nonneg (by omega), wr_of] <;> omega
      obtain ⟨o, ho, wo⟩ := hop
      have hfl : ∀ v : Vl, flatsD (v.c ++ [.lit .nilslice]) = true := fun v => rfl
      have hsp : spliceD cl.c 2 [.lit (.bool false)] = Cl.c ⟨cl.name, cl.kind, false⟩ := rfl
      have hleaf : (leafP s n).c = [.lit (.int .i64 2), .lit (.int .i64 (c : Int)), .lit (.int .i64 (o + 1)), .lit (.bool (vP s n).null), .lit (.int .i64 (vP s n).kind), .lit (.int .i64 (vP s n).n), byD (vP s n).bytes, prsD []] := by
        rw [pr_c]; simp [leafP, Pr.kind, Pr.col, Pr.op, Pr.v, Pr.l, hcn, ho]
      rw [hleaf]
      by_cases hc0 : c = 0
      · have hv : vP s n = nV (andI (shrI .i64 n 11) 15) := by unfold vP; rw [if_pos (by omega)]
        rw [hv]
        rcases h2 with rfl | rfl | rfl
        all_goals
          simp [hcl, hsp, -getElem?_pos]
          refine sem_fn (law6_value L.law6 (c := ⟨cl.name, cl.kind, false⟩) (n := shrI .i64 n 11)) (by first | exact D.les_refl _ | simp) (sem_run 9000 _ ?_)
          simp [hc0, ho, wo]
          refine sem_ret ?_
          simp [M99]
          exact .le (by repeat (first | exact Sub.refl | apply Sub.new | refine Sub.put ?_ (by first | omega | (simp only [put_next, new_next]; omega)))) (by simp [nV, D.le, byD, byE, prsD]) (by simp [D.under])
      · have hv : vP s n = valF ⟨cl.name, cl.kind, false⟩ (shrI .i64 n 11) := by
          unfold vP; rw [if_neg (by omega), hcn]; simp [hcl]
        rw [hv]
        rcases h2 with rfl | rfl | rfl
        all_goals
          simp [hcl, hsp, -getElem?_pos]
          refine sem_fn (law6_value L.law6 (c := ⟨cl.name, cl.kind, false⟩) (n := shrI .i64 n 11)) (by first | exact D.les_refl _ | simp) (sem_run 9000 _ ?_)
          simp [hc0, ho, wo, hfl]
          refine sem_ret ?_
          simp [M99, Vl.c]
          exact .le (by repeat (first | exact Sub.refl | apply Sub.new | refine Sub.put ?_ (by first | omega | (simp only [put_next, new_next]; omega)))) (by simp [D.le, D.le_refl, prsD]) (by simp [D.under])
theorem pred7 (L : HPredL p ext F) {s : Sch} {m : Md} {l : List Int} (hs0 : 0 < s.length) (hs : s.length < 1000) : ∀ {d a : Nat}, d < 1000 → (a + 20) * 4 ^ d < 1000000 → FnD p ext (F 99) [schD s, intsD m l, .lit (.int .i64 (a : Int)), .lit (.int .i64 (d : Int))] (.agg (predF s l d a).c)
  | 0, a, hd, ha => pred7_1 L hs0 hs (by simp at ha; omega) (by omega) fun d' a' e => by omega
  | d + 1, a, hd, ha => pred7_1 L hs0 hs (by have := Nat.mul_le_mul_left (a + 20) (Nat.one_le_two_pow (n := 2 * (d + 1))); rw [Nat.pow_mul, show (2 : Nat) ^ 2 = 4 from rfl] at this; omega) (by omega) fun d' a' e h1 h2 => by
    obtain rfl : d' = d := by omega
    refine pred7 L hs0 hs (by omega) (Nat.lt_of_le_of_lt ?_ ha)
    rw [Nat.pow_succ, Nat.mul_comm (4 ^ d') 4, ← Nat.mul_assoc]
    exact Nat.mul_le_mul_right _ (by omega)
end Go.Lib
end

section
set_option maxRecDepth 10000
namespace Go.Lib
open Go.Vm Go.Dv Go.Srt
variable {p : Prog} {ext : Ext} {F : Nat → Nat}
attribute [-simp] bin_and bin_xor
structure HLaw15 (p : Prog) (ext : Ext) (F : Nat → Nat) : Prop where
  pr : HPredL p ext F
  h97 : Has p ext F 97 M97
@[simp] def nilOp : List D := [.lit (.int .i64 0), .lit .nilslice, .lit (.int .i64 0), .lit (.int .i64 0), .lit (.int .i64 0), .lit (.bool false), .lit (.int .i64 0), .lit (.int .i64 0), .lit .nilslice, .lit .nilslice, .lit .nilslice, .lit .nilslice, .lit (.int .i64 0), .lit .nilslice]
def O15a (s : Sch) (m : Md) (l : List Int) (a : Nat) (H : HpD) (n : Int) (fr : FrD) (H' : HpD) : Prop :=
  fr = [(1, intsD m l), (2, .lit (.int .i64 (a : Int))), (3, .rptr [schR s] 0), (6, .ptr H.next 0), (7, .lit (.int .i64 n))] ∧ H' = H.new (.cells nilOp false)
def O15b (s : Sch) (H : HpD) (n : Int) (q : Pr) (fr : FrD) (H' : HpD) : Prop :=
  fr = [(3, .rptr [schR s] 0), (6, .ptr H.next 0), (7, .lit (.int .i64 n)), (8, .ptr (H.next + 1) 0)] ∧ H'.next = H.next + 2 ∧ Sub H H' ∧ H'.blk H.next = .cells nilOp false ∧ H'.blk (H.next + 1) = .cells q.c false
theorem Weak.cell {a : List D} {fr : FrD} {H : HpD} {b : Nat} {cs cs' : List D} {ro : Bool} (hb : H.blk b = .cells cs ro) (hl : D.les cs cs') : Weak a fr H a fr (H.put b (.cells cs' ro)) := by
  intro ψ S h fv vs sr kf kv
  exact ⟨ψ, S, .refl, sr.tellV hb fun l' k => VDl.le _ _ hl k, kf, kv⟩
theorem opF_of (L : HLaw15 p ext F) {s : Sch} {m : Md} {l : List Int} {a : Nat} (hs0 : 0 < s.length) (hs : s.length < 1000) (ha : a < 1000000) : FnD p ext (F 97) [schD s, intsD m l, .lit (.int .i64 (a : Int))] (.agg (opF s l a).c) := by
  refine fn_of L.h97 (M := M97) rfl ok97 rfl fun H => sem_run 12 _ ?_
  simp
  refine sem_cut (O15a s m l a H (numO l a)) (sem_run 9000 _ ?_) ?_
  · by_cases c : 0 < l.length
    · obtain ⟨x, hx⟩ : ∃ x, l[a % l.length]? = some x := ⟨_, List.getElem?_eq_getElem (Nat.mod_lt _ c)⟩
      have hn : numO l a = wr .i64 (x + wr .i64 ((a : Int) * 7919)) := by simp only [numO, hx]
      obtain ⟨r, hr⟩ : ∃ r, a % l.length = r := ⟨_, rfl⟩
      have ht : Int.tmod (a : Int) (l.length : Int) = (r : Int) := by rw [Int.tmod_eq_emod_of_nonneg (by omega)]; omega
      have hz : (l.length : Int) ≠ 0 := by omega
      have hsz : ¬ l.length = 0 := by omega
      rw [hr] at hx
      rw [hn]
      simp [c, hsz, ht, hx, -getElem?_pos]
      exact sem_ok ⟨rfl, rfl⟩
    · have hl0 : l = [] := by
        cases l with
        | nil => rfl
        | cons x l => simp at c
      subst hl0
      have hn : numO [] a = 0 := by simp [numO]
      rw [hn]
      simp
      refine sem_as_ok [(1, intsD m []), (2, .lit (.int .i64 (a : Int))), (3, .rptr [schR s] 0), (6, .ptr H.next 0), (7, .lit (.int .i64 0))] (by simp [D.le_refl, intsD]) ?_
      exact sem_ok ⟨rfl, rfl⟩
  rintro fr H1 ⟨rfl, rfl⟩
  obtain ⟨n, hn⟩ : ∃ n, numO l a = n := ⟨_, rfl⟩
  rw [hn]
  have h7 : Int.tmod (a : Int) 7 = ((a % 7 : Nat) : Int) := by rw [Int.tmod_eq_emod_of_nonneg (by omega)]; omega
  refine sem_run 9000 _ ?_
  simp [h7]
  refine sem_fn (pred7 L.pr hs0 hs (d := 3) (a := a % 7) (by omega) (by omega)) (by first | exact D.les_refl _ | simp) (sem_run 5 _ ?_)
  simp
  refine sem_cut (O15b s H n (predO s l a)) (sem_run 9000 _ ?_) ?_
  · by_cases c : andI (shrI .i64 n 3) 3 = 0
    · have hp : predO s l a = prK (andI (shrI .i64 n 5) 15) := by unfold predO; rw [hn, if_pos c]
      rw [hp]
      simp [c]
      refine sem_weak_ok (Weak.cell (b := H.next + 1) (cs := [.lit (.int .i64 2), .lit (.int .i64 0), .lit (.int .i64 1), .lit (.bool false), .lit (.int .i64 1), .lit (.int .i64 (andI (shrI .i64 n 5) 15)), .lit .nilslice, .lit .nilslice]) (ro := false) (cs' := (prK (andI (shrI .i64 n 5) 15)).c) (by simp) (by simp [pr_c, prK, nV, Pr.kind, Pr.col, Pr.op, Pr.v, Pr.l, D.les, D.le, byD, byE, prsD])) ?_
      exact sem_ok ⟨rfl, by simp, (by repeat (first | exact Sub.refl | apply Sub.new | refine Sub.put ?_ (by first | omega | (simp only [put_next, new_next]; omega)))), by simp, by simp⟩
    · have hp : predO s l a = predF s l 3 (a % 7) := by unfold predO; rw [hn, if_neg c]
      rw [hp]
      simp [c]
      refine sem_as_ok [(3, .rptr [schR s] 0), (6, .ptr H.next 0), (7, .lit (.int .i64 n)), (8, .ptr (H.next + 1) 0)] (by simp [D.le_refl]) ?_
      exact sem_ok ⟨rfl, by simp, (by repeat (first | exact Sub.refl | apply Sub.new | refine Sub.put ?_ (by first | omega | (simp only [put_next, new_next]; omega)))), by simp, by simp⟩
  rintro fr H1 ⟨rfl, hnx, hsub, hb6, hb8⟩
  obtain ⟨q, hq⟩ : ∃ q, predO s l a = q := ⟨_, rfl⟩
  rw [hq, pr_c] at hb8
  obtain ⟨k, hk, hk7⟩ := andI_small (a := n) (m := 7) (by simp)
  have hk' : andI n 7 = k := hk
  obtain ⟨c, hcn, hcl⟩ : ∃ c : Nat, colO s n = c ∧ c < s.length := by
    obtain ⟨q, hq, hq1⟩ := andI_small (a := shrI .i64 n 9) (m := 255) (by simp)
    have hq' : andI (shrI .i64 n 9) 255 = q := hq
    refine ⟨q % s.length, ?_, Nat.mod_lt _ hs0⟩
    unfold colO
    rw [hq', Int.tmod_eq_emod_of_nonneg (by omega)]; omega
  have hc : Int.tmod (andI (shrI .i64 n 9) 255) (s.length : Int) = c := hcn
  have hop : opF s l a = opG s n k c q := by unfold opF; rw [hn, hk', hcn, hq]
  rw [hop]
  have hz : (s.length : Int) ≠ 0 := by omega
  have hsz : ¬ s.length = 0 := by omega
  have l6 : H.next < H1.next := by omega
  have l8 : H.next + 1 < H1.next := by omega
  have h61 : ¬ H.next = H1.next := by omega
  have h81 : ¬ H.next + 1 = H1.next := by omega
  refine sem_run 9000 _ ?_
  simp [hsz, hc, hk']
  obtain ⟨cl, hcl'⟩ : ∃ cl, s[c]? = some cl := ⟨s[c], by simp⟩
  have hkk : (k = 0 ∨ k = 1 ∨ k = 2) ∨ (k = 3 ∨ k = 4) ∨ k = 5 ∨ k = 6 ∨ k = 7 := by omega
  rcases hkk with h | h | rfl | rfl | rfl
  · have hG : opG s n (k : Int) c q = insO (rowF s (shrI .i64 n 5)) := by rcases h with rfl | rfl | rfl <;> rfl
    rw [hG]
    rcases h with rfl | rfl | rfl
    all_goals
      simp
      refine sem_fn (law6_row L.pr.law6 (s := s) (n := shrI .i64 n 5) hs) (by first | exact D.les_refl _ | simp) (sem_run 9000 _ ?_)
      simp [hb6]
      refine sem_ret ?_
      simp [M97]
      exact .le (by have := hsub.next; repeat (first | exact hsub | apply Sub.new | refine Sub.put ?_ (by first | omega | (simp only [put_next, new_next]; omega)))) (by simp [op_c, insO, pr0, zv, Pr.kind, Pr.col, Pr.op, Pr.v, Pr.l, D.le, byD, byE, prsD, rowD, rowE, sxsD, sxsE, intsD, agsD, agsE]) (by simp [D.under, op_unders])
  · by_cases c0 : 0 < c
    · have hG : opG s n (k : Int) c q = setO q (sxO c cl n) := by rcases h with rfl | rfl <;> simp [opG, c0, hcl']
      rw [hG]
      rcases h with rfl | rfl
      all_goals
        by_cases k1 : cl.kind = 1
        · cases hvn : (valF cl (shrI .i64 n 17)).null with
          | true =>
            have hadd : addO cl n = false := by simp [addO, hvn]
            simp [c0, hcl', -getElem?_pos]
            refine sem_fn (law6_value L.pr.law6) (by first | exact D.les_refl _ | simp) (sem_run 9000 _ ?_)
            simp
            simp [hcl', k1, hvn, hb6, hb8, h61, h81, -getElem?_pos]
            refine sem_ret ?_
            simp [M97]
            exact .le (by have := hsub.next; repeat (first | exact hsub | apply Sub.new | refine Sub.put ?_ (by first | omega | (simp only [put_next, new_next]; omega)))) (by simp [op_c, setO, sxO, hadd, Sx.c, Vl.c, D.le, D.les, D.less, D.le_refl, rowD, rowE, sxsD, sxsE, intsD, agsD, agsE]) (by simp [D.under, op_unders])
          | false =>
            by_cases kb : andI (shrI .i64 n 13) 1 = 1
            · have hadd : addO cl n = true := by simp [addO, hvn, k1, kb]
              simp [c0, hcl', -getElem?_pos]
              refine sem_fn (law6_value L.pr.law6) (by first | exact D.les_refl _ | simp) (sem_run 9000 _ ?_)
              simp
              simp [hcl', k1, hvn, kb, hb6, hb8, h61, h81, -getElem?_pos]
              refine sem_ret ?_
              simp [M97]
              exact .le (by have := hsub.next; repeat (first | exact hsub | apply Sub.new | refine Sub.put ?_ (by first | omega | (simp only [put_next, new_next]; omega)))) (by simp [op_c, setO, sxO, hadd, Sx.c, Vl.c, D.le, D.les, D.less, D.le_refl, rowD, rowE, sxsD, sxsE, intsD, agsD, agsE]) (by simp [D.under, op_unders])
            · have hadd : addO cl n = false := by simp [addO, kb]
              simp [c0, hcl', -getElem?_pos]
              refine sem_fn (law6_value L.pr.law6) (by first | exact D.les_refl _ | simp) (sem_run 9000 _ ?_)
              simp
              simp [hcl', k1, hvn, kb, hb6, hb8, h61, h81, -getElem?_pos]
              refine sem_ret ?_
              simp [M97]
              exact .le (by have := hsub.next; repeat (first | exact hsub | apply Sub.new | refine Sub.put ?_ (by first | omega | (simp only [put_next, new_next]; omega)))) (by simp [op_c, setO, sxO, hadd, Sx.c, Vl.c, D.le, D.les, D.less, D.le_refl, rowD, rowE, sxsD, sxsE, intsD, agsD, agsE]) (by simp [D.under, op_unders])
        · have hadd : addO cl n = false := by simp [addO, k1]
          simp [c0, hcl', -getElem?_pos]
          refine sem_fn (law6_value L.pr.law6) (by first | exact D.les_refl _ | simp) (sem_run 9000 _ ?_)
          simp
          simp [hcl', k1, hb6, hb8, h61, h81, -getElem?_pos]
          refine sem_ret ?_
          simp [M97]
          exact .le (by have := hsub.next; repeat (first | exact hsub | apply Sub.new | refine Sub.put ?_ (by first | omega | (simp only [put_next, new_next]; omega)))) (by simp [op_c, setO, sxO, hadd, Sx.c, Vl.c, D.le, D.les, D.less, D.le_refl, rowD, rowE, sxsD, sxsE, intsD, agsD, agsE]) (by simp [D.under, op_unders])
    · have hG : opG s n (k : Int) c q = delO q := by rcases h with rfl | rfl <;> simp [opG, c0]
      rw [hG]
      rcases h with rfl | rfl
      all_goals
        simp [c0, hb6, hb8]
        refine sem_ret ?_
        simp [M97]
        exact .le (by have := hsub.next; repeat (first | exact hsub | apply Sub.new | refine Sub.put ?_ (by first | omega | (simp only [put_next, new_next]; omega)))) (by simp [op_c, delO, D.le, D.le_refl, rowD, rowE, sxsD, sxsE, intsD, agsD, agsE]) (by simp [D.under, op_unders])
  · rw [show opG s n ((5 : Nat) : Int) c q = scanO q [(c : Int), 0] by simp [opG]]
    simp [hb6, hb8]
    refine sem_ret ?_
    simp [M97]
    exact .le (by have := hsub.next; repeat (first | exact hsub | apply Sub.new | refine Sub.put ?_ (by first | omega | (simp only [put_next, new_next]; omega)))) (by simp [op_c, scanO, D.le, D.le_refl, rowD, rowE, sxsD, sxsE, intsD, agsD, agsE]) (by simp [D.under, op_unders])
  · rw [show opG s n ((6 : Nat) : Int) c q = aggO q (wr .i64 (c - wr .i64 (andI (shrI .i64 n 14) 1 * wr .i64 (c + 1)))) [⟨1, 0⟩, ⟨wr .i64 (3 + andI (shrI .i64 n 15) 1), c⟩, ⟨2, 0⟩] by simp [opG]]
    simp [hb6, hb8, h61]
    refine sem_ret ?_
    simp [M97]
    exact .le (by have := hsub.next; repeat (first | exact hsub | apply Sub.new | refine Sub.put ?_ (by first | omega | (simp only [put_next, new_next]; omega)))) (by simp [op_c, aggO, Ag.c, D.le, D.les, D.less, D.le_refl, rowD, rowE, sxsD, sxsE, intsD, agsD, agsE]) (by simp [D.under, op_unders])
  · by_cases e : andI (shrI .i64 n 18) 7 = 0
    · rw [show opG s n ((7 : Nat) : Int) c q = rollO by simp [opG, e]]
      simp [e, hb6]
      refine sem_ret ?_
      simp [M97]
      exact .le (by have := hsub.next; repeat (first | exact hsub | apply Sub.new | refine Sub.put ?_ (by first | omega | (simp only [put_next, new_next]; omega)))) (by simp [op_c, rollO, pr0, zv, Pr.kind, Pr.col, Pr.op, Pr.v, Pr.l, D.le, byD, byE, prsD, rowD, rowE, sxsD, sxsE, intsD, agsD, agsE]) (by simp [D.under, op_unders])
    · rw [show opG s n ((7 : Nat) : Int) c q = delO q by simp [opG, e]]
      simp [e, hb6, hb8]
      refine sem_ret ?_
      simp [M97]
      exact .le (by have := hsub.next; repeat (first | exact hsub | apply Sub.new | refine Sub.put ?_ (by first | omega | (simp only [put_next, new_next]; omega)))) (by simp [op_c, delO, D.le, D.le_refl, rowD, rowE, sxsD, sxsE, intsD, agsD, agsE]) (by simp [D.under, op_unders])
end Go.Lib
end

section
set_option maxRecDepth 10000
namespace Go.Lib
open Go.Vm Go.Dv Go.Srt
def setP (o : Op) (q : Pr) : Op := ⟨o.kind, o.row, q, o.sets, o.cols, o.group, o.aggs⟩
structure KeyOp (o : Op) (k : Int) : Prop where
  kind : o.kind = 2 ∨ o.kind = 3
  pred : o.pred = prK k
  sets : ∀ x, x ∈ o.sets → 1 ≤ x.col
def actF (o : Op) (r : Row) : Option (List Row) := if pickF o r = true then (if o.kind = 2 then (setF r o.sets).map (fun x => [x]) else some []) else some [r]
def actL (o : Op) : List Row → Option (List Row)
  | [] => some []
  | r :: R => match actF o r with
    | some l => (actL o R).map (l ++ ·)
    | none => none
theorem actL_upd {o : Op} (h : o.kind = 2) : ∀ {R : List Row}, actL o R = updF o R
  | [] => rfl
  | r :: R => by
    unfold actL updF actF
    rw [if_pos h]
    by_cases hp : pickF o r = true
    · rw [if_pos hp, if_pos hp]
      cases setF r o.sets with
      | none => rfl
      | some r' => rw [actL_upd h]; rfl
    · rw [if_neg hp, if_neg hp, actL_upd h]; rfl
theorem actL_keep {o : Op} (h : o.kind = 3) : ∀ {R : List Row}, actL o R = some (keepF (pickF o) R)
  | [] => rfl
  | r :: R => by
    unfold actL actF
    rw [if_neg (show ¬ o.kind = 2 by omega)]
    by_cases hp : pickF o r = true
    · rw [if_pos hp, actL_keep h]; simp [keepF, hp]
    · rw [if_neg hp, actL_keep h]; simp [keepF, hp]
theorem doF_act {o : Op} {k : Int} (h : KeyOp o k) (R : List Row) : doF R o = match actL o R with
    | some M => (M, ⟨0, cntF o R, []⟩)
    | none => (R, ⟨2, 0, []⟩) := by
  unfold doF
  rcases h.kind with h | h
  · rw [if_neg (by omega), if_pos h, actL_upd h] <;> cases updF o R <;> rfl
  · rw [if_neg (by omega), if_neg (by omega), if_pos h, actL_keep h]
theorem doF_norows {o : Op} {k : Int} (h : KeyOp o k) (R : List Row) : (doF R o).2.rows = [] := by
  rw [doF_act h]; cases actL o R <;> rfl
theorem setS_at {r r' : Row} {x : Sx} (hc : 1 ≤ x.col) (e : setS r x = some r') : atV r' 0 = atV r 0 := by
  unfold setS at e
  split at e
  · cases e; rfl
  · split at e
    · cases e; exact atV_set (by omega)
    · split at e
      · cases e; rfl
      · split at e
        · cases e; exact atV_set (by omega)
        · cases e
theorem setF_at : ∀ {l : List Sx} {r r' : Row}, (∀ x, x ∈ l → 1 ≤ x.col) → setF r l = some r' → atV r' 0 = atV r 0
  | [], r, r', _, e => by simp [setF] at e; subst e; rfl
  | x :: l, r, r', hx, e => by
    unfold setF at e
    split at e
    · rename_i r1 e1
      rw [setF_at (fun y hy => hx y (by simp [hy])) e, setS_at (hx x (by simp)) e1]
    · cases e
theorem KeyOp.pick {o : Op} {k : Int} (h : KeyOp o k) {r x : Row} (e : atV x 0 = atV r 0) : pickF o x = pickF o r := by
  unfold pickF; rw [h.pred, evalK, evalK, e]
theorem KeyOp.at_ {o : Op} {k : Int} (h : KeyOp o k) {r : Row} {l : List Row} (e : actF o r = some l) : ∀ x, x ∈ l → atV x 0 = atV r 0 := fun x hx => by
  unfold actF at e
  split at e
  · split at e
    · obtain ⟨r', e1, rfl⟩ := Option.map_eq_some_iff.1 e
      simp at hx; subst hx
      exact setF_at h.sets e1
    · cases e; simp at hx
  · cases e; simp at hx; subst hx; rfl
theorem KeyOp.key {o : Op} {k : Int} (h : KeyOp o k) {r : Row} (h1 : (atV r 0).kind = 1) (hp : pickF o r = true) : keyF r = k := by
  by_cases e : keyF r = k
  · exact e
  · have := pickK_no h1 e
    unfold pickF at hp
    rw [h.pred] at hp
    exact absurd (by simpa using hp) this
theorem act_skip {o : Op} : ∀ {l : List Row}, (∀ x, x ∈ l → pickF o x = false) → ∀ R, actL o (l ++ R) = (actL o R).map (l ++ ·)
  | [], _, R => by simp; cases actL o R <;> rfl
  | x :: l, h, R => by
    have hx := h x (by simp)
    show (match actF o x with | some m => (actL o (l ++ R)).map (m ++ ·) | none => none) = _
    have : actF o x = some [x] := by unfold actF; rw [if_neg (by simp [hx])]
    rw [this, act_skip (fun y hy => h y (by simp [hy])) R]
    cases actL o R <;> rfl
theorem cnt_skip {o : Op} {l : List Row} (h : ∀ x, x ∈ l → pickF o x = false) (R : List Row) : cntF o (l ++ R) = cntF o R := by
  unfold cntF
  rw [List.filter_append, List.filter_eq_nil_iff.2 fun x hx => by simp [h x hx]]; rfl
theorem act_apart {o1 o2 : Op} {k1 k2 : Int} (h1 : KeyOp o1 k1) (h2 : KeyOp o2 k2) (hk : k1 ≠ k2) : ∀ {R M1 : List Row}, (∀ r, r ∈ R → (atV r 0).kind = 1) → actL o1 R = some M1 →
    cntF o2 M1 = cntF o2 R ∧ (actL o2 R = none → actL o2 M1 = none) ∧ ∀ M2, actL o2 R = some M2 → ∃ N, actL o2 M1 = some N ∧ actL o1 M2 = some N
  | [], M1, _, e => by
    cases e
    exact ⟨rfl, fun h => h, fun M2 h => by cases h; exact ⟨[], rfl, rfl⟩⟩
  | r :: R, M1, hR, e => by
    have hr := hR r (by simp)
    have hR' := fun x (hx : x ∈ R) => hR x (by simp [hx])
    cases a1 : actF o1 r with
    | none => simp [actL, a1] at e
    | some l1 =>
      simp only [actL, a1] at e
      obtain ⟨M1', e1, rfl⟩ := Option.map_eq_some_iff.1 e
      obtain ⟨c1, c2, c3⟩ := act_apart h1 h2 hk hR' e1
      by_cases p1 : pickF o1 r = true
      · have p2 : pickF o2 r = false := by
          rw [← Bool.not_eq_true]; intro p2
          exact hk ((h1.key hr p1).symm.trans (h2.key hr p2))
        have hl : ∀ x, x ∈ l1 → pickF o2 x = false := fun x hx => by rw [h2.pick (h1.at_ a1 x hx)]; exact p2
        have a2 : actF o2 r = some [r] := by unfold actF; rw [if_neg (by simp [p2])]
        have b2 : actL o2 (r :: R) = (actL o2 R).map ([r] ++ ·) := by show (match actF o2 r with | some m => (actL o2 R).map (m ++ ·) | none => none) = _; rw [a2]
        refine ⟨?_, fun h => ?_, fun M2 h => ?_⟩
        · rw [show l1 ++ M1' = l1 ++ M1' from rfl, cnt_skip hl, c1]
          exact (cnt_skip (l := [r]) (fun x hx => by simp at hx; subst hx; exact p2) R).symm
        · rw [b2, Option.map_eq_none_iff] at h
          show actL o2 (l1 ++ M1') = none
          rw [act_skip hl, c2 h]; rfl
        · rw [b2] at h
          obtain ⟨M2', e2, rfl⟩ := Option.map_eq_some_iff.1 h
          obtain ⟨N, n1, n2⟩ := c3 M2' e2
          refine ⟨l1 ++ N, ?_, ?_⟩
          · show actL o2 (l1 ++ M1') = _
            rw [act_skip hl, n1]; rfl
          · show (match actF o1 r with | some m => (actL o1 M2').map (m ++ ·) | none => none) = _
            rw [a1, n2]; rfl
      · have p1' : pickF o1 r = false := by simpa using p1
        have : l1 = [r] := by
          unfold actF at a1; rw [if_neg p1] at a1; cases a1; rfl
        subst this
        refine ⟨?_, fun h => ?_, fun M2 h => ?_⟩
        · show cntF o2 (r :: M1') = _
          unfold cntF at c1 ⊢
          by_cases p2 : pickF o2 r = true
          · rw [List.filter_cons, if_pos p2, List.filter_cons, if_pos p2]; simp [c1]
          · rw [List.filter_cons, if_neg p2, List.filter_cons, if_neg p2]; exact c1
        · show actL o2 (r :: M1') = none
          unfold actL at h ⊢
          cases a2 : actF o2 r with
          | none => rfl
          | some l2 => rw [a2] at h; simp only [Option.map_eq_none_iff] at h ⊢; exact c2 h
        · cases a2 : actF o2 r with
          | none => simp [actL, a2] at h
          | some l2 =>
            simp only [actL, a2] at h
            obtain ⟨M2', e2, rfl⟩ := Option.map_eq_some_iff.1 h
            obtain ⟨N, n1, n2⟩ := c3 M2' e2
            have hl : ∀ x, x ∈ l2 → pickF o1 x = false := fun x hx => by rw [h1.pick (h2.at_ a2 x hx)]; exact p1'
            refine ⟨l2 ++ N, ?_, ?_⟩
            · show (match actF o2 r with | some m => (actL o2 M1').map (m ++ ·) | none => none) = _
              rw [a2, n1]; rfl
            · show actL o1 (l2 ++ M2') = _
              rw [act_skip hl, n2]; rfl
theorem do_apart {o1 o2 : Op} {k1 k2 : Int} (h1 : KeyOp o1 k1) (h2 : KeyOp o2 k2) (hk : k1 ≠ k2) {R : List Row} (hR : ∀ r, r ∈ R → (atV r 0).kind = 1) :
    (doF (doF R o2).1 o1).2 = (doF R o1).2 ∧ (doF (doF R o1).1 o2).2 = (doF R o2).2 ∧ (doF (doF R o2).1 o1).1 = (doF (doF R o1).1 o2).1 := by
  have f1 := doF_act h1
  have f2 := doF_act h2
  cases e1 : actL o1 R with
  | none =>
    have a1 : doF R o1 = (R, ⟨2, 0, []⟩) := by rw [f1, e1]
    cases e2 : actL o2 R with
    | none =>
      have a2 : doF R o2 = (R, ⟨2, 0, []⟩) := by rw [f2, e2]
      simp [a1, a2]
    | some M2 =>
      have a2 : doF R o2 = (M2, ⟨0, cntF o2 R, []⟩) := by rw [f2, e2]
      obtain ⟨_, c, _⟩ := act_apart h2 h1 hk.symm hR e2
      have a3 : doF M2 o1 = (M2, ⟨2, 0, []⟩) := by rw [f1, c e1]
      simp [a1, a2, a3]
  | some M1 =>
    have a1 : doF R o1 = (M1, ⟨0, cntF o1 R, []⟩) := by rw [f1, e1]
    obtain ⟨b1, c1, d1⟩ := act_apart h1 h2 hk hR e1
    cases e2 : actL o2 R with
    | none =>
      have a2 : doF R o2 = (R, ⟨2, 0, []⟩) := by rw [f2, e2]
      have a3 : doF M1 o2 = (M1, ⟨2, 0, []⟩) := by rw [f2, c1 e2]
      simp [a1, a2, a3]
    | some M2 =>
      have a2 : doF R o2 = (M2, ⟨0, cntF o2 R, []⟩) := by rw [f2, e2]
      obtain ⟨N, n1, n2⟩ := d1 M2 e2
      obtain ⟨b2, _, _⟩ := act_apart h2 h1 hk.symm hR e2
      have a3 : doF M1 o2 = (N, ⟨0, cntF o2 M1, []⟩) := by rw [f2, n1]
      have a4 : doF M2 o1 = (N, ⟨0, cntF o1 M2, []⟩) := by rw [f1, n2]
      simp [a1, a2, a3, a4, b1, b2]
theorem rows9_key {n : Int} {l : List Int} {i : Nat} {r : Row} (h : (rows9F (schF n) l)[i]? = some r) : ∃ q : Nat, q ≤ 1 ∧ r[0]? = some (nV (3 * (i : Int) + q)) ∧ keyF r = 3 * (i : Int) + q := by
  rw [rows9F_get] at h
  obtain ⟨x, _, e2⟩ := Option.map_eq_some_iff.1 h
  obtain ⟨q, hq, h1⟩ := andI_small (a := x) (m := 1) (by simp)
  have hq' : andI x 1 = q := hq
  rw [schF_cons, row9_eq] at e2
  subst e2
  refine ⟨q, h1, ?_, ?_⟩
  · show some (keyV i x) = _
    unfold keyV nV; rw [hq']
  · show 3 * (i : Int) + andI x 1 = _
    rw [hq']
theorem rows9_rise {n : Int} {l : List Int} : KeyRise (rows9F (schF n) l) := by
  unfold KeyRise
  rw [List.pairwise_iff_getElem]
  intro i j hi hj hij
  obtain ⟨q1, h1, _, e1⟩ := rows9_key (n := n) (l := l) (i := i) (r := (rows9F (schF n) l)[i]) (by simp)
  obtain ⟨q2, h2, _, e2⟩ := rows9_key (n := n) (l := l) (i := j) (r := (rows9F (schF n) l)[j]) (by simp)
  rw [e1, e2]; omega
theorem opG_sets {n : Int} {x k : Int} {c : Nat} {q : Pr} (hc : c < (schF n).length) : ∀ y, y ∈ (opG (schF n) x k c q).sets → SxOk (ksF (schF n)) y := fun y hy => by
  unfold opG at hy
  split at hy
  · simp [insO] at hy
  · split at hy
    · split at hy
      · rename_i c0
        have c0 : 0 < c := by omega
        have hcl : (schF n)[c]? = some (schF n)[c] := by simp
        rw [show ((c : Int).toNat) = c from rfl, hcl] at hy
        simp [setO] at hy; subst hy
        have hkc : ((ksF (schF n))[c]?).getD 0 = (schF n)[c].kind := by unfold ksF; rw [List.getElem?_map, hcl]; rfl
        refine ⟨⟨by show (1 : Int) ≤ c; omega, by show (c : Int) < _; rw [ksF_len]; omega⟩, valF_good (schF_kinds (n := n) _ (by simp)), ?_, fun h => ?_⟩
        · show (valF _ _).kind = ((ksF (schF n))[((c : Int)).toNat]?).getD 0
          rw [show ((c : Int).toNat) = c from rfl, hkc, valF_kind]
        · show ((ksF (schF n))[((c : Int)).toNat]?).getD 0 = 1
          rw [show ((c : Int).toNat) = c from rfl, hkc]
          have h : addO (schF n)[c] x = true := h
          simp [addO] at h
          exact h.1.1
      · simp [delO] at hy
    · split at hy
      · simp [scanO] at hy
      · split at hy
        · simp [aggO] at hy
        · split at hy
          · simp [rollO] at hy
          · simp [delO] at hy
theorem opG_few {s : Sch} {n k c : Int} {q : Pr} : (opG s n k c q).sets.length ≤ 1 := by
  unfold opG
  repeat' split
  all_goals simp [insO, setO, delO, scanO, aggO, rollO]
theorem colO_at {s : Sch} {n : Int} (h : 0 < s.length) : ∃ c : Nat, colO s n = c ∧ c < s.length := by
  obtain ⟨q, hq, hq1⟩ := andI_small (a := shrI .i64 n 9) (m := 255) (by simp)
  have hq' : andI (shrI .i64 n 9) 255 = q := hq
  refine ⟨q % s.length, ?_, Nat.mod_lt _ h⟩
  unfold colO
  rw [hq', Int.tmod_eq_emod_of_nonneg (by omega)]; omega
theorem opF_sets {n : Int} {l : List Int} {a : Nat} : ∀ y, y ∈ (opF (schF n) l a).sets → SxOk (ksF (schF n)) y := by
  obtain ⟨c, hc, hcl⟩ := colO_at (s := schF n) (n := numO l a) (schF_small (n := n)).2
  obtain ⟨k, hk, _⟩ := andI_small (a := numO l a) (m := 7) (by simp)
  have hk' : andI (numO l a) 7 = k := hk
  unfold opF
  rw [hc, hk']
  exact opG_sets hcl
theorem opF_few {s : Sch} {l : List Int} {a : Nat} : (opF s l a).sets.length ≤ 1 := opG_few
theorem setP_ok {n : Int} {l : List Int} {a : Nat} {k : Int} (h : (opF (schF n) l a).kind = 2 ∨ (opF (schF n) l a).kind = 3) (hr : (opF (schF n) l a).row.length < 1000) : OpOk (ksF (schF n)) 1 (setP (opF (schF n) l a) (prK k)) ∧ KeyOp (setP (opF (schF n) l a) (prK k)) k :=
  ⟨⟨⟨⟨by simp [setP, prK, Pr.l], fun x hx => by simp [setP, prK, Pr.l] at hx⟩, by show (opF _ _ _).sets.length < 1000; have := opF_few (s := schF n) (l := l) (a := a); omega, fun x hx => (opF_sets x hx).good.int⟩, hr, fun h1 => by
      have h1 : (opF (schF n) l a).kind = 1 := h1
      omega, fun _ => opF_sets, fun h1 => by
      have h1 : (opF (schF n) l a).kind = 4 := h1
      omega, fun h1 => by
      have h1 : (opF (schF n) l a).kind = 5 := h1
      omega⟩, ⟨h, rfl, fun x hx => (opF_sets x hx).col.1⟩⟩
theorem opF_row {s : Sch} {l : List Int} {a : Nat} : (opF s l a).row.length ≤ s.length := by
  unfold opF opG
  repeat' split
  all_goals simp [insO, setO, delO, scanO, aggO, rollO, rowF_len]
end Go.Lib
end

section
set_option maxRecDepth 10000
namespace Go.Lib
open Go.Vm Go.Dv Go.Srt
variable {p : Prog} {ext : Ext} {F : Nat → Nat}
attribute [-simp] bin_and bin_xor
structure HApart (p : Prog) (ext : Ext) (F : Nat → Nat) : Prop where
  modl : HModl p ext F
  law15 : HLaw15 p ext F
  ref6 : HRef6 p ext F
  awake : FnD p ext (F 107) [] (.lit (.bool true))
  h94 : Has p ext F 94 M94
  h103 : Has p ext F 103 M103
  h106 : Has p ext F 106 M106
theorem ref15_sameRes (L : HApart p ext F) {x : Rs} (hf : Fine x.rows) : FnD p ext (F 94) [.agg x.c, .agg x.c] (.lit (.bool true)) := by
  refine fn_of L.h94 (M := M94) rfl ok94 rfl fun H => sem_run 9000 _ ?_
  simp
  refine sem_fn (ref6_same L.ref6 hf) (by first | exact D.les_refl _ | simp) (sem_run 9000 _ ?_)
  simp
  refine sem_ret ?_
  simp [M94]
  exact .same (by simp)
theorem modlApart1 (L : HApart p ext F) {R : List Row} {i k : Int} {r : Row} (hR0 : 0 < R.length) (hr : R[(Int.tmod (andI i 255) (R.length : Int)).toNat]? = some r) (hk : r[0]? = some (nV k)) : FnD p ext (F 106) [.lit (.int .i64 i), .rptr [rowsD R] 0] (.agg (prK k).c) := by
  refine fn_of L.h106 (M := M106) rfl ok106 rfl fun H => sem_run 9000 _ ?_
  simp
  obtain ⟨q, hq, hq1⟩ := andI_small (a := i) (m := 255) (by simp)
  have hq' : andI i 255 = q := hq
  obtain ⟨j, hj⟩ : ∃ j, q % R.length = j := ⟨_, rfl⟩
  have ht : Int.tmod (q : Int) (R.length : Int) = (j : Int) := by rw [Int.tmod_eq_emod_of_nonneg (by omega)]; omega
  rw [hq', ht, show ((j : Int)).toNat = j from rfl] at hr
  have hz : (R.length : Int) ≠ 0 := by omega
  have hsz : ¬ R.length = 0 := by omega
  have hk0 : r.head? = some (nV k) := by rw [List.head?_eq_getElem?]; exact hk
  have hfl : flatsD ((nV k).c ++ [.lit .nilslice]) = true := rfl
  simp [hq', hsz, ht, hr, hk, hfl, -getElem?_pos]
  refine sem_ret ?_
  simp [M106, Vl.c]
  exact .le (by repeat (first | exact Sub.refl | apply Sub.new | refine Sub.put ?_ (by first | omega | (simp only [put_next, new_next]; omega)))) (by simp [pr_c, prK, nV, Pr.kind, Pr.col, Pr.op, Pr.v, Pr.l, D.les, D.le, byD, byE, prsD]) (by simp [D.under, pr_unders])
theorem splice_pred {o : Op} {q : Pr} : spliceD o.c 2 q.c = (setP o q).c := by
  rw [op_c, op_c, pr_c]; rfl
theorem modlApart (L : HApart p ext F) {n i j : Int} {m m2 : Md} {l l2 : List Int} {H : HpD} : WcD p ext (F 103) [.lit (.int .i64 n), intsD m l, .lit (.int .i64 i), .lit (.int .i64 j), intsD m2 l2] H (fun d _H' => d = .lit (.bool true)) := by
  refine wc_of L.h103 (M := M103) rfl ok103 rfl (sem_run 9000 _ ?_)
  simp
  refine sem_fn (schema L.law15.pr.law6) (by first | exact D.les_refl _ | simp) (sem_run 4 _ ?_)
  simp
  refine sem_box (b := H.next) (cs := [schR (schF n)]) (ro := false) 11 (by simp) (by simp) ?_
  refine sem_run 9000 _ ?_
  simp
  have hsm := schF_small (n := n)
  have hz : (schF n).length = moreF n + 1 := schF_len
  refine sem_fn (rows9 L.law15.pr.law6 hsm.1 hsm.2) (by first | exact D.les_refl _ | simp) (sem_run 4 _ ?_)
  simp
  refine sem_box (b := H.next + 1) (cs := [rowsD (rows9F (schF n) l)]) (ro := false) 12 (by simp) (by simp) ?_
  have hgood : GoodRs (ksF (schF n)) (rows9F (schF n) l) := rows9_good
  have hrise : KeyRise (rows9F (schF n) l) := rows9_rise
  have hlen : (rows9F (schF n) l).length ≤ 40 := rows9F_len
  have hkey := fun (i : Nat) (r : Row) => rows9_key (n := n) (l := l) (i := i) (r := r)
  generalize rows9F (schF n) l = R at hgood hrise hlen hkey
  refine sem_run 9000 _ ?_
  simp
  by_cases c : R = []
  · simp [c]
    refine sem_fn (L.awake) (by first | exact D.les_refl _ | simp) (sem_run 9000 _ ?_)
    simp
    refine sem_ret ?_
    simp [M103]
  · have hR0 : 0 < R.length := List.length_pos_iff.2 c
    simp [c]
    refine sem_dfn (opF_of L.law15 (s := schF n) (m := m2) (l := l2) (a := 0) hsm.2 hsm.1 (by omega)) (by first | exact D.les_refl _ | simp) (sem_run 9000 _ ?_)
    simp
    refine sem_dfn (opF_of L.law15 (s := schF n) (m := m2) (l := l2) (a := 1) hsm.2 hsm.1 (by omega)) (by first | exact D.les_refl _ | simp) (sem_run 9000 _ ?_)
    have ho1 := fun k => setP_ok (n := n) (l := l2) (a := 0) (k := k)
    have ho2 := fun k => setP_ok (n := n) (l := l2) (a := 1) (k := k)
    have hr1 : (opF (schF n) l2 0).row.length < 1000 := by have := opF_row (s := schF n) (l := l2) (a := 0); omega
    have hr2 : (opF (schF n) l2 1).row.length < 1000 := by have := opF_row (s := schF n) (l := l2) (a := 1); omega
    generalize opF (schF n) l2 0 = o1 at ho1 hr1
    generalize opF (schF n) l2 1 = o2 at ho2 hr2
    have pk : ∀ x : Int, ∃ q j : Nat, andI x 255 = q ∧ Int.tmod (q : Int) (R.length : Int) = (j : Int) ∧ j < R.length ∧ ∃ r k, R[j]? = some r ∧ r[0]? = some (nV k) ∧ keyF r = k := fun x => by
      obtain ⟨q, hq, _⟩ := andI_small (a := x) (m := 255) (by simp)
      obtain ⟨_, _, h3, h4⟩ := hkey (q % R.length) (R[q % R.length]'(Nat.mod_lt _ hR0)) (by simp)
      exact ⟨q, q % R.length, hq, by rw [Int.tmod_eq_emod_of_nonneg (by omega)]; omega, Nat.mod_lt _ hR0, _, _, by simp, h3, h4⟩
    obtain ⟨qi, ji, hqi, hji, hjil, ri, ki, hri, hki, hkfi⟩ := pk i
    obtain ⟨qj, jj, hqj, hjj, hjjl, rj, kj, hrj, hkj, hkfj⟩ := pk j
    have hz1 : (R.length : Int) ≠ 0 := by omega
    have hsz1 : ¬ R.length = 0 := by omega
    have hti : (Int.tmod (andI i 255) (R.length : Int)).toNat = ji := by rw [hqi, hji]; rfl
    have htj : (Int.tmod (andI j 255) (R.length : Int)).toNat = jj := by rw [hqj, hjj]; rfl
    by_cases a1 : o1.kind = 2 ∨ o1.kind = 3
    · by_cases a2 : o2.kind = 2 ∨ o2.kind = 3
      · by_cases ej : ji = jj
        · have : (ji : Int) = jj := by omega
          rcases a1 with a1 | a1 <;> rcases a2 with a2 | a2
          all_goals
            simp [a1, a2, hqi, hqj, hsz1, hji, hjj, ej]
            refine sem_fn (L.awake) (by first | exact D.les_refl _ | simp) (sem_run 9000 _ ?_)
            simp
            refine sem_ret ?_
            simp [M103]
        · have ej' : ¬ (ji : Int) = jj := by omega
          have hkne : ki ≠ kj := by
            rw [← hkfi, ← hkfj]
            obtain ⟨h1, rfl⟩ := List.getElem?_eq_some_iff.1 hri
            obtain ⟨h2, rfl⟩ := List.getElem?_eq_some_iff.1 hrj
            have hp := List.pairwise_iff_getElem.1 hrise
            by_cases lt : ji < jj
            · have := hp ji jj h1 h2 lt; omega
            · have := hp jj ji h2 h1 (by omega); omega
          obtain ⟨u1, v1⟩ := ho1 ki a1 hr1
          obtain ⟨u2, v2⟩ := ho2 kj a2 hr2
          have hks : ∃ ks', ksF (schF n) = 1 :: ks' := ⟨_, rfl⟩
          have hk1 : ∀ r, r ∈ R → (atV r 0).kind = 1 := fun r hr => by
            obtain ⟨ks', hks⟩ := hks
            have := ((hgood r hr).at_ (c := 0) ⟨by omega, by rw [hks]; simp⟩).1
            rw [this, hks]; rfl
          obtain ⟨z1, z2, z3⟩ := do_apart v1 v2 hkne hk1
          have hkl : (ksF (schF n)).length < 1000 := by rw [ksF_len]; exact hsm.1
          have hk0 : RowsK (ksF (schF n)) 40 R := ⟨hgood, hrise, hlen⟩
          have hkA := doF_ok hk0 u1
          have hkC := doF_ok hk0 u2
          have hkB := doF_ok hkA u2
          have d1 := hk0.do_ hkl (by omega) u1
          have d2 := hk0.do_ hkl (by omega) u2
          have d3 := hkA.do_ hkl (by omega) u2
          have d4 := hkC.do_ hkl (by omega) u1
          have hfB := (hkB.rows hkl (by omega)).fine
          have y1 := doF_norows v1 R
          have y2 := doF_norows v2 R
          obtain ⟨RA, sA, hA⟩ : ∃ RA sA, doF R (setP o1 (prK ki)) = (RA, sA) := ⟨_, _, rfl⟩
          obtain ⟨RC, sC, hC⟩ : ∃ RC sC, doF R (setP o2 (prK kj)) = (RC, sC) := ⟨_, _, rfl⟩
          rw [hA] at z1 z2 z3 d3 hfB y1
          rw [hC] at z1 z2 z3 d4 y2
          obtain ⟨RB, sB, hB⟩ : ∃ RB sB, doF RA (setP o2 (prK kj)) = (RB, sB) := ⟨_, _, rfl⟩
          obtain ⟨RD, sD, hD⟩ : ∃ RD sD, doF RC (setP o1 (prK ki)) = (RD, sD) := ⟨_, _, rfl⟩
          rw [hB] at z2 z3 hfB
          rw [hD] at z1 z3
          have z1 : sD = sA := z1
          have z2 : sB = sC := z2
          have z3 : RD = RB := z3
          subst z1 z2 z3
          have hf1 : Fine sD.rows := by rw [show sD.rows = [] from y1]; exact ⟨by simp, fun r hr => by cases hr⟩
          have hf2 : Fine sB.rows := by rw [show sB.rows = [] from y2]; exact ⟨by simp, fun r hr => by cases hr⟩
          have m1 := modl_do L.modl (sc := schF n) d1
          have m2 := modl_do L.modl (sc := schF n) d2
          have m3 := modl_do L.modl (sc := schF n) d3
          have m4 := modl_do L.modl (sc := schF n) d4
          rw [hA] at m1
          rw [hC] at m2
          rw [hB] at m3
          rw [hD] at m4
          rcases a1 with a1 | a1 <;> rcases a2 with a2 | a2
          all_goals
            simp [a1, a2, hqi, hqj, hsz1, hji, hjj, ej']
            refine sem_fn (modlApart1 L hR0 (i := i) (by rw [hti]; exact hri) hki) (by first | exact D.les_refl _ | simp) (sem_run 9000 _ ?_)
            simp
            refine sem_fn (modlApart1 L hR0 (i := j) (by rw [htj]; exact hrj) hkj) (by first | exact D.les_refl _ | simp) (sem_run 9000 _ ?_)
            simp [splice_pred]
            refine sem_fn m1 (by first | exact D.les_refl _ | simp) (sem_run 9000 _ ?_)
            simp
            refine sem_fn m3 (by first | exact D.les_refl _ | simp) (sem_run 9000 _ ?_)
            simp
            refine sem_fn m2 (by first | exact D.les_refl _ | simp) (sem_run 9000 _ ?_)
            simp
            refine sem_fn m4 (by first | exact D.les_refl _ | simp) (sem_run 9000 _ ?_)
            simp
            refine sem_fn (ref15_sameRes L hf1) (by first | exact D.les_refl _ | simp) (sem_run 9000 _ ?_)
            simp
            refine sem_fn (ref15_sameRes L hf2) (by first | exact D.les_refl _ | simp) (sem_run 9000 _ ?_)
            simp
            refine sem_fn (ref6_same L.ref6 hfB) (by first | exact D.les_refl _ | simp) (sem_run 9000 _ ?_)
            simp
            refine sem_fn (L.awake) (by first | exact D.les_refl _ | simp) (sem_run 9000 _ ?_)
            simp
            refine sem_ret ?_
            simp [M103]
      · have a2' : ¬ o2.kind = 2 ∧ ¬ o2.kind = 3 := by omega
        rcases a1 with a1 | a1
        all_goals
          simp [a1, a2'.1, a2'.2]
          refine sem_fn (L.awake) (by first | exact D.les_refl _ | simp) (sem_run 9000 _ ?_)
          simp
          refine sem_ret ?_
          simp [M103]
    · have a1' : ¬ o1.kind = 2 ∧ ¬ o1.kind = 3 := by omega
      simp [a1'.1, a1'.2]
      refine sem_fn (L.awake) (by first | exact D.les_refl _ | simp) (sem_run 9000 _ ?_)
      simp
      refine sem_ret ?_
      simp [M103]
end Go.Lib
end

section
namespace Go.Proofs.Ytnbmmnjihipahaa.sa
def F0 (i : Nat) : Nat := ([0, 56, 60, 57, 61, 62, 138, 131, 88, 87, 89, 90, 91, 85, 92, 140, 135, 136, 116, 117, 118, 137, 18, 17, 25, 27, 54, 86, 114, 115, 127, 132, 15, 21, 22, 23, 52, 53, 55, 58, 63, 84, 93, 112, 113, 119, 19, 64, 24, 31, 67, 4, 16, 26, 28, 29, 30, 65, 66, 68, 94, 6, 7, 5, 20, 71, 96, 95, 97, 98, 33, 38, 69, 70, 72, 73, 74, 77, 100, 99, 101, 102, 103, 120, 121, 128, 133, 104, 43, 123, 122, 80, 42, 41, 37, 78, 79, 36, 40, 76, 12, 13, 11, 9, 10, 39, 35, 34] : List Nat).getD i 0
end Go.Proofs.Ytnbmmnjihipahaa.sa
end

section
set_option maxRecDepth 100000
namespace Go.Proofs.Ytnbmmnjihipahaa
open Go.Vm
def m9 : Fun := Go.Lib.M103 Go.Proofs.Ytnbmmnjihipahaa.sa.F0
theorem v9 : IsFun Try.prog 9 m9 := ⟨_, Try.func9, by kernel_rfl, by kernel_rfl⟩
def m15 : Fun := Go.Lib.M32 Go.Proofs.Ytnbmmnjihipahaa.sa.F0
theorem v15 : IsFun Try.prog 15 m15 := ⟨_, Try.func15, by kernel_rfl, by kernel_rfl⟩
def m17 : Fun := Go.Lib.M23 Go.Proofs.Ytnbmmnjihipahaa.sa.F0
theorem v17 : IsFun Try.prog 17 m17 := ⟨_, Try.func17, by kernel_rfl, by kernel_rfl⟩
def m18 : Fun := Go.Lib.M22 Go.Proofs.Ytnbmmnjihipahaa.sa.F0
theorem v18 : IsFun Try.prog 18 m18 := ⟨_, Try.func18, by kernel_rfl, by kernel_rfl⟩
def m19 : Fun := Go.Lib.M46 Go.Proofs.Ytnbmmnjihipahaa.sa.F0
theorem v19 : IsFun Try.prog 19 m19 := ⟨_, Try.func19, by kernel_rfl, by kernel_rfl⟩
def m21 : Fun := Go.Lib.M33 Go.Proofs.Ytnbmmnjihipahaa.sa.F0
theorem v21 : IsFun Try.prog 21 m21 := ⟨_, Try.func21, by kernel_rfl, by kernel_rfl⟩
def m22 : Fun := Go.Lib.M34 Go.Proofs.Ytnbmmnjihipahaa.sa.F0
theorem v22 : IsFun Try.prog 22 m22 := ⟨_, Try.func22, by kernel_rfl, by kernel_rfl⟩
def m23 : Fun := Go.Lib.M35 Go.Proofs.Ytnbmmnjihipahaa.sa.F0
theorem v23 : IsFun Try.prog 23 m23 := ⟨_, Try.func23, by kernel_rfl, by kernel_rfl⟩
def m24 : Fun := Go.Lib.M48 Go.Proofs.Ytnbmmnjihipahaa.sa.F0
theorem v24 : IsFun Try.prog 24 m24 := ⟨_, Try.func24, by kernel_rfl, by kernel_rfl⟩
def m25 : Fun := Go.Lib.M24 Go.Proofs.Ytnbmmnjihipahaa.sa.F0
theorem v25 : IsFun Try.prog 25 m25 := ⟨_, Try.func25, by kernel_rfl, by kernel_rfl⟩
def m27 : Fun := Go.Lib.M25 Go.Proofs.Ytnbmmnjihipahaa.sa.F0
theorem v27 : IsFun Try.prog 27 m27 := ⟨_, Try.func27, by kernel_rfl, by kernel_rfl⟩
def m31 : Fun := Go.Lib.M49 Go.Proofs.Ytnbmmnjihipahaa.sa.F0
theorem v31 : IsFun Try.prog 31 m31 := ⟨_, Try.func31, by kernel_rfl, by kernel_rfl⟩
def m33 : Fun := Go.Lib.M70 Go.Proofs.Ytnbmmnjihipahaa.sa.F0
theorem v33 : IsFun Try.prog 33 m33 := ⟨_, Try.func33, by kernel_rfl, by kernel_rfl⟩
def m34 : Fun := ⟨122,0,.seq (.region [⟨some 0,.p (.mov (.val (.bool false))),none⟩])
 (.seq (.region [⟨some 10,.p (.build [.str [],.int .i64 (.ofNat 0),.bool false] [(0,1,(.val (.str [107,101,121]))),(1,1,(.val (.int .i64 (.ofNat 1))))]),none⟩,⟨some 11,.p (.build [.str [],.int .i64 (.ofNat 0),.bool false] [(0,1,(.val (.str [97]))),(1,1,(.val (.int .i64 (.ofNat 1))))]),none⟩,⟨some 12,.a (.bslice [.str [],.int .i64 (.ofNat 0),.bool false,.str [],.int .i64 (.ofNat 0),.bool false] 3 2 [(0,3,(.tmp 10)),(3,3,(.tmp 11))]),none⟩,⟨some 13,.p (.build [.nilslice] [(0,1,(.tmp 12))]),none⟩,⟨some 1,.a (.new [.nilslice]),none⟩,⟨none,.e (.store 1 (.tmp 1) (.tmp 13)),none⟩])
 (.seq (.region [⟨some 2,.p (.mov (.val (.func 75 [] []))),none⟩])
 (.seq (.region [⟨some 14,.p (.build [.int .i64 (.ofNat 0),.int .i64 (.ofNat 0),.int .i64 (.ofNat 0),.bool false,.int .i64 (.ofNat 0),.int .i64 (.ofNat 0),.nilslice,.nilslice] [(0,1,(.val (.int .i64 (.ofNat 1))))]),none⟩,⟨some 3,.a (.new [.int .i64 (.ofNat 0),.int .i64 (.ofNat 0),.int .i64 (.ofNat 0),.bool false,.int .i64 (.ofNat 0),.int .i64 (.ofNat 0),.nilslice,.nilslice]),none⟩,⟨none,.e (.store 8 (.tmp 3) (.tmp 14)),none⟩])
 (.seq (.dregion [⟨⟨some 17,.p (.mov (.tmp 2)),none⟩,0,1⟩,⟨⟨some 18,.e (.callv (.tmp 17) [(.val (.int .i64 (.ofNat 2)))]),none⟩,0,3⟩,⟨⟨some 19,.p (.mov (.tmp 2)),none⟩,0,3⟩,⟨⟨some 20,.e (.callv (.tmp 19) [(.val (.int .i64 (.ofNat 5)))]),none⟩,2,5⟩,⟨⟨some 24,.p (.mov (.tmp 2)),none⟩,0,5⟩,⟨⟨some 25,.e (.callv (.tmp 24) [(.val (.int .i64 (.ofNat 4)))]),none⟩,4,17⟩,⟨⟨some 16,.loadn 1 (.tmp 1),none⟩,0,17⟩,⟨⟨some 21,.a (.bslice [.bool false,.int .i64 (.ofNat 0),.int .i64 (.ofNat 0),.nilslice,.bool false,.int .i64 (.ofNat 0),.int .i64 (.ofNat 0),.nilslice] 4 2 [(0,4,(.tmp 18)),(4,4,(.tmp 20))]),none⟩,4,17⟩,⟨⟨some 22,.p (.build [.int .i64 (.ofNat 0),.nilslice,.int .i64 (.ofNat 0),.int .i64 (.ofNat 0),.int .i64 (.ofNat 0),.bool false,.int .i64 (.ofNat 0),.int .i64 (.ofNat 0),.nilslice,.nilslice,.nilslice,.nilslice,.int .i64 (.ofNat 0),.nilslice] [(0,1,(.val (.int .i64 (.ofNat 1)))),(1,1,(.tmp 21))]),none⟩,4,17⟩,⟨⟨some 23,.loadn 8 (.tmp 3),none⟩,0,17⟩,⟨⟨some 26,.p (.build [.int .i64 (.ofNat 0),.bool false,.bool false,.int .i64 (.ofNat 0),.int .i64 (.ofNat 0),.nilslice] [(0,1,(.val (.int .i64 (.ofNat 1)))),(1,1,(.val (.bool true))),(2,4,(.tmp 25))]),none⟩,6,17⟩,⟨⟨some 27,.a (.bslice [.int .i64 (.ofNat 0),.bool false,.bool false,.int .i64 (.ofNat 0),.int .i64 (.ofNat 0),.nilslice] 6 1 [(0,6,(.tmp 26))]),none⟩,6,17⟩,⟨⟨some 28,.p (.build [.int .i64 (.ofNat 0),.nilslice,.int .i64 (.ofNat 0),.int .i64 (.ofNat 0),.int .i64 (.ofNat 0),.bool false,.int .i64 (.ofNat 0),.int .i64 (.ofNat 0),.nilslice,.nilslice,.nilslice,.nilslice,.int .i64 (.ofNat 0),.nilslice] [(0,1,(.val (.int .i64 (.ofNat 2)))),(2,8,(.tmp 23)),(10,1,(.tmp 27))]),none⟩,6,17⟩,⟨⟨some 29,.loadn 8 (.tmp 3),none⟩,0,17⟩,⟨⟨some 30,.a (.bslice [.int .i64 (.ofNat 0)] 1 1 [(0,1,(.val (.int .i64 (.ofNat 1))))]),none⟩,0,17⟩,⟨⟨some 31,.p (.build [.int .i64 (.ofNat 0),.nilslice,.int .i64 (.ofNat 0),.int .i64 (.ofNat 0),.int .i64 (.ofNat 0),.bool false,.int .i64 (.ofNat 0),.int .i64 (.ofNat 0),.nilslice,.nilslice,.nilslice,.nilslice,.int .i64 (.ofNat 0),.nilslice] [(0,1,(.val (.int .i64 (.ofNat 4)))),(2,8,(.tmp 29)),(11,1,(.tmp 30))]),none⟩,0,17⟩,⟨⟨some 32,.a (.bslice [.int .i64 (.ofNat 0),.nilslice,.int .i64 (.ofNat 0),.int .i64 (.ofNat 0),.int .i64 (.ofNat 0),.bool false,.int .i64 (.ofNat 0),.int .i64 (.ofNat 0),.nilslice,.nilslice,.nilslice,.nilslice,.int .i64 (.ofNat 0),.nilslice,.int .i64 (.ofNat 0),.nilslice,.int .i64 (.ofNat 0),.int .i64 (.ofNat 0),.int .i64 (.ofNat 0),.bool false,.int .i64 (.ofNat 0),.int .i64 (.ofNat 0),.nilslice,.nilslice,.nilslice,.nilslice,.int .i64 (.ofNat 0),.nilslice,.int .i64 (.ofNat 0),.nilslice,.int .i64 (.ofNat 0),.int .i64 (.ofNat 0),.int .i64 (.ofNat 0),.bool false,.int .i64 (.ofNat 0),.int .i64 (.ofNat 0),.nilslice,.nilslice,.nilslice,.nilslice,.int .i64 (.ofNat 0),.nilslice] 14 3 [(0,14,(.tmp 22)),(14,14,(.tmp 28)),(28,14,(.tmp 31))]),none⟩,6,17⟩,⟨⟨some 33,.e (.call 38 [(.tmp 16),(.val (.nilslice)),(.tmp 32)]),none⟩,6,23⟩,⟨⟨some 15,.p (.mov (.tmp 33)),none⟩,18,23⟩,⟨⟨some 34,.p (.ext (.tmp 15) 0),none⟩,18,23⟩,⟨⟨some 35,.p (.ext (.tmp 15) 1),none⟩,18,23⟩,⟨⟨some 4,.p (.mov (.tmp 34)),none⟩,18,23⟩,⟨⟨some 5,.p (.mov (.tmp 35)),none⟩,18,23⟩])
 (.seq (.region [⟨some 37,.loadn 1 (.tmp 1),none⟩,⟨some 38,.p (.mov (.tmp 4)),none⟩,⟨some 39,.loadn 8 (.tmp 3),none⟩,⟨some 40,.p (.build [.int .i64 (.ofNat 0),.nilslice,.int .i64 (.ofNat 0),.int .i64 (.ofNat 0),.int .i64 (.ofNat 0),.bool false,.int .i64 (.ofNat 0),.int .i64 (.ofNat 0),.nilslice,.nilslice,.nilslice,.nilslice,.int .i64 (.ofNat 0),.nilslice] [(0,1,(.val (.int .i64 (.ofNat 3)))),(2,8,(.tmp 39))]),none⟩,⟨some 41,.p (.build [.int .i64 (.ofNat 0),.nilslice,.int .i64 (.ofNat 0),.int .i64 (.ofNat 0),.int .i64 (.ofNat 0),.bool false,.int .i64 (.ofNat 0),.int .i64 (.ofNat 0),.nilslice,.nilslice,.nilslice,.nilslice,.int .i64 (.ofNat 0),.nilslice] [(0,1,(.val (.int .i64 (.ofNat 6))))]),none⟩,⟨some 42,.loadn 8 (.tmp 3),none⟩,⟨some 43,.p (.build [.int .i64 (.ofNat 0),.nilslice,.int .i64 (.ofNat 0),.int .i64 (.ofNat 0),.int .i64 (.ofNat 0),.bool false,.int .i64 (.ofNat 0),.int .i64 (.ofNat 0),.nilslice,.nilslice,.nilslice,.nilslice,.int .i64 (.ofNat 0),.nilslice] [(0,1,(.val (.int .i64 (.ofNat 3)))),(2,8,(.tmp 42))]),none⟩,⟨some 44,.a (.bslice [.int .i64 (.ofNat 0),.nilslice,.int .i64 (.ofNat 0),.int .i64 (.ofNat 0),.int .i64 (.ofNat 0),.bool false,.int .i64 (.ofNat 0),.int .i64 (.ofNat 0),.nilslice,.nilslice,.nilslice,.nilslice,.int .i64 (.ofNat 0),.nilslice,.int .i64 (.ofNat 0),.nilslice,.int .i64 (.ofNat 0),.int .i64 (.ofNat 0),.int .i64 (.ofNat 0),.bool false,.int .i64 (.ofNat 0),.int .i64 (.ofNat 0),.nilslice,.nilslice,.nilslice,.nilslice,.int .i64 (.ofNat 0),.nilslice,.int .i64 (.ofNat 0),.nilslice,.int .i64 (.ofNat 0),.int .i64 (.ofNat 0),.int .i64 (.ofNat 0),.bool false,.int .i64 (.ofNat 0),.int .i64 (.ofNat 0),.nilslice,.nilslice,.nilslice,.nilslice,.int .i64 (.ofNat 0),.nilslice] 14 3 [(0,14,(.tmp 40)),(14,14,(.tmp 41)),(28,14,(.tmp 43))]),none⟩,⟨some 45,.e (.call 38 [(.tmp 37),(.tmp 38),(.tmp 44)]),none⟩,⟨some 36,.p (.mov (.tmp 45)),none⟩,⟨some 46,.p (.ext (.tmp 36) 0),none⟩,⟨some 47,.p (.ext (.tmp 36) 1),none⟩,⟨some 6,.p (.mov (.tmp 46)),none⟩,⟨some 7,.p (.mov (.tmp 47)),none⟩])
 (.seq (.dregion [⟨⟨some 51,.p (.mov (.tmp 2)),none⟩,0,1⟩,⟨⟨some 52,.e (.callv (.tmp 51) [(.val (.int .i64 (.ofNat 2)))]),none⟩,0,3⟩,⟨⟨some 53,.p (.mov (.tmp 2)),none⟩,0,3⟩,⟨⟨some 54,.e (.callv (.tmp 53) [(.val (.int .i64 (.ofNat 1)))]),none⟩,2,8⟩,⟨⟨some 49,.loadn 1 (.tmp 1),none⟩,0,8⟩,⟨⟨some 50,.p (.mov (.tmp 4)),none⟩,0,8⟩,⟨⟨some 55,.a (.bslice [.bool false,.int .i64 (.ofNat 0),.int .i64 (.ofNat 0),.nilslice,.bool false,.int .i64 (.ofNat 0),.int .i64 (.ofNat 0),.nilslice] 4 2 [(0,4,(.tmp 52)),(4,4,(.tmp 54))]),none⟩,4,8⟩,⟨⟨some 56,.p (.build [.int .i64 (.ofNat 0),.nilslice,.int .i64 (.ofNat 0),.int .i64 (.ofNat 0),.int .i64 (.ofNat 0),.bool false,.int .i64 (.ofNat 0),.int .i64 (.ofNat 0),.nilslice,.nilslice,.nilslice,.nilslice,.int .i64 (.ofNat 0),.nilslice] [(0,1,(.val (.int .i64 (.ofNat 1)))),(1,1,(.tmp 55))]),none⟩,4,8⟩,⟨⟨some 57,.e (.call 33 [(.tmp 49),(.tmp 50),(.tmp 56)]),none⟩,4,14⟩,⟨⟨some 48,.p (.mov (.tmp 57)),none⟩,9,14⟩,⟨⟨some 58,.p (.ext (.tmp 48) 0),none⟩,9,14⟩,⟨⟨some 59,.p (.ext (.tmp 48) 1),none⟩,9,14⟩,⟨⟨some 9,.a (.new [.int .i64 (.ofNat 0),.int .i64 (.ofNat 0),.nilslice]),none⟩,0,14⟩,⟨⟨some 8,.p (.mov (.tmp 58)),none⟩,9,14⟩,⟨⟨none,.e (.store 3 (.tmp 9) (.tmp 59)),none⟩,9,15⟩])
 (.seq (.region [⟨some 60,.p (.mov (.tmp 5)),none⟩,⟨some 61,.p (.lenb (.tmp 60)),none⟩,⟨some 62,.p (.bin .eql (.tmp 61) (.val (.int .i64 (.ofNat 3)))),none⟩,⟨some 63,.p (.mov (.tmp 62)),none⟩,⟨some 64,.p (.mov (.tmp 5)),(some (63,true))⟩,⟨some 65,.p (.iaddr 3 (.tmp 64) (.val (.int .i64 (.ofNat 2)))),(some (63,true))⟩,⟨some 66,.p (.faddr 2 (.tmp 65)),(some (63,true))⟩,⟨some 67,.load1 (.tmp 66),(some (63,true))⟩,⟨some 68,.p (.lenb (.tmp 67)),(some (63,true))⟩,⟨some 69,.p (.bin .eql (.tmp 68) (.val (.int .i64 (.ofNat 1)))),(some (63,true))⟩,⟨some 70,.p (.pick (.tmp 63) (.tmp 69) (.val (.bool false))),none⟩,⟨some 71,.p (.mov (.tmp 70)),none⟩,⟨some 72,.p (.mov (.tmp 5)),(some (71,true))⟩,⟨some 73,.p (.iaddr 3 (.tmp 72) (.val (.int .i64 (.ofNat 2)))),(some (71,true))⟩,⟨some 74,.p (.faddr 2 (.tmp 73)),(some (71,true))⟩,⟨some 75,.load1 (.tmp 74),(some (71,true))⟩,⟨some 76,.p (.iaddr 1 (.tmp 75) (.val (.int .i64 (.ofNat 0)))),(some (71,true))⟩,⟨some 77,.load1 (.tmp 76),(some (71,true))⟩,⟨some 78,.p (.lenb (.tmp 77)),(some (71,true))⟩,⟨some 79,.p (.bin .eql (.tmp 78) (.val (.int .i64 (.ofNat 1)))),(some (71,true))⟩,⟨some 80,.p (.pick (.tmp 71) (.tmp 79) (.val (.bool false))),none⟩,⟨some 81,.p (.mov (.tmp 80)),none⟩,⟨some 82,.p (.mov (.tmp 5)),(some (81,true))⟩,⟨some 83,.p (.iaddr 3 (.tmp 82) (.val (.int .i64 (.ofNat 2)))),(some (81,true))⟩,⟨some 84,.p (.faddr 2 (.tmp 83)),(some (81,true))⟩,⟨some 85,.load1 (.tmp 84),(some (81,true))⟩,⟨some 86,.p (.iaddr 1 (.tmp 85) (.val (.int .i64 (.ofNat 0)))),(some (81,true))⟩,⟨some 87,.load1 (.tmp 86),(some (81,true))⟩,⟨some 88,.p (.iaddr 4 (.tmp 87) (.val (.int .i64 (.ofNat 0)))),(some (81,true))⟩,⟨some 89,.p (.faddr 2 (.tmp 88)),(some (81,true))⟩,⟨some 90,.load1 (.tmp 89),(some (81,true))⟩,⟨some 91,.p (.bin .eql (.tmp 90) (.val (.int .i64 (.ofNat 9)))),(some (81,true))⟩,⟨some 92,.p (.pick (.tmp 81) (.tmp 91) (.val (.bool false))),none⟩,⟨some 93,.p (.mov (.tmp 92)),none⟩,⟨some 94,.p (.mov (.tmp 5)),(some (93,true))⟩,⟨some 95,.p (.iaddr 3 (.tmp 94) (.val (.int .i64 (.ofNat 1)))),(some (93,true))⟩,⟨some 96,.p (.faddr 1 (.tmp 95)),(some (93,true))⟩,⟨some 97,.load1 (.tmp 96),(some (93,true))⟩,⟨some 98,.p (.bin .eql (.tmp 97) (.val (.int .i64 (.ofNat 1)))),(some (93,true))⟩,⟨some 99,.p (.pick (.tmp 93) (.tmp 98) (.val (.bool false))),none⟩,⟨some 100,.p (.mov (.tmp 99)),none⟩,⟨some 101,.p (.mov (.tmp 7)),(some (100,true))⟩,⟨some 102,.p (.lenb (.tmp 101)),(some (100,true))⟩,⟨some 103,.p (.bin .eql (.tmp 102) (.val (.int .i64 (.ofNat 2)))),(some (100,true))⟩,⟨some 104,.p (.pick (.tmp 100) (.tmp 103) (.val (.bool false))),none⟩,⟨some 105,.p (.mov (.tmp 104)),none⟩,⟨some 106,.p (.mov (.tmp 7)),(some (105,true))⟩,⟨some 107,.p (.iaddr 3 (.tmp 106) (.val (.int .i64 (.ofNat 1)))),(some (105,true))⟩,⟨some 108,.p (.faddr 0 (.tmp 107)),(some (105,true))⟩,⟨some 109,.load1 (.tmp 108),(some (105,true))⟩,⟨some 110,.p (.bin .eql (.tmp 109) (.val (.int .i64 (.ofNat 3)))),(some (105,true))⟩,⟨some 111,.p (.pick (.tmp 105) (.tmp 110) (.val (.bool false))),none⟩,⟨some 112,.p (.mov (.tmp 111)),none⟩,⟨some 113,.p (.mov (.tmp 6)),(some (112,true))⟩,⟨some 114,.p (.mov (.tmp 4)),(some (112,true))⟩,⟨some 115,.e (.call 24 [(.tmp 113),(.tmp 114)]),(some (112,true))⟩,⟨some 116,.p (.pick (.tmp 112) (.tmp 115) (.val (.bool false))),none⟩,⟨some 117,.p (.mov (.tmp 116)),none⟩,⟨some 118,.p (.faddr 0 (.tmp 9)),(some (117,true))⟩,⟨some 119,.load1 (.tmp 118),(some (117,true))⟩,⟨some 120,.p (.bin .eql (.tmp 119) (.val (.int .i64 (.ofNat 1)))),(some (117,true))⟩,⟨some 121,.p (.pick (.tmp 117) (.tmp 120) (.val (.bool false))),none⟩,⟨some 0,.p (.mov (.tmp 121)),none⟩])
 (.ret)))))))),[.tmp 0]⟩
theorem v34 : IsFun Try.prog 34 m34 := ⟨_, Try.func34, by kernel_rfl, by kernel_rfl⟩
def m35 : Fun := Go.Lib.M106 Go.Proofs.Ytnbmmnjihipahaa.sa.F0
theorem v35 : IsFun Try.prog 35 m35 := ⟨_, Try.func35, by kernel_rfl, by kernel_rfl⟩
def m36 : Fun := Go.Lib.M97 Go.Proofs.Ytnbmmnjihipahaa.sa.F0
theorem v36 : IsFun Try.prog 36 m36 := ⟨_, Try.func36, by kernel_rfl, by kernel_rfl⟩
def m37 : Fun := Go.Lib.M94 Go.Proofs.Ytnbmmnjihipahaa.sa.F0
theorem v37 : IsFun Try.prog 37 m37 := ⟨_, Try.func37, by kernel_rfl, by kernel_rfl⟩
def m38 : Fun := Go.Lib.M71 Go.Proofs.Ytnbmmnjihipahaa.sa.F0
theorem v38 : IsFun Try.prog 38 m38 := ⟨_, Try.func38, by kernel_rfl, by kernel_rfl⟩
def m52 : Fun := Go.Lib.M36 Go.Proofs.Ytnbmmnjihipahaa.sa.F0
theorem v52 : IsFun Try.prog 52 m52 := ⟨_, Try.func52, by kernel_rfl, by kernel_rfl⟩
def m53 : Fun := Go.Lib.M37 Go.Proofs.Ytnbmmnjihipahaa.sa.F0
theorem v53 : IsFun Try.prog 53 m53 := ⟨_, Try.func53, by kernel_rfl, by kernel_rfl⟩
def m54 : Fun := Go.Lib.M26 Go.Proofs.Ytnbmmnjihipahaa.sa.F0
theorem v54 : IsFun Try.prog 54 m54 := ⟨_, Try.func54, by kernel_rfl, by kernel_rfl⟩
def m55 : Fun := Go.Lib.M38 Go.Proofs.Ytnbmmnjihipahaa.sa.F0
theorem v55 : IsFun Try.prog 55 m55 := ⟨_, Try.func55, by kernel_rfl, by kernel_rfl⟩
def m56 : Fun := Go.Lib.M1 Go.Proofs.Ytnbmmnjihipahaa.sa.F0
theorem v56 : IsFun Try.prog 56 m56 := ⟨_, Try.func56, by kernel_rfl, by kernel_rfl⟩
def m57 : Fun := Go.Lib.M3 Go.Proofs.Ytnbmmnjihipahaa.sa.F0
theorem v57 : IsFun Try.prog 57 m57 := ⟨_, Try.func57, by kernel_rfl, by kernel_rfl⟩
def m58 : Fun := Go.Lib.M39 Go.Proofs.Ytnbmmnjihipahaa.sa.F0
theorem v58 : IsFun Try.prog 58 m58 := ⟨_, Try.func58, by kernel_rfl, by kernel_rfl⟩
def m60 : Fun := Go.Lib.M2 Go.Proofs.Ytnbmmnjihipahaa.sa.F0
theorem v60 : IsFun Try.prog 60 m60 := ⟨_, Try.func60, by kernel_rfl, by kernel_rfl⟩
def m61 : Fun := Go.Lib.M4 Go.Proofs.Ytnbmmnjihipahaa.sa.F0
theorem v61 : IsFun Try.prog 61 m61 := ⟨_, Try.func61, by kernel_rfl, by kernel_rfl⟩
def m62 : Fun := Go.Lib.M5 Go.Proofs.Ytnbmmnjihipahaa.sa.F0
theorem v62 : IsFun Try.prog 62 m62 := ⟨_, Try.func62, by kernel_rfl, by kernel_rfl⟩
def m63 : Fun := Go.Lib.M40 Go.Proofs.Ytnbmmnjihipahaa.sa.F0
theorem v63 : IsFun Try.prog 63 m63 := ⟨_, Try.func63, by kernel_rfl, by kernel_rfl⟩
def m64 : Fun := Go.Lib.M47 Go.Proofs.Ytnbmmnjihipahaa.sa.F0
theorem v64 : IsFun Try.prog 64 m64 := ⟨_, Try.func64, by kernel_rfl, by kernel_rfl⟩
def m67 : Fun := Go.Lib.M50 Go.Proofs.Ytnbmmnjihipahaa.sa.F0
theorem v67 : IsFun Try.prog 67 m67 := ⟨_, Try.func67, by kernel_rfl, by kernel_rfl⟩
def m69 : Fun := Go.Lib.M72 Go.Proofs.Ytnbmmnjihipahaa.sa.F0
theorem v69 : IsFun Try.prog 69 m69 := ⟨_, Try.func69, by kernel_rfl, by kernel_rfl⟩
def m70 : Fun := Go.Lib.M73 Go.Proofs.Ytnbmmnjihipahaa.sa.F0
theorem v70 : IsFun Try.prog 70 m70 := ⟨_, Try.func70, by kernel_rfl, by kernel_rfl⟩
def m71 : Fun := Go.Lib.M65 Go.Proofs.Ytnbmmnjihipahaa.sa.F0
theorem v71 : IsFun Try.prog 71 m71 := ⟨_, Try.func71, by kernel_rfl, by kernel_rfl⟩
def m72 : Fun := Go.Lib.M74 Go.Proofs.Ytnbmmnjihipahaa.sa.F0
theorem v72 : IsFun Try.prog 72 m72 := ⟨_, Try.func72, by kernel_rfl, by kernel_rfl⟩
def m73 : Fun := Go.Lib.M75 Go.Proofs.Ytnbmmnjihipahaa.sa.F0
theorem v73 : IsFun Try.prog 73 m73 := ⟨_, Try.func73, by kernel_rfl, by kernel_rfl⟩
def m74 : Fun := Go.Lib.M76 Go.Proofs.Ytnbmmnjihipahaa.sa.F0
theorem v74 : IsFun Try.prog 74 m74 := ⟨_, Try.func74, by kernel_rfl, by kernel_rfl⟩
def m75 : Fun := ⟨5,1,.seq (.region [⟨some 2,.a (.new [.bool false,.int .i64 (.ofNat 0),.int .i64 (.ofNat 0),.nilslice]),none⟩])
 (.seq (.region [⟨some 3,.p (.mov (.tmp 0)),none⟩,⟨some 4,.p (.build [.bool false,.int .i64 (.ofNat 0),.int .i64 (.ofNat 0),.nilslice] [(1,1,(.val (.int .i64 (.ofNat 1)))),(2,1,(.tmp 3))]),none⟩,⟨none,.e (.store 4 (.tmp 2) (.tmp 4)),none⟩])
 (.ret)),[.celln 4 2]⟩
theorem v75 : IsFun Try.prog 75 m75 := ⟨_, Try.func75, by kernel_rfl, by kernel_rfl⟩
def m76 : Fun := Go.Lib.M99 Go.Proofs.Ytnbmmnjihipahaa.sa.F0
theorem v76 : IsFun Try.prog 76 m76 := ⟨_, Try.func76, by kernel_rfl, by kernel_rfl⟩
end Go.Proofs.Ytnbmmnjihipahaa
end

section
set_option maxRecDepth 100000
namespace Go.Proofs.Ytnbmmnjihipahaa
open Go.Vm
def m77 : Fun := Go.Lib.M77 Go.Proofs.Ytnbmmnjihipahaa.sa.F0
theorem v77 : IsFun Try.prog 77 m77 := ⟨_, Try.func77, by kernel_rfl, by kernel_rfl⟩
def m84 : Fun := Go.Lib.M41 Go.Proofs.Ytnbmmnjihipahaa.sa.F0
theorem v84 : IsFun Try.prog 84 m84 := ⟨_, Try.func84, by kernel_rfl, by kernel_rfl⟩
def m85 : Fun := Go.Lib.M13 Go.Proofs.Ytnbmmnjihipahaa.sa.F0
theorem v85 : IsFun Try.prog 85 m85 := ⟨_, Try.func85, by kernel_rfl, by kernel_rfl⟩
def m86 : Fun := Go.Lib.M27 Go.Proofs.Ytnbmmnjihipahaa.sa.F0
theorem v86 : IsFun Try.prog 86 m86 := ⟨_, Try.func86, by kernel_rfl, by kernel_rfl⟩
def m87 : Fun := Go.Lib.M9 Go.Proofs.Ytnbmmnjihipahaa.sa.F0
theorem v87 : IsFun Try.prog 87 m87 := ⟨_, Try.func87, by kernel_rfl, by kernel_rfl⟩
def m88 : Fun := Go.Lib.M8 Go.Proofs.Ytnbmmnjihipahaa.sa.F0
theorem v88 : IsFun Try.prog 88 m88 := ⟨_, Try.func88, by kernel_rfl, by kernel_rfl⟩
def m89 : Fun := Go.Lib.M10 Go.Proofs.Ytnbmmnjihipahaa.sa.F0
theorem v89 : IsFun Try.prog 89 m89 := ⟨_, Try.func89, by kernel_rfl, by kernel_rfl⟩
def m90 : Fun := Go.Lib.M11 Go.Proofs.Ytnbmmnjihipahaa.sa.F0
theorem v90 : IsFun Try.prog 90 m90 := ⟨_, Try.func90, by kernel_rfl, by kernel_rfl⟩
def m91 : Fun := Go.Lib.M12 Go.Proofs.Ytnbmmnjihipahaa.sa.F0
theorem v91 : IsFun Try.prog 91 m91 := ⟨_, Try.func91, by kernel_rfl, by kernel_rfl⟩
def m92 : Fun := Go.Lib.M14 Go.Proofs.Ytnbmmnjihipahaa.sa.F0
theorem v92 : IsFun Try.prog 92 m92 := ⟨_, Try.func92, by kernel_rfl, by kernel_rfl⟩
def m93 : Fun := Go.Lib.M42 Go.Proofs.Ytnbmmnjihipahaa.sa.F0
theorem v93 : IsFun Try.prog 93 m93 := ⟨_, Try.func93, by kernel_rfl, by kernel_rfl⟩
def m95 : Fun := Go.Lib.M67 Go.Proofs.Ytnbmmnjihipahaa.sa.F0
theorem v95 : IsFun Try.prog 95 m95 := ⟨_, Try.func95, by kernel_rfl, by kernel_rfl⟩
def m96 : Fun := Go.Lib.M66 Go.Proofs.Ytnbmmnjihipahaa.sa.F0
theorem v96 : IsFun Try.prog 96 m96 := ⟨_, Try.func96, by kernel_rfl, by kernel_rfl⟩
def m97 : Fun := Go.Lib.M68 Go.Proofs.Ytnbmmnjihipahaa.sa.F0
theorem v97 : IsFun Try.prog 97 m97 := ⟨_, Try.func97, by kernel_rfl, by kernel_rfl⟩
def m98 : Fun := Go.Lib.M69 Go.Proofs.Ytnbmmnjihipahaa.sa.F0
theorem v98 : IsFun Try.prog 98 m98 := ⟨_, Try.func98, by kernel_rfl, by kernel_rfl⟩
def m99 : Fun := Go.Lib.M79 Go.Proofs.Ytnbmmnjihipahaa.sa.F0
theorem v99 : IsFun Try.prog 99 m99 := ⟨_, Try.func99, by kernel_rfl, by kernel_rfl⟩
def m100 : Fun := Go.Lib.M78 Go.Proofs.Ytnbmmnjihipahaa.sa.F0
theorem v100 : IsFun Try.prog 100 m100 := ⟨_, Try.func100, by kernel_rfl, by kernel_rfl⟩
def m101 : Fun := Go.Lib.M80 Go.Proofs.Ytnbmmnjihipahaa.sa.F0
theorem v101 : IsFun Try.prog 101 m101 := ⟨_, Try.func101, by kernel_rfl, by kernel_rfl⟩
def m102 : Fun := Go.Lib.M81 Go.Proofs.Ytnbmmnjihipahaa.sa.F0
theorem v102 : IsFun Try.prog 102 m102 := ⟨_, Try.func102, by kernel_rfl, by kernel_rfl⟩
def m103 : Fun := Go.Lib.M82 Go.Proofs.Ytnbmmnjihipahaa.sa.F0
theorem v103 : IsFun Try.prog 103 m103 := ⟨_, Try.func103, by kernel_rfl, by kernel_rfl⟩
def m112 : Fun := Go.Lib.M43 Go.Proofs.Ytnbmmnjihipahaa.sa.F0
theorem v112 : IsFun Try.prog 112 m112 := ⟨_, Try.func112, by kernel_rfl, by kernel_rfl⟩
def m113 : Fun := Go.Lib.M44 Go.Proofs.Ytnbmmnjihipahaa.sa.F0
theorem v113 : IsFun Try.prog 113 m113 := ⟨_, Try.func113, by kernel_rfl, by kernel_rfl⟩
def m114 : Fun := Go.Lib.M28 Go.Proofs.Ytnbmmnjihipahaa.sa.F0
theorem v114 : IsFun Try.prog 114 m114 := ⟨_, Try.func114, by kernel_rfl, by kernel_rfl⟩
def m115 : Fun := Go.Lib.M29 Go.Proofs.Ytnbmmnjihipahaa.sa.F0
theorem v115 : IsFun Try.prog 115 m115 := ⟨_, Try.func115, by kernel_rfl, by kernel_rfl⟩
def m116 : Fun := Go.Lib.M18 Go.Proofs.Ytnbmmnjihipahaa.sa.F0
theorem v116 : IsFun Try.prog 116 m116 := ⟨_, Try.func116, by kernel_rfl, by kernel_rfl⟩
def m117 : Fun := Go.Lib.M19 Go.Proofs.Ytnbmmnjihipahaa.sa.F0
theorem v117 : IsFun Try.prog 117 m117 := ⟨_, Try.func117, by kernel_rfl, by kernel_rfl⟩
def m121 : Fun := Go.Lib.M84 Go.Proofs.Ytnbmmnjihipahaa.sa.F0
theorem v121 : IsFun Try.prog 121 m121 := ⟨_, Try.func121, by kernel_rfl, by kernel_rfl⟩
def m127 : Fun := Go.Lib.M30 Go.Proofs.Ytnbmmnjihipahaa.sa.F0
theorem v127 : IsFun Try.prog 127 m127 := ⟨_, Try.func127, by kernel_rfl, by kernel_rfl⟩
def m128 : Fun := Go.Lib.M85 Go.Proofs.Ytnbmmnjihipahaa.sa.F0
theorem v128 : IsFun Try.prog 128 m128 := ⟨_, Try.func128, by kernel_rfl, by kernel_rfl⟩
def m131 : Fun := Go.Lib.M7 Go.Proofs.Ytnbmmnjihipahaa.sa.F0
theorem v131 : IsFun Try.prog 131 m131 := ⟨_, Try.func131, by kernel_rfl, by kernel_rfl⟩
def m132 : Fun := Go.Lib.M31 Go.Proofs.Ytnbmmnjihipahaa.sa.F0
theorem v132 : IsFun Try.prog 132 m132 := ⟨_, Try.func132, by kernel_rfl, by kernel_rfl⟩
def m133 : Fun := Go.Lib.M86 Go.Proofs.Ytnbmmnjihipahaa.sa.F0
theorem v133 : IsFun Try.prog 133 m133 := ⟨_, Try.func133, by kernel_rfl, by kernel_rfl⟩
def m135 : Fun := Go.Lib.M16 Go.Proofs.Ytnbmmnjihipahaa.sa.F0
theorem v135 : IsFun Try.prog 135 m135 := ⟨_, Try.func135, by kernel_rfl, by kernel_rfl⟩
def m136 : Fun := Go.Lib.M17 Go.Proofs.Ytnbmmnjihipahaa.sa.F0
theorem v136 : IsFun Try.prog 136 m136 := ⟨_, Try.func136, by kernel_rfl, by kernel_rfl⟩
def m137 : Fun := Go.Lib.M21 Go.Proofs.Ytnbmmnjihipahaa.sa.F0
theorem v137 : IsFun Try.prog 137 m137 := ⟨_, Try.func137, by kernel_rfl, by kernel_rfl⟩
def m138 : Fun := Go.Lib.M6 Go.Proofs.Ytnbmmnjihipahaa.sa.F0
theorem v138 : IsFun Try.prog 138 m138 := ⟨_, Try.func138, by kernel_rfl, by kernel_rfl⟩
def m140 : Fun := Go.Lib.M15 Go.Proofs.Ytnbmmnjihipahaa.sa.F0
theorem v140 : IsFun Try.prog 140 m140 := ⟨_, Try.func140, by kernel_rfl, by kernel_rfl⟩
end Go.Proofs.Ytnbmmnjihipahaa
end

section
set_option maxRecDepth 100000
namespace Go.Proofs.Ytnbmmnjihipahaa
open Go.Vm
def funs : T Fun := (.node (.node (.node (.node (.node (.node (.node (.node .leaf (some m127) .leaf) (some m63) .leaf) (some m31) (.node .leaf (some m95) .leaf)) (some m15) .leaf) none (.node (.node (.node (.node .leaf (some m135) .leaf) (some m71) .leaf) none (.node .leaf (some m103) .leaf)) (some m23) (.node (.node .leaf (some m87) .leaf) (some m55) .leaf))) none (.node (.node (.node (.node (.node .leaf (some m131) .leaf) (some m67) .leaf) (some m35) (.node .leaf (some m99) .leaf)) (some m19) (.node .leaf none (.node .leaf (some m115) .leaf))) none (.node (.node (.node .leaf (some m75) .leaf) none .leaf) (some m27) (.node (.node .leaf (some m91) .leaf) none .leaf)))) none (.node (.node (.node (.node .leaf (some m33) (.node .leaf (some m97) .leaf)) (some m17) (.node .leaf none (.node .leaf (some m113) .leaf))) (some m9) (.node (.node (.node (.node .leaf (some m137) .leaf) (some m73) .leaf) none .leaf) (some m25) (.node (.node .leaf (some m89) .leaf) (some m57) (.node .leaf (some m121) .leaf)))) none (.node (.node (.node (.node (.node .leaf (some m133) .leaf) (some m69) .leaf) (some m37) (.node .leaf (some m101) .leaf)) (some m21) (.node (.node .leaf (some m85) .leaf) (some m53) (.node .leaf (some m117) .leaf))) none (.node (.node (.node .leaf (some m77) .leaf) none .leaf) none (.node (.node .leaf (some m93) .leaf) (some m61) .leaf))))) none (.node (.node (.node (.node (.node (.node (.node .leaf (some m128) .leaf) (some m64) .leaf) none (.node .leaf (some m96) .leaf)) none (.node .leaf none (.node .leaf (some m112) .leaf))) none (.node (.node (.node (.node .leaf (some m136) .leaf) (some m72) .leaf) none .leaf) (some m24) (.node (.node .leaf (some m88) .leaf) (some m56) .leaf))) none (.node (.node (.node (.node (.node .leaf (some m132) .leaf) none .leaf) (some m36) (.node .leaf (some m100) .leaf)) none (.node (.node .leaf (some m84) .leaf) (some m52) (.node .leaf (some m116) .leaf))) none (.node (.node (.node (.node .leaf (some m140) .leaf) (some m76) .leaf) none .leaf) none (.node (.node .leaf (some m92) .leaf) (some m60) .leaf)))) none (.node (.node (.node (.node .leaf (some m34) (.node .leaf (some m98) .leaf)) (some m18) (.node .leaf none (.node .leaf (some m114) .leaf))) none (.node (.node (.node (.node .leaf (some m138) .leaf) (some m74) .leaf) none .leaf) none (.node (.node .leaf (some m90) .leaf) (some m58) .leaf))) none (.node (.node (.node (.node .leaf (some m70) .leaf) (some m38) (.node .leaf (some m102) .leaf)) (some m22) (.node (.node .leaf (some m86) .leaf) (some m54) .leaf)) none (.node .leaf none (.node .leaf (some m62) .leaf))))))
def ints : List Nat := [2,3,5,6,12,21,56,72,147,191,192,193,196,197]
theorem intsOk : IntsOk Try.prog ints := ints_of (by kernel_rfl)
def mach (tab : Tab) : Vm.Prog := ⟨funs, ⟨tab, ints⟩⟩
theorem valid (tab : Tab) : Valid Try.prog (mach tab) := valid_of (show AllT (IsFun Try.prog) 1 0 funs from ⟨trivial, ⟨trivial, ⟨trivial, ⟨trivial, ⟨v15, ⟨v31, ⟨v63, ⟨v127, trivial, trivial⟩, trivial⟩, ⟨v95, trivial, trivial⟩⟩, trivial⟩, ⟨v23, ⟨trivial, ⟨v71, ⟨v135, trivial, trivial⟩, trivial⟩, ⟨v103, trivial, trivial⟩⟩, ⟨v55, ⟨v87, trivial, trivial⟩, trivial⟩⟩⟩, ⟨trivial, ⟨v19, ⟨v35, ⟨v67, ⟨v131, trivial, trivial⟩, trivial⟩, ⟨v99, trivial, trivial⟩⟩, ⟨trivial, trivial, ⟨v115, trivial, trivial⟩⟩⟩, ⟨v27, ⟨trivial, ⟨v75, trivial, trivial⟩, trivial⟩, ⟨trivial, ⟨v91, trivial, trivial⟩, trivial⟩⟩⟩⟩, ⟨trivial, ⟨v9, ⟨v17, ⟨v33, trivial, ⟨v97, trivial, trivial⟩⟩, ⟨trivial, trivial, ⟨v113, trivial, trivial⟩⟩⟩, ⟨v25, ⟨trivial, ⟨v73, ⟨v137, trivial, trivial⟩, trivial⟩, trivial⟩, ⟨v57, ⟨v89, trivial, trivial⟩, ⟨v121, trivial, trivial⟩⟩⟩⟩, ⟨trivial, ⟨v21, ⟨v37, ⟨v69, ⟨v133, trivial, trivial⟩, trivial⟩, ⟨v101, trivial, trivial⟩⟩, ⟨v53, ⟨v85, trivial, trivial⟩, ⟨v117, trivial, trivial⟩⟩⟩, ⟨trivial, ⟨trivial, ⟨v77, trivial, trivial⟩, trivial⟩, ⟨v61, ⟨v93, trivial, trivial⟩, trivial⟩⟩⟩⟩⟩, ⟨trivial, ⟨trivial, ⟨trivial, ⟨trivial, ⟨trivial, ⟨v64, ⟨v128, trivial, trivial⟩, trivial⟩, ⟨v96, trivial, trivial⟩⟩, ⟨trivial, trivial, ⟨v112, trivial, trivial⟩⟩⟩, ⟨v24, ⟨trivial, ⟨v72, ⟨v136, trivial, trivial⟩, trivial⟩, trivial⟩, ⟨v56, ⟨v88, trivial, trivial⟩, trivial⟩⟩⟩, ⟨trivial, ⟨trivial, ⟨v36, ⟨trivial, ⟨v132, trivial, trivial⟩, trivial⟩, ⟨v100, trivial, trivial⟩⟩, ⟨v52, ⟨v84, trivial, trivial⟩, ⟨v116, trivial, trivial⟩⟩⟩, ⟨trivial, ⟨trivial, ⟨v76, ⟨v140, trivial, trivial⟩, trivial⟩, trivial⟩, ⟨v60, ⟨v92, trivial, trivial⟩, trivial⟩⟩⟩⟩, ⟨trivial, ⟨trivial, ⟨v18, ⟨v34, trivial, ⟨v98, trivial, trivial⟩⟩, ⟨trivial, trivial, ⟨v114, trivial, trivial⟩⟩⟩, ⟨trivial, ⟨trivial, ⟨v74, ⟨v138, trivial, trivial⟩, trivial⟩, trivial⟩, ⟨v58, ⟨v90, trivial, trivial⟩, trivial⟩⟩⟩, ⟨trivial, ⟨v22, ⟨v38, ⟨v70, trivial, trivial⟩, ⟨v102, trivial, trivial⟩⟩, ⟨v54, ⟨v86, trivial, trivial⟩, trivial⟩⟩, ⟨trivial, trivial, ⟨v62, trivial, trivial⟩⟩⟩⟩⟩⟩)
end Go.Proofs.Ytnbmmnjihipahaa
end

section
set_option maxRecDepth 100000
namespace Go.Proofs.Ytnbmmnjihipahaa
open Go.Vm
theorem x118 : IsExt Try.prog (118, .cmp) := ⟨_, Try.func118, by kernel_rfl, by kernel_rfl, by kernel_rfl, by kernel_rfl⟩
theorem x119 : IsExt Try.prog (119, .add64) := ⟨_, Try.func119, by kernel_rfl, by kernel_rfl, by kernel_rfl, by kernel_rfl⟩
def exts : List (Nat × Ek) := [(118, .cmp), (119, .add64)]
theorem extsOk : ∀ x, x ∈ exts → IsExt Try.prog x := by
  intro x hx
  unfold exts at hx
  rcases List.mem_cons.1 hx with rfl | hx
  · exact x118
  rcases List.mem_cons.1 hx with rfl | hx
  · exact x119
  cases hx
end Go.Proofs.Ytnbmmnjihipahaa
end

section
set_option maxRecDepth 100000
namespace Go.Proofs.Ytnbmmnjihipahaa.sa
open Go.Vm Go.Dv Go.Lib
def pr : Vm.Prog := mach []
def xt : Ext := orX (constX [34]) (extBy exts)
theorem has1 : Go.Dv.Has pr xt F0 1 Go.Lib.M1 := ⟨by kernel_rfl, fun _ _ => rfl⟩
theorem has2 : Go.Dv.Has pr xt F0 2 Go.Lib.M2 := ⟨by kernel_rfl, fun _ _ => rfl⟩
theorem has3 : Go.Dv.Has pr xt F0 3 Go.Lib.M3 := ⟨by kernel_rfl, fun _ _ => rfl⟩
theorem has4 : Go.Dv.Has pr xt F0 4 Go.Lib.M4 := ⟨by kernel_rfl, fun _ _ => rfl⟩
theorem has5 : Go.Dv.Has pr xt F0 5 Go.Lib.M5 := ⟨by kernel_rfl, fun _ _ => rfl⟩
theorem has6 : Go.Dv.Has pr xt F0 6 Go.Lib.M6 := ⟨by kernel_rfl, fun _ _ => rfl⟩
theorem has7 : Go.Dv.Has pr xt F0 7 Go.Lib.M7 := ⟨by kernel_rfl, fun _ _ => rfl⟩
theorem has8 : Go.Dv.Has pr xt F0 8 Go.Lib.M8 := ⟨by kernel_rfl, fun _ _ => rfl⟩
theorem has9 : Go.Dv.Has pr xt F0 9 Go.Lib.M9 := ⟨by kernel_rfl, fun _ _ => rfl⟩
theorem has10 : Go.Dv.Has pr xt F0 10 Go.Lib.M10 := ⟨by kernel_rfl, fun _ _ => rfl⟩
theorem has11 : Go.Dv.Has pr xt F0 11 Go.Lib.M11 := ⟨by kernel_rfl, fun _ _ => rfl⟩
theorem has12 : Go.Dv.Has pr xt F0 12 Go.Lib.M12 := ⟨by kernel_rfl, fun _ _ => rfl⟩
theorem has13 : Go.Dv.Has pr xt F0 13 Go.Lib.M13 := ⟨by kernel_rfl, fun _ _ => rfl⟩
theorem has14 : Go.Dv.Has pr xt F0 14 Go.Lib.M14 := ⟨by kernel_rfl, fun _ _ => rfl⟩
theorem has15 : Go.Dv.Has pr xt F0 15 Go.Lib.M15 := ⟨by kernel_rfl, fun _ _ => rfl⟩
theorem has16 : Go.Dv.Has pr xt F0 16 Go.Lib.M16 := ⟨by kernel_rfl, fun _ _ => rfl⟩
theorem has17 : Go.Dv.Has pr xt F0 17 Go.Lib.M17 := ⟨by kernel_rfl, fun _ _ => rfl⟩
theorem has18 : Go.Dv.Has pr xt F0 18 Go.Lib.M18 := ⟨by kernel_rfl, fun _ _ => rfl⟩
theorem has19 : Go.Dv.Has pr xt F0 19 Go.Lib.M19 := ⟨by kernel_rfl, fun _ _ => rfl⟩
theorem has21 : Go.Dv.Has pr xt F0 21 Go.Lib.M21 := ⟨by kernel_rfl, fun _ _ => rfl⟩
theorem has22 : Go.Dv.Has pr xt F0 22 Go.Lib.M22 := ⟨by kernel_rfl, fun _ _ => rfl⟩
theorem has23 : Go.Dv.Has pr xt F0 23 Go.Lib.M23 := ⟨by kernel_rfl, fun _ _ => rfl⟩
theorem has24 : Go.Dv.Has pr xt F0 24 Go.Lib.M24 := ⟨by kernel_rfl, fun _ _ => rfl⟩
theorem has25 : Go.Dv.Has pr xt F0 25 Go.Lib.M25 := ⟨by kernel_rfl, fun _ _ => rfl⟩
theorem has26 : Go.Dv.Has pr xt F0 26 Go.Lib.M26 := ⟨by kernel_rfl, fun _ _ => rfl⟩
theorem has27 : Go.Dv.Has pr xt F0 27 Go.Lib.M27 := ⟨by kernel_rfl, fun _ _ => rfl⟩
theorem has28 : Go.Dv.Has pr xt F0 28 Go.Lib.M28 := ⟨by kernel_rfl, fun _ _ => rfl⟩
theorem has29 : Go.Dv.Has pr xt F0 29 Go.Lib.M29 := ⟨by kernel_rfl, fun _ _ => rfl⟩
theorem has30 : Go.Dv.Has pr xt F0 30 Go.Lib.M30 := ⟨by kernel_rfl, fun _ _ => rfl⟩
theorem has31 : Go.Dv.Has pr xt F0 31 Go.Lib.M31 := ⟨by kernel_rfl, fun _ _ => rfl⟩
theorem has32 : Go.Dv.Has pr xt F0 32 Go.Lib.M32 := ⟨by kernel_rfl, fun _ _ => rfl⟩
theorem has33 : Go.Dv.Has pr xt F0 33 Go.Lib.M33 := ⟨by kernel_rfl, fun _ _ => rfl⟩
theorem has34 : Go.Dv.Has pr xt F0 34 Go.Lib.M34 := ⟨by kernel_rfl, fun _ _ => rfl⟩
theorem has35 : Go.Dv.Has pr xt F0 35 Go.Lib.M35 := ⟨by kernel_rfl, fun _ _ => rfl⟩
theorem has36 : Go.Dv.Has pr xt F0 36 Go.Lib.M36 := ⟨by kernel_rfl, fun _ _ => rfl⟩
theorem has37 : Go.Dv.Has pr xt F0 37 Go.Lib.M37 := ⟨by kernel_rfl, fun _ _ => rfl⟩
theorem has38 : Go.Dv.Has pr xt F0 38 Go.Lib.M38 := ⟨by kernel_rfl, fun _ _ => rfl⟩
theorem has39 : Go.Dv.Has pr xt F0 39 Go.Lib.M39 := ⟨by kernel_rfl, fun _ _ => rfl⟩
theorem has40 : Go.Dv.Has pr xt F0 40 Go.Lib.M40 := ⟨by kernel_rfl, fun _ _ => rfl⟩
theorem has41 : Go.Dv.Has pr xt F0 41 Go.Lib.M41 := ⟨by kernel_rfl, fun _ _ => rfl⟩
theorem has42 : Go.Dv.Has pr xt F0 42 Go.Lib.M42 := ⟨by kernel_rfl, fun _ _ => rfl⟩
theorem has43 : Go.Dv.Has pr xt F0 43 Go.Lib.M43 := ⟨by kernel_rfl, fun _ _ => rfl⟩
theorem has44 : Go.Dv.Has pr xt F0 44 Go.Lib.M44 := ⟨by kernel_rfl, fun _ _ => rfl⟩
theorem has46 : Go.Dv.Has pr xt F0 46 Go.Lib.M46 := ⟨by kernel_rfl, fun _ _ => rfl⟩
theorem has47 : Go.Dv.Has pr xt F0 47 Go.Lib.M47 := ⟨by kernel_rfl, fun _ _ => rfl⟩
theorem has48 : Go.Dv.Has pr xt F0 48 Go.Lib.M48 := ⟨by kernel_rfl, fun _ _ => rfl⟩
theorem has49 : Go.Dv.Has pr xt F0 49 Go.Lib.M49 := ⟨by kernel_rfl, fun _ _ => rfl⟩
theorem has50 : Go.Dv.Has pr xt F0 50 Go.Lib.M50 := ⟨by kernel_rfl, fun _ _ => rfl⟩
theorem has65 : Go.Dv.Has pr xt F0 65 Go.Lib.M65 := ⟨by kernel_rfl, fun _ _ => rfl⟩
theorem has66 : Go.Dv.Has pr xt F0 66 Go.Lib.M66 := ⟨by kernel_rfl, fun _ _ => rfl⟩
theorem has67 : Go.Dv.Has pr xt F0 67 Go.Lib.M67 := ⟨by kernel_rfl, fun _ _ => rfl⟩
theorem has68 : Go.Dv.Has pr xt F0 68 Go.Lib.M68 := ⟨by kernel_rfl, fun _ _ => rfl⟩
theorem has69 : Go.Dv.Has pr xt F0 69 Go.Lib.M69 := ⟨by kernel_rfl, fun _ _ => rfl⟩
theorem has70 : Go.Dv.Has pr xt F0 70 Go.Lib.M70 := ⟨by kernel_rfl, fun _ _ => rfl⟩
theorem has71 : Go.Dv.Has pr xt F0 71 Go.Lib.M71 := ⟨by kernel_rfl, fun _ _ => rfl⟩
theorem has72 : Go.Dv.Has pr xt F0 72 Go.Lib.M72 := ⟨by kernel_rfl, fun _ _ => rfl⟩
theorem has73 : Go.Dv.Has pr xt F0 73 Go.Lib.M73 := ⟨by kernel_rfl, fun _ _ => rfl⟩
theorem has74 : Go.Dv.Has pr xt F0 74 Go.Lib.M74 := ⟨by kernel_rfl, fun _ _ => rfl⟩
theorem has75 : Go.Dv.Has pr xt F0 75 Go.Lib.M75 := ⟨by kernel_rfl, fun _ _ => rfl⟩
theorem has76 : Go.Dv.Has pr xt F0 76 Go.Lib.M76 := ⟨by kernel_rfl, fun _ _ => rfl⟩
theorem has77 : Go.Dv.Has pr xt F0 77 Go.Lib.M77 := ⟨by kernel_rfl, fun _ _ => rfl⟩
theorem has78 : Go.Dv.Has pr xt F0 78 Go.Lib.M78 := ⟨by kernel_rfl, fun _ _ => rfl⟩
theorem has79 : Go.Dv.Has pr xt F0 79 Go.Lib.M79 := ⟨by kernel_rfl, fun _ _ => rfl⟩
theorem has80 : Go.Dv.Has pr xt F0 80 Go.Lib.M80 := ⟨by kernel_rfl, fun _ _ => rfl⟩
theorem has81 : Go.Dv.Has pr xt F0 81 Go.Lib.M81 := ⟨by kernel_rfl, fun _ _ => rfl⟩
theorem has82 : Go.Dv.Has pr xt F0 82 Go.Lib.M82 := ⟨by kernel_rfl, fun _ _ => rfl⟩
theorem has84 : Go.Dv.Has pr xt F0 84 Go.Lib.M84 := ⟨by kernel_rfl, fun _ _ => rfl⟩
theorem has85 : Go.Dv.Has pr xt F0 85 Go.Lib.M85 := ⟨by kernel_rfl, fun _ _ => rfl⟩
theorem has86 : Go.Dv.Has pr xt F0 86 Go.Lib.M86 := ⟨by kernel_rfl, fun _ _ => rfl⟩
theorem has94 : Go.Dv.Has pr xt F0 94 Go.Lib.M94 := ⟨by kernel_rfl, fun _ _ => rfl⟩
theorem has97 : Go.Dv.Has pr xt F0 97 Go.Lib.M97 := ⟨by kernel_rfl, fun _ _ => rfl⟩
theorem has99 : Go.Dv.Has pr xt F0 99 Go.Lib.M99 := ⟨by kernel_rfl, fun _ _ => rfl⟩
theorem has103 : Go.Dv.Has pr xt F0 103 Go.Lib.M103 := ⟨by kernel_rfl, fun _ _ => rfl⟩
theorem has106 : Go.Dv.Has pr xt F0 106 Go.Lib.M106 := ⟨by kernel_rfl, fun _ _ => rfl⟩
end Go.Proofs.Ytnbmmnjihipahaa.sa
end

section
set_option maxRecDepth 100000
namespace Go.Proofs.Ytnbmmnjihipahaa.sa
open Go.Vm
theorem awakeR : runs (mach []) (extBy exts) 1000000 34 [] Try.prog.globals.size = true := by decide +kernel
end Go.Proofs.Ytnbmmnjihipahaa.sa
end

section
set_option maxRecDepth 100000
namespace Go.Proofs.Ytnbmmnjihipahaa.sa
open Go.Vm Go.Dv Go.Lib
theorem hawake : FnD pr xt (F0 107) [] (.lit (.bool true)) := by
  intro H ψ S h vs s k
  simp only [VDl] at k
  subst k
  refine wpc_ext (v := .bool true) (h' := h) rfl ⟨ψ, S, _, H, .refl, s, ?_, rfl, rfl⟩
  simp [VD, atomV]
theorem x20 : ∀ args h, xt (F0 20) args h = extV .cmp args h := fun _ _ => rfl
theorem x45 : ∀ args h, xt (F0 45) args h = extV .add64 args h := fun _ _ => rfl
theorem hschm : HSchm pr xt F0 := ⟨has1, has2, has3, has4, has5, has6, has7, has8, has9, has10, has11, has12, has13, has14, has15, has16, has17, has18, has19, has21, x20⟩
theorem hlaw6 : HLaw6 pr xt F0 := ⟨has22, has23, has24, has25⟩
theorem hsrt : HSrt pr xt F0 := ⟨has26, has27, has28, has29, has30, has31⟩
theorem haggr : HAggr pr xt F0 := ⟨hsrt, hschm, has32, has33, has34, has35, has36, has37, has38, has39, has40, has41, has42, has43, has44⟩
theorem href6 : HRef6 pr xt F0 := ⟨has46, has47, has48, has49, has50⟩
theorem hpred : HPred pr xt F0 := ⟨hschm, has65, has66, has67, has68, has69⟩
theorem hmodl : HModl pr xt F0 := ⟨haggr, hpred, x45, has70, has71, has72, has73, has74, has75, has76, has77, has78, has79, has80, has81, has82⟩
theorem hpredl : HPredL pr xt F0 := ⟨hlaw6, has99⟩
theorem hlaw15 : HLaw15 pr xt F0 := ⟨hpredl, has97⟩
theorem hlaw : HApart pr xt F0 := ⟨hmodl, hlaw15, href6, hawake, has94, has103, has106⟩
theorem mixed : Try.prog.follows .mixedOrders = true := by kernel_rfl
theorem xt_ok {env : Env} : CallOk Try.prog env xt := orX_ok (constX_ok mixed (valid []) (extBy_rises _) (extBy_ok extsOk) rfl intsOk (n := 1000000) fun f hf => by
  rcases List.mem_cons.1 hf with rfl | hf
  · exact ⟨by kernel_rfl, awakeR⟩
  · cases hf) (extBy_ok extsOk)
theorem xt_rises : Rises xt := orX_rises (constX_rises _) (extBy_rises _)
end Go.Proofs.Ytnbmmnjihipahaa.sa
end
