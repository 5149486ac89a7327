/-
  Texts that the claim's last one rests on, joined.
-/
import Derived.Test.YtcpfgjkhjadgoaaBModlOwnj
import Derived.Test.YtcpfgjkhjadgoaaBModlOwnf
import Derived.Test.YtcpfgjkhjadgoaaBModlOwni
import Derived.Test.YtcpfgjkhjadgoaaBModlOwnh
import Derived.Test.YtcpfgjkhjadgoaaRows
import Derived.Test.YtcpfgjkhjadgoaaBModlOwng
import Derived.Test.YtcpfgjkhjadgoaaBModlOwnc

section
set_option maxRecDepth 10000
namespace Go.Lib
open Go.Vm Go.Dv Go.Srt
variable {p : Prog} {ext : Ext} {F : Nat → Nat}
attribute [-simp] bin_and bin_xor
structure HLaw15 (p : Prog) (ext : Ext) (F : Nat → Nat) : Prop where
  pr : HPredL p ext F
  law6 : HLaw6r p ext F
  h97 : Has p ext F 97 M97
@[simp] def nilOp : List D := [.lit (.int .i64 0), .lit .nilslice, .lit (.int .i64 0), .lit (.int .i64 0), .lit (.int .i64 0), .lit (.bool false), .lit (.int .i64 0), .lit (.int .i64 0), .lit .nilslice, .lit .nilslice, .lit .nilslice, .lit .nilslice, .lit (.int .i64 0), .lit .nilslice]
def O15a (s : Sch) (m : Md) (l : List Int) (a : Nat) (H : HpD) (n : Int) (fr : FrD) (H' : HpD) : Prop :=
  fr = [(1, intsD m l), (2, .lit (.int .i64 (a : Int))), (3, .rptr [schR s] 0), (6, .ptr H.next 0), (7, .lit (.int .i64 n))] ∧ H' = H.new (.cells nilOp false)
def O15b (s : Sch) (H : HpD) (n : Int) (q : Pr) (fr : FrD) (H' : HpD) : Prop :=
  fr = [(3, .rptr [schR s] 0), (6, .ptr H.next 0), (7, .lit (.int .i64 n)), (8, .ptr (H.next + 1) 0)] ∧ H'.next = H.next + 2 ∧ Sub H H' ∧ H'.blk H.next = .cells nilOp false ∧ H'.blk (H.next + 1) = .cells q.c false
theorem Weak.cell {a : List D} {fr : FrD} {H : HpD} {b : Nat} {cs cs' : List D} {ro : Bool} (hb : H.blk b = .cells cs ro) (hl : D.les cs cs') : Weak a fr H a fr (H.put b (.cells cs' ro)) := by
  intro G ψ S h fv vs sr kf kv
  exact ⟨ψ, S, .refl, sr.tellV hb fun l' k => VDl.le _ _ hl k, kf, kv⟩
theorem opF_of (L : HLaw15 p ext F) {s : Sch} {m : Md} {l : List Int} {a : Nat} (hs0 : 0 < s.length) (hs : s.length < 1000) (ha : a < 1000000) : FnD p ext (F 97) [schD s, intsD m l, .lit (.int .i64 (a : Int))] (.agg (opF s l a).c) := by
  refine fn_of L.h97 (M := M97) rfl ok97 rfl fun H => sem_run 12 _ ?_
  simp
  refine sem_cut (O15a s m l a H (numO l a)) (sem_run 9000 _ ?_) ?_
  · by_cases c : 0 < l.length
    · obtain ⟨x, hx⟩ : ∃ x, l[a % l.length]? = some x := ⟨_, List.getElem?_eq_getElem (Nat.mod_lt _ c)⟩
      have hn : numO l a = wr .i64 (x + wr .i64 ((a : Int) * 7919)) := by simp only [numO, hx]
      obtain ⟨r, hr⟩ : ∃ r, a % l.length = r := ⟨_, rfl⟩
      have ht : Int.tmod (a : Int) (l.length : Int) = (r : Int) := by rw [Int.tmod_eq_emod_of_nonneg (by omega)]; omega
      have hz : (l.length : Int) ≠ 0 := by omega
      have hsz : ¬ l.length = 0 := by omega
      rw [hr] at hx
      rw [hn]
      simp [c, hsz, ht, hx, -getElem?_pos]
      exact sem_ok ⟨rfl, rfl⟩
    · have hl0 : l = [] := by
        cases l with
        | nil => rfl
        | cons x l => simp at c
      subst hl0
      have hn : numO [] a = 0 := by simp [numO]
      rw [hn]
      simp
      refine sem_as_ok [(1, intsD m []), (2, .lit (.int .i64 (a : Int))), (3, .rptr [schR s] 0), (6, .ptr H.next 0), (7, .lit (.int .i64 0))] (by simp [D.le_refl, intsD]) ?_
      exact sem_ok ⟨rfl, rfl⟩
  rintro fr H1 ⟨rfl, rfl⟩
  obtain ⟨n, hn⟩ : ∃ n, numO l a = n := ⟨_, rfl⟩
  rw [hn]
  have h7 : Int.tmod (a : Int) 7 = ((a % 7 : Nat) : Int) := by rw [Int.tmod_eq_emod_of_nonneg (by omega)]; omega
  refine sem_run 9000 _ ?_
  simp [h7]
  refine sem_fn (pred7 L.pr hs0 hs (d := 3) (a := a % 7) (by omega) (by omega)) (by first | exact D.les_refl _ | simp) (sem_run 5 _ ?_)
  simp
  refine sem_cut (O15b s H n (predO s l a)) (sem_run 9000 _ ?_) ?_
  · by_cases c : andI (shrI .i64 n 3) 3 = 0
    · have hp : predO s l a = prK (andI (shrI .i64 n 5) 15) := by unfold predO; rw [hn, if_pos c]
      rw [hp]
      simp [c]
      refine sem_weak_ok (Weak.cell (b := H.next + 1) (cs := [.lit (.int .i64 2), .lit (.int .i64 0), .lit (.int .i64 1), .lit (.bool false), .lit (.int .i64 1), .lit (.int .i64 (andI (shrI .i64 n 5) 15)), .lit .nilslice, .lit .nilslice]) (ro := false) (cs' := (prK (andI (shrI .i64 n 5) 15)).c) (by simp) (by simp [pr_c, prK, nV, Pr.kind, Pr.col, Pr.op, Pr.v, Pr.l, D.les, D.le, byD, byE, prsD])) ?_
      exact sem_ok ⟨rfl, by simp, sR, by simp, by simp⟩
    · have hp : predO s l a = predF s l 3 (a % 7) := by unfold predO; rw [hn, if_neg c]
      rw [hp]
      simp [c]
      refine sem_as_ok [(3, .rptr [schR s] 0), (6, .ptr H.next 0), (7, .lit (.int .i64 n)), (8, .ptr (H.next + 1) 0)] (by simp [D.le_refl]) ?_
      exact sem_ok ⟨rfl, by simp, sR, by simp, by simp⟩
  rintro fr H1 ⟨rfl, hnx, hsub, hb6, hb8⟩
  obtain ⟨q, hq⟩ : ∃ q, predO s l a = q := ⟨_, rfl⟩
  rw [hq, pr_c] at hb8
  obtain ⟨k, hk, hk7⟩ := andI_small (a := n) (m := 7) (by simp)
  have hk' : andI n 7 = k := hk
  obtain ⟨c, hcn, hcl⟩ : ∃ c : Nat, colO s n = c ∧ c < s.length := by
    obtain ⟨q, hq, hq1⟩ := andI_small (a := shrI .i64 n 9) (m := 255) (by simp)
    have hq' : andI (shrI .i64 n 9) 255 = q := hq
    refine ⟨q % s.length, ?_, Nat.mod_lt _ hs0⟩
    unfold colO
    rw [hq', Int.tmod_eq_emod_of_nonneg (by omega)]; omega
  have hc : Int.tmod (andI (shrI .i64 n 9) 255) (s.length : Int) = c := hcn
  have hop : opF s l a = opG s n k c q := by unfold opF; rw [hn, hk', hcn, hq]
  rw [hop]
  have hz : (s.length : Int) ≠ 0 := by omega
  have hsz : ¬ s.length = 0 := by omega
  have l6 : H.next < H1.next := by omega
  have l8 : H.next + 1 < H1.next := by omega
  have h61 : ¬ H.next = H1.next := by omega
  have h81 : ¬ H.next + 1 = H1.next := by omega
  refine sem_run 9000 _ ?_
  simp [hsz, hc, hk']
  obtain ⟨cl, hcl'⟩ : ∃ cl, s[c]? = some cl := ⟨s[c], by simp⟩
  have hkk : (k = 0 ∨ k = 1 ∨ k = 2) ∨ (k = 3 ∨ k = 4) ∨ k = 5 ∨ k = 6 ∨ k = 7 := by omega
  rcases hkk with h | h | rfl | rfl | rfl
  · have hG : opG s n (k : Int) c q = insO (rowF s (shrI .i64 n 5)) := by rcases h with rfl | rfl | rfl <;> rfl
    rw [hG]
    rcases h with rfl | rfl | rfl
    all_goals
      simp
      refine sf (law6_row L.law6 (s := s) (n := shrI .i64 n 5) hs) ?_
      simp [hb6]
      refine sem_ret ?_
      simp [M97]
      exact .le (sB hsub) (by simp [op_c, insO, pr0, zv, Pr.kind, Pr.col, Pr.op, Pr.v, Pr.l, D.le, byD, byE, prsD, rowD, rowE, sxsD, sxsE, intsD, agsD, agsE]) (by simp [D.under, op_unders])
  · by_cases c0 : 0 < c
    · have hG : opG s n (k : Int) c q = setO q (sxO c cl n) := by rcases h with rfl | rfl <;> simp [opG, c0, hcl']
      rw [hG]
      rcases h with rfl | rfl
      all_goals
        by_cases k1 : cl.kind = 1
        · cases hvn : (valF cl (shrI .i64 n 17)).null with
          | true =>
            have hadd : addO cl n = false := by simp [addO, hvn]
            simp [c0, hcl', -getElem?_pos]
            refine sf (law6_value L.law6) ?_
            simp
            simp [hcl', k1, hvn, hb6, hb8, h61, h81, -getElem?_pos]
            refine sem_ret ?_
            simp [M97]
            exact .le (sB hsub) (by simp [op_c, setO, sxO, hadd, Sx.c, Vl.c, D.le, D.les, D.less, D.le_refl, rowD, rowE, sxsD, sxsE, intsD, agsD, agsE]) (by simp [D.under, op_unders])
          | false =>
            by_cases kb : andI (shrI .i64 n 13) 1 = 1
            · have hadd : addO cl n = true := by simp [addO, hvn, k1, kb]
              simp [c0, hcl', -getElem?_pos]
              refine sf (law6_value L.law6) ?_
              simp
              simp [hcl', k1, hvn, kb, hb6, hb8, h61, h81, -getElem?_pos]
              refine sem_ret ?_
              simp [M97]
              exact .le (sB hsub) (by simp [op_c, setO, sxO, hadd, Sx.c, Vl.c, D.le, D.les, D.less, D.le_refl, rowD, rowE, sxsD, sxsE, intsD, agsD, agsE]) (by simp [D.under, op_unders])
            · have hadd : addO cl n = false := by simp [addO, kb]
              simp [c0, hcl', -getElem?_pos]
              refine sf (law6_value L.law6) ?_
              simp
              simp [hcl', k1, hvn, kb, hb6, hb8, h61, h81, -getElem?_pos]
              refine sem_ret ?_
              simp [M97]
              exact .le (sB hsub) (by simp [op_c, setO, sxO, hadd, Sx.c, Vl.c, D.le, D.les, D.less, D.le_refl, rowD, rowE, sxsD, sxsE, intsD, agsD, agsE]) (by simp [D.under, op_unders])
        · have hadd : addO cl n = false := by simp [addO, k1]
          simp [c0, hcl', -getElem?_pos]
          refine sf (law6_value L.law6) ?_
          simp
          simp [hcl', k1, hb6, hb8, h61, h81, -getElem?_pos]
          refine sem_ret ?_
          simp [M97]
          exact .le (sB hsub) (by simp [op_c, setO, sxO, hadd, Sx.c, Vl.c, D.le, D.les, D.less, D.le_refl, rowD, rowE, sxsD, sxsE, intsD, agsD, agsE]) (by simp [D.under, op_unders])
    · have hG : opG s n (k : Int) c q = delO q := by rcases h with rfl | rfl <;> simp [opG, c0]
      rw [hG]
      rcases h with rfl | rfl
      all_goals
        simp [c0, hb6, hb8]
        refine sem_ret ?_
        simp [M97]
        exact .le (sB hsub) (by simp [op_c, delO, D.le, D.le_refl, rowD, rowE, sxsD, sxsE, intsD, agsD, agsE]) (by simp [D.under, op_unders])
  · rw [show opG s n ((5 : Nat) : Int) c q = scanO q [(c : Int), 0] by simp [opG]]
    simp [hb6, hb8]
    refine sem_ret ?_
    simp [M97]
    exact .le (sB hsub) (by simp [op_c, scanO, D.le, D.le_refl, rowD, rowE, sxsD, sxsE, intsD, agsD, agsE]) (by simp [D.under, op_unders])
  · rw [show opG s n ((6 : Nat) : Int) c q = aggO q (wr .i64 (c - wr .i64 (andI (shrI .i64 n 14) 1 * wr .i64 (c + 1)))) [⟨1, 0⟩, ⟨wr .i64 (3 + andI (shrI .i64 n 15) 1), c⟩, ⟨2, 0⟩] by simp [opG]]
    simp [hb6, hb8, h61]
    refine sem_ret ?_
    simp [M97]
    exact .le (sB hsub) (by simp [op_c, aggO, Ag.c, D.le, D.les, D.less, D.le_refl, rowD, rowE, sxsD, sxsE, intsD, agsD, agsE]) (by simp [D.under, op_unders])
  · by_cases e : andI (shrI .i64 n 18) 7 = 0
    · rw [show opG s n ((7 : Nat) : Int) c q = rollO by simp [opG, e]]
      simp [e, hb6]
      refine sem_ret ?_
      simp [M97]
      exact .le (sB hsub) (by simp [op_c, rollO, pr0, zv, Pr.kind, Pr.col, Pr.op, Pr.v, Pr.l, D.le, byD, byE, prsD, rowD, rowE, sxsD, sxsE, intsD, agsD, agsE]) (by simp [D.under, op_unders])
    · rw [show opG s n ((7 : Nat) : Int) c q = delO q by simp [opG, e]]
      simp [e, hb6, hb8]
      refine sem_ret ?_
      simp [M97]
      exact .le (sB hsub) (by simp [op_c, delO, D.le, D.le_refl, rowD, rowE, sxsD, sxsE, intsD, agsD, agsE]) (by simp [D.under, op_unders])
end Go.Lib
end

section
namespace Go.Lib
open Go.Vm Go.Dv
set_option maxRecDepth 100000
end Go.Lib
end

section
set_option maxRecDepth 10000
namespace Go.Lib
open Go.Vm Go.Dv Go.Srt
variable {p : Prog} {ext : Ext} {F : Nat → Nat}
end Go.Lib
end

section
set_option maxRecDepth 10000
namespace Go.Lib
open Go.Vm Go.Dv Go.Srt
variable {p : Prog} {ext : Ext} {F : Nat → Nat}
def AgK (ks : List Int) (a : Ag) : Prop := InK ks a.col ∧ (a.kind = 1 ∨ a.kind = 2 ∨ a.kind = 3 ∨ a.kind = 4)
end Go.Lib
end

section
set_option maxRecDepth 10000
namespace Go.Lib
open Go.Vm Go.Dv Go.Srt
variable {p : Prog} {ext : Ext} {F : Nat → Nat}
end Go.Lib
end

section
set_option maxRecDepth 10000
namespace Go.Lib
open Go.Vm Go.Dv Go.Srt
variable {p : Prog} {ext : Ext} {F : Nat → Nat}
structure HRef6e (p : Prog) (ext : Ext) (F : Nat → Nat) : Prop where
  ref6 : HRef6 p ext F
  h87 : Has p ext F 87 M87
  h88 : Has p ext F 88 M88
  h89 : Has p ext F 89 M89
  h90 : Has p ext F 90 M90
  h91 : Has p ext F 91 M91
def PrW (ks : List Int) : Nat → Pr → Prop
  | 0, _ => False
  | n + 1, q => q.l.length < 1000 ∧ (∀ x, x ∈ q.l → PrW ks n x) ∧ (q.kind = 1 ∨ (q.kind = 2 ∧ InK ks q.col ∧ 1 ≤ q.op ∧ q.op ≤ 6) ∨ (q.kind = 3 ∧ InK ks q.col) ∨ q.kind = 4 ∨ q.kind = 5 ∨ (q.kind = 6 ∧ q.l ≠ []))
theorem PrW.short {ks : List Int} : ∀ {n : Nat} {q : Pr}, PrW ks n q → PrS n q
  | 0, _, h => h
  | _ + 1, _, h => ⟨h.1, fun x hx => (h.2.1 x hx).short⟩
end Go.Lib
end

section
set_option maxRecDepth 10000
namespace Go.Lib
open Go.Vm Go.Dv Go.Srt
variable {p : Prog} {ext : Ext} {F : Nat → Nat}
attribute [-simp] bin_and bin_xor
structure HProg (p : Prog) (ext : Ext) (F : Nat → Nat) : Prop where
  op : HLaw15 p ext F
  h98 : Has p ext F 98 M98
end Go.Lib
end

section
set_option maxRecDepth 10000
namespace Go.Lib
open Go.Vm Go.Dv Go.Srt
variable {p : Prog} {ext : Ext} {F : Nat → Nat}
structure HFits (p : Prog) (ext : Ext) (F : Nat → Nat) : Prop where
  h88 : Has p ext F 88 M88
  h91 : Has p ext F 91 M91
structure FitV (c : Cl) (v : Vl) : Prop where
  good : v.Good
  kind : v.kind = c.kind
  short : v.bytes.length ≤ 64
  null : v.null = true → c.null = true
def FitR (s : Sch) (r : Row) : Prop := r.length = s.length ∧ ∀ (i : Nat) (c : Cl) (v : Vl), s[i]? = some c → r[i]? = some v → FitV c v
end Go.Lib
end

section
set_option maxRecDepth 10000
namespace Go.Lib
open Go.Vm Go.Dv Go.Srt
structure KeyOp (o : Op) (k : Int) : Prop where
  kind : o.kind = 2 ∨ o.kind = 3
  pred : o.pred = prK k
  sets : ∀ x, x ∈ o.sets → 1 ≤ x.col
def actF (o : Op) (r : Row) : Option (List Row) := if pickF o r = true then (if o.kind = 2 then (setF r o.sets).map (fun x => [x]) else some []) else some [r]
theorem setS_at {r r' : Row} {x : Sx} (hc : 1 ≤ x.col) (e : setS r x = some r') : atV r' 0 = atV r 0 := by
  unfold setS at e
  split at e
  · cases e; rfl
  · split at e
    · cases e; exact atV_set (by omega)
    · split at e
      · cases e; rfl
      · split at e
        · cases e; exact atV_set (by omega)
        · cases e
theorem setF_at : ∀ {l : List Sx} {r r' : Row}, (∀ x, x ∈ l → 1 ≤ x.col) → setF r l = some r' → atV r' 0 = atV r 0
  | [], r, r', _, e => by simp [setF] at e; subst e; rfl
  | x :: l, r, r', hx, e => by
    unfold setF at e
    split at e
    · rename_i r1 e1
      rw [setF_at (fun y hy => hx y (by simp [hy])) e, setS_at (hx x (by simp)) e1]
    · cases e
theorem KeyOp.pick {o : Op} {k : Int} (h : KeyOp o k) {r x : Row} (e : atV x 0 = atV r 0) : pickF o x = pickF o r := by
  unfold pickF; rw [h.pred, evalK, evalK, e]
theorem KeyOp.at_ {o : Op} {k : Int} (h : KeyOp o k) {r : Row} {l : List Row} (e : actF o r = some l) : ∀ x, x ∈ l → atV x 0 = atV r 0 := fun x hx => by
  unfold actF at e
  split at e
  · split at e
    · obtain ⟨r', e1, rfl⟩ := Option.map_eq_some_iff.1 e
      simp at hx; subst hx
      exact setF_at h.sets e1
    · cases e; simp at hx
  · cases e; simp at hx; subst hx; rfl
theorem KeyOp.key {o : Op} {k : Int} (h : KeyOp o k) {r : Row} (h1 : (atV r 0).kind = 1) (hp : pickF o r = true) : keyF r = k := by
  by_cases e : keyF r = k
  · exact e
  · have := pickK_no h1 e
    unfold pickF at hp
    rw [h.pred] at hp
    exact absurd (by simpa using hp) this
theorem rows9_key {n : Int} {l : List Int} {i : Nat} {r : Row} (h : (rows9F (schF n) l)[i]? = some r) : ∃ q : Nat, q ≤ 1 ∧ r[0]? = some (nV (3 * (i : Int) + q)) ∧ keyF r = 3 * (i : Int) + q := by
  rw [rows9F_get] at h
  obtain ⟨x, _, e2⟩ := Option.map_eq_some_iff.1 h
  obtain ⟨q, hq, h1⟩ := andI_small (a := x) (m := 1) (by simp)
  have hq' : andI x 1 = q := hq
  rw [schF_cons, row9_eq] at e2
  subst e2
  refine ⟨q, h1, ?_, ?_⟩
  · show some (keyV i x) = _
    unfold keyV nV; rw [hq']
  · show 3 * (i : Int) + andI x 1 = _
    rw [hq']
theorem rows9_rise {n : Int} {l : List Int} : KeyRise (rows9F (schF n) l) := by
  unfold KeyRise
  rw [List.pairwise_iff_getElem]
  intro i j hi hj hij
  obtain ⟨q1, h1, _, e1⟩ := rows9_key (n := n) (l := l) (i := i) (r := (rows9F (schF n) l)[i]) (by simp)
  obtain ⟨q2, h2, _, e2⟩ := rows9_key (n := n) (l := l) (i := j) (r := (rows9F (schF n) l)[j]) (by simp)
  rw [e1, e2]; omega
theorem opG_sets {n : Int} {x k : Int} {c : Nat} {q : Pr} (hc : c < (schF n).length) : ∀ y, y ∈ (opG (schF n) x k c q).sets → SxOk (ksF (schF n)) y := fun y hy => by
  unfold opG at hy
  split at hy
  · simp [insO] at hy
  · split at hy
    · split at hy
      · rename_i c0
        have c0 : 0 < c := by omega
        have hcl : (schF n)[c]? = some (schF n)[c] := by simp
        rw [show ((c : Int).toNat) = c from rfl, hcl] at hy
        simp [setO] at hy; subst hy
        have hkc : ((ksF (schF n))[c]?).getD 0 = (schF n)[c].kind := by unfold ksF; rw [List.getElem?_map, hcl]; rfl
        refine ⟨⟨by show (1 : Int) ≤ c; omega, by show (c : Int) < _; rw [ksF_len]; omega⟩, valF_good (schF_kinds (n := n) _ (by simp)), ?_, fun h => ?_⟩
        · show (valF _ _).kind = ((ksF (schF n))[((c : Int)).toNat]?).getD 0
          rw [show ((c : Int).toNat) = c from rfl, hkc, valF_kind]
        · show ((ksF (schF n))[((c : Int)).toNat]?).getD 0 = 1
          rw [show ((c : Int).toNat) = c from rfl, hkc]
          have h : addO (schF n)[c] x = true := h
          simp [addO] at h
          exact h.1.1
      · simp [delO] at hy
    · split at hy
      · simp [scanO] at hy
      · split at hy
        · simp [aggO] at hy
        · split at hy
          · simp [rollO] at hy
          · simp [delO] at hy
theorem opG_few {s : Sch} {n k c : Int} {q : Pr} : (opG s n k c q).sets.length ≤ 1 := by
  unfold opG
  repeat' split
  all_goals simp [insO, setO, delO, scanO, aggO, rollO]
theorem colO_at {s : Sch} {n : Int} (h : 0 < s.length) : ∃ c : Nat, colO s n = c ∧ c < s.length := by
  obtain ⟨q, hq, hq1⟩ := andI_small (a := shrI .i64 n 9) (m := 255) (by simp)
  have hq' : andI (shrI .i64 n 9) 255 = q := hq
  refine ⟨q % s.length, ?_, Nat.mod_lt _ h⟩
  unfold colO
  rw [hq', Int.tmod_eq_emod_of_nonneg (by omega)]; omega
end Go.Lib
end

section
set_option maxRecDepth 10000
namespace Go.Lib
open Go.Vm Go.Dv Go.Srt
theorem cP_in {n x : Int} : InK (ksF (schF n)) (cP (schF n) x) := by
  obtain ⟨q, hq, _⟩ := andI_small (a := shrI .i64 x 3) (m := 255) (by simp)
  have hq' : andI (shrI .i64 x 3) 255 = q := hq
  have hl := (schF_small (n := n)).2
  unfold InK cP
  rw [hq', Int.tmod_eq_emod_of_nonneg (by omega), ksF_len]
  have := Int.emod_lt_of_pos (q : Int) (show (0 : Int) < ((schF n).length : Int) by omega)
  have := Int.emod_nonneg (q : Int) (show ((schF n).length : Int) ≠ 0 by omega)
  omega
theorem leafP_ok {n x : Int} {m : Nat} : PrW (ksF (schF n)) (m + 1) (leafP (schF n) x) := by
  obtain ⟨q, hq, _⟩ := andI_small (a := shrI .i64 x 17) (m := 255) (by simp)
  have hq' : andI (shrI .i64 x 17) 255 = q := hq
  refine ⟨by simp [leafP, Pr.l], fun y hy => by simp [leafP, Pr.l] at hy, .inr (.inl ⟨rfl, cP_in, ?_, ?_⟩)⟩
  · show 1 ≤ Int.tmod (andI (shrI .i64 x 17) 255) 6 + 1
    rw [hq', Int.tmod_eq_emod_of_nonneg (by omega)]; omega
  · show Int.tmod (andI (shrI .i64 x 17) 255) 6 + 1 ≤ 6
    rw [hq', Int.tmod_eq_emod_of_nonneg (by omega)]; omega
theorem predF_ok {n : Int} {l : List Int} : ∀ {d a : Nat}, PrW (ksF (schF n)) (d + 1) (predF (schF n) l d a)
  | d, a => by
    obtain ⟨k, hk, hk7, hk4⟩ := kP_at (d := d) (n := numP l a)
    have key : ∀ son : Nat → Pr, (∀ i, 2 ≤ d → PrW (ksF (schF n)) d (son i)) → PrW (ksF (schF n)) (d + 1) (predG (schF n) (numP l a) k son) := fun son hson => by
      unfold predG
      split
      · exact ⟨by simp [prT, Pr.l], fun y hy => by simp [prT, Pr.l] at hy, .inl rfl⟩
      · split
        · exact ⟨by simp [Pr.l], fun y hy => by simp [Pr.l] at hy, .inr (.inr (.inl ⟨rfl, cP_in⟩))⟩
        · split
          · rename_i h5
            obtain ⟨q, hq, hq3⟩ := andI_small (a := shrI .i64 (numP l a) 11) (m := 3) (by simp)
            have hq' : andI (shrI .i64 (numP l a) 11) 3 = q := hq
            refine ⟨by simp [Pr.l, sonsP, hq']; omega, fun y hy => ?_, ?_⟩
            · simp only [Pr.l, sonsP, List.mem_map] at hy
              obtain ⟨i, _, rfl⟩ := hy
              exact hson i (by omega)
            · rcases h5 with h5 | h5
              · exact .inr (.inr (.inr (.inl (by show (k : Int) - 1 = 4; omega))))
              · exact .inr (.inr (.inr (.inr (.inl (by show (k : Int) - 1 = 5; omega)))))
          · split
            · refine ⟨by simp [Pr.l], fun y hy => ?_, .inr (.inr (.inr (.inr (.inr ⟨rfl, by simp [Pr.l]⟩))))⟩
              simp [Pr.l] at hy; subst hy
              exact hson 0 (by omega)
            · exact leafP_ok
    cases d with
    | zero =>
      show PrW _ _ (predG (schF n) (numP l a) (kP 0 (numP l a)) fun _ => prT)
      rw [hk]
      exact key _ fun i h => by omega
    | succ d =>
      show PrW _ _ (predG (schF n) (numP l a) (kP (d + 1) (numP l a)) fun i => predF (schF n) l d (3 * a + i + 1))
      rw [hk]
      exact key _ fun i h => predF_ok
theorem predO_ok {n : Int} {l : List Int} {a : Nat} : PrW (ksF (schF n)) 4 (predO (schF n) l a) := by
  unfold predO
  split
  · exact ⟨by simp [prK, Pr.l], fun y hy => by simp [prK, Pr.l] at hy, .inr (.inl ⟨rfl, inK_0, by show (1 : Int) ≤ 1; omega, by show (1 : Int) ≤ 6; omega⟩)⟩
  · exact predF_ok
structure OpW (n : Int) (o : Op) : Prop where
  ok : OpOk (ksF (schF n)) 4 o
  kind : 1 ≤ o.kind ∧ o.kind ≤ 6
  pred : 2 ≤ o.kind → o.kind ≤ 5 → PrW (ksF (schF n)) 4 o.pred
  aggs : ∀ a, a ∈ o.aggs → AgK (ksF (schF n)) a
theorem opG_ok {n x : Int} {k c : Nat} {q : Pr} (_hk : k ≤ 7) (hc : c < (schF n).length) (hq : PrW (ksF (schF n)) 4 q) : OpW n (opG (schF n) x k c q) := by
  have hs := fun y => opG_sets (n := n) (x := x) (k := k) (q := q) hc y
  have hf := opG_few (s := schF n) (n := x) (k := k) (c := c) (q := q)
  have hsm := schF_small (n := n)
  have hr : (opG (schF n) x k c q).row.length < 1000 := by
    have : (opG (schF n) x k c q).row.length ≤ (schF n).length := by
      unfold opG
      repeat' split
      all_goals simp [insO, setO, delO, scanO, aggO, rollO, rowF_len]
    omega
  have p0 : PrS 4 pr0 := ⟨by simp [pr0, Pr.l], fun y hy => by simp [pr0, Pr.l] at hy⟩
  have hin : InK (ksF (schF n)) (c : Int) := ⟨by omega, by rw [ksF_len]; omega⟩
  have hp : PrS 4 (opG (schF n) x k c q).pred := by
    unfold opG
    repeat' split
    all_goals first | exact p0 | exact hq.short
  have hOS : OpS 4 (opG (schF n) x k c q) := ⟨hp, by omega, fun y hy => (hs y hy).good.int⟩
  have h0 : InK (ksF (schF n)) 0 := inK_0
  refine ⟨⟨hOS, hr, fun h => ?_, fun _ => hs, fun h => ?_, fun h => ?_⟩, ?_, fun _ _ => ?_, ?_⟩
  · revert h; unfold opG
    repeat' split
    all_goals first | (intro; exact row6_good) | (intro h; simp [setO, delO, scanO, aggO, rollO] at h)
  · revert h; unfold opG
    repeat' split
    all_goals first | (intro h; simp [insO, setO, delO, aggO, rollO] at h; done) | skip
    intro _
    refine ⟨by simp [scanO], fun y hy => ?_⟩
    simp [scanO] at hy
    rcases hy with rfl | rfl
    · exact hin
    · exact h0
  · revert h; unfold opG
    repeat' split
    all_goals first | (intro h; simp [insO, setO, delO, scanO, rollO] at h; done) | skip
    intro _
    obtain ⟨b, hb, hb1⟩ := andI_small (a := shrI .i64 x 14) (m := 1) (by simp)
    have hb' : andI (shrI .i64 x 14) 1 = b := hb
    refine ⟨?_, by simp [aggO], fun y hy => ?_⟩
    · show wr .i64 ((c : Int) - wr .i64 (andI (shrI .i64 x 14) 1 * wr .i64 ((c : Int) + 1))) < ((ksF (schF n)).length : Int)
      rw [hb', ksF_len]
      have w1 : wr .i64 ((c : Int) + 1) = (c : Int) + 1 := by rw [wr_of] <;> omega
      rw [w1]
      rcases (show b = 0 ∨ b = 1 by omega) with rfl | rfl
      · rw [show ((0 : Nat) : Int) * ((c : Int) + 1) = 0 by simp, show wr .i64 0 = 0 from rfl, wr_of (by omega) (by omega)]; omega
      · rw [show ((1 : Nat) : Int) * ((c : Int) + 1) = (c : Int) + 1 by simp, w1, wr_of (by omega) (by omega)]; omega
    · simp [aggO] at hy
      rcases hy with rfl | rfl | rfl
      · exact h0
      · exact hin
      · exact h0
  · unfold opG
    repeat' split
    all_goals simp [insO, setO, delO, scanO, aggO, rollO]
  · rename_i h2 h5
    revert h2 h5; unfold opG
    repeat' split
    all_goals first | (intro h2 h5; simp [insO, rollO] at h2 h5; done) | (intro _ _; exact hq)
  · unfold opG
    repeat' split
    all_goals first | (intro y hy; simp [insO, setO, delO, scanO, rollO] at hy; done) | skip
    intro y hy
    obtain ⟨b, hb, hb1⟩ := andI_small (a := shrI .i64 x 15) (m := 1) (by simp)
    have hb' : andI (shrI .i64 x 15) 1 = b := hb
    simp [aggO] at hy
    rcases hy with rfl | rfl | rfl
    · exact ⟨h0, .inl rfl⟩
    · refine ⟨hin, ?_⟩
      show wr .i64 (3 + andI (shrI .i64 x 15) 1) = 1 ∨ _ ∨ _ ∨ _
      rw [hb', wr_of (by omega) (by omega)]
      rcases (show b = 0 ∨ b = 1 by omega) with rfl | rfl
      · exact .inr (.inr (.inl rfl))
      · exact .inr (.inr (.inr rfl))
    · exact ⟨h0, .inr (.inl rfl)⟩
theorem opF_ok {n : Int} {l : List Int} {a : Nat} : OpW n (opF (schF n) l a) := by
  obtain ⟨c, hc, hcl⟩ := colO_at (s := schF n) (n := numO l a) (schF_small (n := n)).2
  obtain ⟨k, hk, hk7⟩ := andI_small (a := numO l a) (m := 7) (by simp)
  have hk' : andI (numO l a) 7 = k := hk
  unfold opF
  rw [hc, hk']
  exact opG_ok hk7 hcl predO_ok
end Go.Lib
end

section
set_option maxRecDepth 10000
namespace Go.Lib
open Go.Vm Go.Dv Go.Srt
theorem FitR.set {s : Sch} {r : Row} {v : Vl} {i : Nat} {c : Cl} (h : FitR s r) (hc : s[i]? = some c) (hv : FitV c v) : FitR s (r.set i v) := by
  refine ⟨by rw [List.length_set]; exact h.1, fun j d w hd hw => ?_⟩
  by_cases e : i = j
  · subst e
    have hi : i < r.length := by rw [h.1]; exact (List.getElem?_eq_some_iff.1 hc).1
    rw [List.getElem?_set_self hi] at hw
    cases hw
    rw [hc] at hd; cases hd
    exact hv
  · rw [List.getElem?_set_ne e] at hw
    exact h.2 j d w hd hw
def SxFit (s : Sch) (x : Sx) : Prop := 0 ≤ x.col ∧ ∃ c, s[x.col.toNat]? = some c ∧ FitV c x.v ∧ (x.add = true → c.kind = 1)
structure OpFit (s : Sch) (o : Op) : Prop where
  row : o.kind = 1 → FitR s o.row
  sets : ∀ x, x ∈ o.sets → SxFit s x
end Go.Lib
end

section
set_option maxRecDepth 10000
namespace Go.Lib
open Go.Vm Go.Dv Go.Srt
def KeyN (R : List Row) : Prop := ∀ r, r ∈ R → ∃ v l, r = v :: l ∧ v.null = false ∧ v.kind = 1
theorem cmpR_key {a b : Row} (ha : ∃ v l, a = v :: l ∧ v.null = false ∧ v.kind = 1) (hb : ∃ v l, b = v :: l ∧ v.null = false ∧ v.kind = 1) (h : keyF a < keyF b) : cmpR a b ≤ 0 := by
  obtain ⟨v, l, rfl, hv, hk⟩ := ha
  obtain ⟨w, m, rfl, hw, _⟩ := hb
  have h : v.n < w.n := h
  have e : cmpV v w = -1 := by
    rw [cmpV_null, if_neg (by simp [hv]), if_neg (by simp [hw]), if_pos hk]
    unfold cmpI; rw [if_pos h]
  unfold cmpR cmpRow
  rw [e]; simp
theorem KeyRise.rise {R : List Row} (h : KeyRise R) (hk : KeyN R) : Rise cmpR R := by
  unfold Rise
  refine List.Pairwise.imp_of_mem ?_ h
  intro a b ha hb hab
  exact cmpR_key (hk a ha) (hk b hb) hab
end Go.Lib
end

section
set_option maxRecDepth 10000
namespace Go.Lib
open Go.Vm Go.Dv Go.Srt
variable {p : Prog} {ext : Ext} {F : Nat → Nat}
attribute [-simp] bin_and bin_xor
@[simp] def res0 : List D := [.lit (.int .i64 0), .lit (.int .i64 0), .lit .nilslice]
end Go.Lib
end

section
set_option maxRecDepth 10000
namespace Go.Lib
open Go.Vm Go.Dv Go.Srt
variable {p : Prog} {ext : Ext} {F : Nat → Nat}
attribute [-simp] bin_and bin_xor
theorem doF_fine {ks : List Int} {n B : Nat} {R : List Row} {o : Op} (hR : RowsK ks B R) (hk : ks.length < 1000) (hB : B < 1000000) (ho : OpOk ks n o) : Fine (doF R o).2.rows := by
  have hf : Fine R := (hR.rows hk hB).fine
  have h0 : Fine ([] : List Row) := ⟨by simp, fun r hr => by simp at hr⟩
  have hfA : Fine (R.filter (pickF o)) := ⟨by have := List.length_filter_le (pickF o) R; have := hf.1; omega, fun x hx => hf.2 x (List.mem_filter.1 hx).1⟩
  unfold doF
  split
  · split <;> exact h0
  · split
    · split <;> exact h0
    · split
      · exact h0
      · split
        · rename_i o4
          exact sort_fine (colsF_fine (cols := o.cols) hfA (by have := (ho.cols o4).1; omega))
        · split
          · rename_i o5
            split
            · exact grpsF_fine (c := o.group) (ags := o.aggs) hfA (by have := (ho.aggs o5).2.1; omega)
            · exact h0
          · split <;> exact h0
end Go.Lib
end

section
set_option maxRecDepth 10000
namespace Go.Lib
open Go.Vm Go.Dv Go.Srt
variable {p : Prog} {ext : Ext} {F : Nat → Nat} {Q : ResD → Prop}
attribute [-simp] bin_and bin_xor
structure HLaw17o (p : Prog) (ext : Ext) (F : Nat → Nat) : Prop where
  modl : HModl p ext F
  law15 : HLaw15 p ext F
  law6 : HLaw6 p ext F
  ref6 : HSame6 p ext F
  awake : FnD p ext (F 107) [] (.lit (.bool true))
  h104 : Has p ext F 104 M104
theorem semB_assoc {H0 : HpD} {fr0 : FrD} {W : List Nat} {a b c : KC} {K : List KD} {fr : FrD} {H : HpD} (hs : SemB p ext Q H0 fr0 W (.seq a (.seq b c)) K fr H) : SemB p ext Q H0 fr0 W (.seq (.seq a b) c) K fr H := by
  intro hc hK ψ0 S0 h0 fv0 ψ S h fv P B s kf hP
  have hc' : (KC.seq a (.seq b c)).ok = true := by simp only [KC.ok, Bool.and_eq_true] at hc ⊢; exact ⟨hc.1.1, hc.1.2, hc.2⟩
  have h1 := hs hc' hK ψ0 S0 h0 fv0 ψ S h fv P B s kf hP
  simp only [KC.erase] at h1 ⊢
  refine WS.seq.2 (WS.seq.2 ?_)
  refine (WS.seq.1 h1 : WP _ _ _ _ _ _).mono fun r hr => ?_
  cases r with
  | ok f' h' => exact RK.seq_ok.2 (WS.seq.1 (RK.seq_ok.1 hr))
  | ret f' h' => exact RK.seq_ret.2 (RK.seq_ret.2 (RK.seq_ret.1 hr))
  | exit i f' h' => exact RK.seq_exit.2 (RK.seq_exit.2 (RK.seq_exit.1 hr))
  | fail => exact hr
theorem sch_pl17 {s : Sch} : (schR s).pl = true := by simp only [schR, D.pl, schE, Bool.true_and]; exact pls_map (fun _ => rfl) _
theorem ints_pl {m : Md} {l : List Int} (hm : m = .w ∨ m = .p ∨ m = .c) : (intsD m l).pl = true := by
  rcases hm with rfl | rfl | rfl <;> (simp only [intsD, D.pl, Bool.true_and]; exact pls_map (fun _ => rfl) _)
def OwnFr (m : Md) (ops : List Int) (s : Sch) (R : List Row) (i : Nat) : FrD := [(2, intsD m ops), (7, .rptr [schR s] 0), (8, rowsD R), (9, rowsD R), (10, .lit (.int .i64 (i : Int)))]
def OwnI (m : Md) (ops : List Int) (s : Sch) (R : List Row) (k : Nat) (fr : FrD) (_ : HpD) : Prop := ∃ i : Nat, k = 6 - i ∧ i ≤ 6 ∧ fr = OwnFr m ops s R i
def JDo (m : Md) (ops : List Int) (s : Sch) (R : List Row) (i : Nat) (X : List Row) (x : Rs) (fr : FrD) (H : HpD) : Prop :=
  ∃ b, fr = [(2, intsD m ops), (7, .rptr [schR s] 0), (8, rowsD R), (9, rowsD R), (10, .lit (.int .i64 (i : Int))), (11, rowsDN X), (12, .ptr b 0)] ∧ H.blk b = .cells x.cN false ∧ b < H.next
theorem rsN_len {x : Rs} : x.cN.length = 3 := rfl
theorem rsN_flats {x : Rs} : flatsD x.cN = true := rfl
theorem rsN_drop {x : Rs} : x.cN.drop 3 = [] := rfl
def JRss (m : Md) (ops : List Int) (s : Sch) (R : List Row) (i : Nat) (X Y : List Row) (fr : FrD) (_ : HpD) : Prop :=
  fr = [(2, intsD m ops), (7, .rptr [schR s] 0), (8, rowsD R), (9, rowsD R), (10, .lit (.int .i64 (i : Int))), (44, .row 1 .c [[rowsDN X], [rowsDN Y]]), (45, .lit (.int .i64 2)), (46, .lit (.int .i64 0))]
theorem rssV_of {h : Hp} {ψ : Nat → Option Nat} {S : Fz} {X Y : List Row} {v : V} (k : VD h ψ S (.row 1 .c [[rowsDN X], [rowsDN Y]]) v) (hX : Fine X) (hY : Fine Y) : RssV S.n h v ∧ lenbV v = some (.int .i64 ((2 : Nat) : Int)) := by
  simp only [VD] at k
  rcases k with ⟨rfl, hh⟩ | ⟨c, o, cap, ex, rfl, h1, h2, k⟩
  · cases hh
  · rcases k with ⟨hm, _⟩ | ⟨cs, ro, ha, hbk, hp⟩
    · cases hm
    · refine ⟨.inr ⟨c, o, _, cap, ex, cs, ro, rfl, hbk, by simp, fun i hi => ?_⟩, rfl⟩
      have hi : i < 2 := hi
      have get : ∀ (i : Nat) (Z : List Row), Fine Z → ([[rowsDN X], [rowsDN Y]] : List (List D))[i]? = some [rowsDN Z] → ∃ w, cs[o + i * 1]? = some w ∧ RowsV S.n h w := fun i Z hZ e => by
        obtain ⟨_, kp⟩ := VDss.get (i := i) hp e
        simp only [VDp] at kp
        obtain ⟨x, r, e, kx, _⟩ := kp
        refine ⟨x, ?_, rowsV_of kx hZ.1 hZ.2⟩
        have := congrArg (fun l => l[0]?) e
        simpa [List.getElem?_drop] using this
      match i, hi with
      | 0, _ => exact get 0 X hX rfl
      | 1, _ => exact get 1 Y hY rfl
theorem modlOwn (L : HLaw17o p ext F) {n : Int} {m m2 : Md} {l ops : List Int} {H : HpD} (hm2 : m2 = .w ∨ m2 = .p ∨ m2 = .c) : WcD p ext (F 104) [.lit (.int .i64 n), intsD m l, intsD m2 ops] H (fun d _H' => d = .lit (.bool true)) := by
  refine wc_of L.h104 (M := M104) rfl ok104 rfl (sem_run 9000 _ ?_)
  simp
  refine sem_fn (schema L.law6) (by first | exact D.les_refl _ | simp) (sem_run 5 _ ?_)
  simp
  have hsm := schF_small (n := n)
  refine sem_box (b := H.next) (cs := [schR (schF n)]) (ro := false) 7 (by simp) (by simp) ?_
  refine sem_run 9000 _ ?_
  simp
  refine sem_dfn (rows9 L.law6 hsm.1 hsm.2) (by first | exact D.les_refl _ | simp) (sem_run 9000 _ ?_)
  simp
  refine sem_dfn (rows9 L.law6 hsm.1 hsm.2) (by first | exact D.les_refl _ | simp) (sem_run 9000 _ ?_)
  simp
  have hgood : GoodRs (ksF (schF n)) (rows9F (schF n) l) := rows9_good
  have hrise : KeyRise (rows9F (schF n) l) := rows9_rise
  have hlen : (rows9F (schF n) l).length ≤ 40 := rows9F_len
  have hfine : Fine (rows9F (schF n) l) := rows9_fine hsm.1
  generalize rows9F (schF n) l = R at hgood hrise hlen hfine
  have hkl : (ksF (schF n)).length < 1000 := by rw [ksF_len]; exact hsm.1
  have hk0 : RowsK (ksF (schF n)) 40 R := ⟨hgood, hrise, hlen⟩
  refine sem_loop (OwnI m2 ops (schF n) R) ?_ (k := 6) ⟨0, rfl, by omega, rfl⟩
  rintro k fr H1 ⟨i, rfl, hi, rfl⟩
  have wi : wr .i64 ((i : Int) + 1) = ((i + 1 : Nat) : Int) := by rw [wr_of] <;> omega
  unfold OwnFr
  refine sem_run 12 _ ?_
  by_cases c1 : i < 6
  · have c1' : (i : Int) < 6 := by omega
    simp [c1']
    refine sem_as (OwnFr m2 ops (schF n) R i) (by simp [OwnFr, rowsD, intsD, D.le_refl]) ?_
    refine semB_open (by simp [OwnFr, plF, D.pl, D.pls, rows_pl, sch_pl17, ints_pl hm2]) ?_
    have hdo := hk0.do_ (n := 4) (o := opF (schF n) ops i) hkl (by omega) opF_ok.ok
    refine semB_step (JDo m2 ops (schF n) R i (doF R (opF (schF n) ops i)).1 (doF R (opF (schF n) ops i)).2) ?_ ?_
    · unfold OwnFr
      refine sem_run 9000 _ ?_
      simp
      refine sem_dfn (opF_of L.law15 (s := schF n) (m := m2) (l := ops) (a := i) hsm.2 hsm.1 (by omega)) (by first | exact D.les_refl _ | simp) (sem_run 9000 _ ?_)
      simp
      refine sem_dfn (modl_doN L.modl (sc := schF n) hdo) (by first | exact D.les_refl _ | simp) (sem_run 9000 _ ?_)
      simp
      simp [rsN_len, rsN_flats]
      refine sem_ok ?_
      exact ⟨0, by simp [H000], by simp [H000], by simp [H000]⟩
    rintro fr H2 ⟨b, rfl, hb, hlt⟩
    refine semB_assoc ?_
    have hfX : Fine (doF R (opF (schF n) ops i)).1 := ((doF_ok hk0 (n := 4) (o := opF (schF n) ops i) opF_ok.ok).rows hkl (by omega)).fine
    have hfY : Fine (doF R (opF (schF n) ops i)).2.rows := doF_fine (n := 4) hk0 hkl (by omega) opF_ok.ok
    generalize hX : (doF R (opF (schF n) ops i)).1 = X at hb hfX
    refine semB_step (JRss m2 ops (schF n) R i X (doF R (opF (schF n) ops i)).2.rows) ?_ ?_
    · refine sem_run 9000 _ ?_
      simp
      simp [hb, Rs.cN]
      refine sem_ok ?_
      simp [okQ, JRss]
      done
    rintro fr H3 rfl
    refine semB_close_seq (OwnFr m2 ops (schF n) R i) (fun ψ S h fv sr kf => ?_) (by refine ⟨rfl, ?_, rfl, ?_, rfl, ?_, rfl, ?_, rfl, ?_, trivial⟩ <;> simp [OwnFr]) ?_
    · have k44 := kf 44
      have k45 := kf 45
      have k46 := kf 46
      simp [VD] at k45 k46
      simp at k44
      obtain ⟨hr, hl⟩ := rssV_of k44 hfX hfY
      refine ((own_wp hr hl rfl k45.1 k46.1 : WS p ext KOwn.erase [] fv h _) : WP _ _ _ _ _ _).mono fun r hr => ?_
      have hr : okR (fun _ h' => Kp S.n h h') r := hr
      cases r with
      | ok f' h' => exact ⟨hr.next, hr.low⟩
      | _ => exact hr
    unfold OwnFr
    refine sem_run 9000 _ ?_
    simp
    refine sf (ref6_same L.ref6 hfine) ?_
    simp
    refine sem_ok ?_
    exact ⟨_, by omega, i + 1, rfl, by omega, by simp [OwnFr, wi]⟩
  · have c1' : ¬ (i : Int) < 6 := by omega
    simp [c1']
    refine sem_exit (sem_run 9000 _ ?_)
    simp
    refine sf (L.awake) ?_
    simp
    refine sem_ret ?_
    simp [M104]
end Go.Lib
end

section
namespace Go.Proofs.Ytcpfgjkhjadgoaa.sa
def F0 (i : Nat) : Nat := ([0, 22, 25, 23, 26, 27, 0, 0, 45, 44, 46, 47, 48, 42, 49, 0, 0, 0, 66, 67, 68, 0, 6, 5, 17, 38, 20, 43, 64, 65, 72, 74, 7, 9, 10, 11, 18, 19, 21, 24, 28, 41, 50, 62, 63, 69, 0, 0, 12, 29, 51, 0, 13, 0, 0, 0, 0, 0, 0, 0, 0, 0, 0, 3, 8, 33, 53, 52, 54, 55, 14, 40, 31, 32, 34, 35, 36, 61, 57, 56, 58, 59, 60, 70, 71, 73, 75, 0, 0, 0, 0, 0, 0, 0, 0, 0, 0, 15, 0, 37, 0, 0, 0, 0, 4, 0, 0, 16, 0, 0, 0, 0, 0, 0, 0, 0, 0, 0, 0, 0, 0, 0, 0, 0, 0, 0, 0, 0, 0, 0, 0, 0, 0, 0, 0, 0, 0, 0, 0, 0, 0, 0, 0, 0, 0, 0, 0, 0, 0, 0, 0, 0, 0, 0, 0, 0, 0, 0, 0, 0, 0, 0, 0, 0, 0, 0, 0, 0, 0, 0, 0, 0, 0, 0, 0, 0, 0, 0, 0, 0, 0, 0, 0, 0, 0, 0, 0, 0, 0, 0, 0, 0, 0, 0, 0, 0, 0, 0, 0, 0, 0, 0, 0, 0, 0, 0, 0, 0, 0, 0, 0, 0, 0, 0, 0, 0, 0, 0, 0, 0, 0, 0, 0, 0, 0, 0, 0, 0, 0, 0, 0, 0, 0, 0, 0, 0, 0, 0, 0, 0, 0, 0, 0, 0, 0, 0, 0, 0, 0, 0, 0, 0, 0, 0, 0, 0, 0, 0, 0, 0, 0, 0, 0, 0, 0, 0, 0, 0, 0, 0, 0, 0, 0, 0, 0, 0, 0, 0, 0, 0, 0, 0, 0, 0, 0, 0, 0, 0, 0, 0, 0, 0, 0, 0, 0, 0, 0, 0, 0, 0, 0, 0, 0] : List Nat).getD i 0
end Go.Proofs.Ytcpfgjkhjadgoaa.sa
end

section
set_option maxRecDepth 100000
namespace Go.Proofs.Ytcpfgjkhjadgoaa
open Go.Vm
def m4 : Fun := Go.Lib.M104 Go.Proofs.Ytcpfgjkhjadgoaa.sa.F0
theorem v4 : IsFun Try.prog 4 m4 := ⟨_, Try.func4, by kernel_rfl, by kernel_rfl⟩
def m5 : Fun := Go.Lib.M23 Go.Proofs.Ytcpfgjkhjadgoaa.sa.F0
theorem v5 : IsFun Try.prog 5 m5 := ⟨_, Try.func5, by kernel_rfl, by kernel_rfl⟩
def m6 : Fun := Go.Lib.M22 Go.Proofs.Ytcpfgjkhjadgoaa.sa.F0
theorem v6 : IsFun Try.prog 6 m6 := ⟨_, Try.func6, by kernel_rfl, by kernel_rfl⟩
def m7 : Fun := Go.Lib.M32 Go.Proofs.Ytcpfgjkhjadgoaa.sa.F0
theorem v7 : IsFun Try.prog 7 m7 := ⟨_, Try.func7, by kernel_rfl, by kernel_rfl⟩
def m9 : Fun := Go.Lib.M33 Go.Proofs.Ytcpfgjkhjadgoaa.sa.F0
theorem v9 : IsFun Try.prog 9 m9 := ⟨_, Try.func9, by kernel_rfl, by kernel_rfl⟩
def m10 : Fun := Go.Lib.M34 Go.Proofs.Ytcpfgjkhjadgoaa.sa.F0
theorem v10 : IsFun Try.prog 10 m10 := ⟨_, Try.func10, by kernel_rfl, by kernel_rfl⟩
def m11 : Fun := Go.Lib.M35 Go.Proofs.Ytcpfgjkhjadgoaa.sa.F0
theorem v11 : IsFun Try.prog 11 m11 := ⟨_, Try.func11, by kernel_rfl, by kernel_rfl⟩
def m12 : Fun := Go.Lib.M48 Go.Proofs.Ytcpfgjkhjadgoaa.sa.F0
theorem v12 : IsFun Try.prog 12 m12 := ⟨_, Try.func12, by kernel_rfl, by kernel_rfl⟩
def m14 : Fun := Go.Lib.M70 Go.Proofs.Ytcpfgjkhjadgoaa.sa.F0
theorem v14 : IsFun Try.prog 14 m14 := ⟨_, Try.func14, by kernel_rfl, by kernel_rfl⟩
def m15 : Fun := Go.Lib.M97 Go.Proofs.Ytcpfgjkhjadgoaa.sa.F0
theorem v15 : IsFun Try.prog 15 m15 := ⟨_, Try.func15, by kernel_rfl, by kernel_rfl⟩
def m16 : Fun := ⟨122,0,.seq (.region [⟨(some 0),(.p (.mov (.val (.bool false)))),none⟩])
 (.seq (.region [⟨(some 10),(.p (.build [.str [],.int .i64 (.ofNat 0),.bool false] [(0,1,(.val (.str [107,101,121]))),(1,1,(.val (.int .i64 (.ofNat 1))))])),none⟩,⟨(some 11),(.p (.build [.str [],.int .i64 (.ofNat 0),.bool false] [(0,1,(.val (.str [97]))),(1,1,(.val (.int .i64 (.ofNat 1))))])),none⟩,⟨(some 12),(.a (.bslice [.str [],.int .i64 (.ofNat 0),.bool false,.str [],.int .i64 (.ofNat 0),.bool false] 3 2 [(0,3,(.tmp 10)),(3,3,(.tmp 11))])),none⟩,⟨(some 13),(.p (.build [.nilslice] [(0,1,(.tmp 12))])),none⟩,⟨(some 1),(.a (.new [.nilslice])),none⟩,⟨none,(.e (.store 1 (.tmp 1) (.tmp 13))),none⟩])
 (.seq (.region [⟨(some 2),(.p (.mov (.val (.func 39 [] [])))),none⟩])
 (.seq (.region [⟨(some 14),(.p (.build [.int .i64 (.ofNat 0),.int .i64 (.ofNat 0),.int .i64 (.ofNat 0),.bool false,.int .i64 (.ofNat 0),.int .i64 (.ofNat 0),.nilslice,.nilslice] [(0,1,(.val (.int .i64 (.ofNat 1))))])),none⟩,⟨(some 3),(.a (.new [.int .i64 (.ofNat 0),.int .i64 (.ofNat 0),.int .i64 (.ofNat 0),.bool false,.int .i64 (.ofNat 0),.int .i64 (.ofNat 0),.nilslice,.nilslice])),none⟩,⟨none,(.e (.store 8 (.tmp 3) (.tmp 14))),none⟩])
 (.seq (.dregion [⟨⟨(some 17),(.p (.mov (.tmp 2))),none⟩,0,1⟩,⟨⟨(some 18),(.e (.callv (.tmp 17) [(.val (.int .i64 (.ofNat 2)))])),none⟩,0,3⟩,⟨⟨(some 19),(.p (.mov (.tmp 2))),none⟩,0,3⟩,⟨⟨(some 20),(.e (.callv (.tmp 19) [(.val (.int .i64 (.ofNat 5)))])),none⟩,2,5⟩,⟨⟨(some 24),(.p (.mov (.tmp 2))),none⟩,0,5⟩,⟨⟨(some 25),(.e (.callv (.tmp 24) [(.val (.int .i64 (.ofNat 4)))])),none⟩,4,17⟩,⟨⟨(some 16),(.loadn 1 (.tmp 1)),none⟩,0,17⟩,⟨⟨(some 21),(.a (.bslice [.bool false,.int .i64 (.ofNat 0),.int .i64 (.ofNat 0),.nilslice,.bool false,.int .i64 (.ofNat 0),.int .i64 (.ofNat 0),.nilslice] 4 2 [(0,4,(.tmp 18)),(4,4,(.tmp 20))])),none⟩,4,17⟩,⟨⟨(some 22),(.p (.build [.int .i64 (.ofNat 0),.nilslice,.int .i64 (.ofNat 0),.int .i64 (.ofNat 0),.int .i64 (.ofNat 0),.bool false,.int .i64 (.ofNat 0),.int .i64 (.ofNat 0),.nilslice,.nilslice,.nilslice,.nilslice,.int .i64 (.ofNat 0),.nilslice] [(0,1,(.val (.int .i64 (.ofNat 1)))),(1,1,(.tmp 21))])),none⟩,4,17⟩,⟨⟨(some 23),(.loadn 8 (.tmp 3)),none⟩,0,17⟩,⟨⟨(some 26),(.p (.build [.int .i64 (.ofNat 0),.bool false,.bool false,.int .i64 (.ofNat 0),.int .i64 (.ofNat 0),.nilslice] [(0,1,(.val (.int .i64 (.ofNat 1)))),(1,1,(.val (.bool true))),(2,4,(.tmp 25))])),none⟩,6,17⟩,⟨⟨(some 27),(.a (.bslice [.int .i64 (.ofNat 0),.bool false,.bool false,.int .i64 (.ofNat 0),.int .i64 (.ofNat 0),.nilslice] 6 1 [(0,6,(.tmp 26))])),none⟩,6,17⟩,⟨⟨(some 28),(.p (.build [.int .i64 (.ofNat 0),.nilslice,.int .i64 (.ofNat 0),.int .i64 (.ofNat 0),.int .i64 (.ofNat 0),.bool false,.int .i64 (.ofNat 0),.int .i64 (.ofNat 0),.nilslice,.nilslice,.nilslice,.nilslice,.int .i64 (.ofNat 0),.nilslice] [(0,1,(.val (.int .i64 (.ofNat 2)))),(2,8,(.tmp 23)),(10,1,(.tmp 27))])),none⟩,6,17⟩,⟨⟨(some 29),(.loadn 8 (.tmp 3)),none⟩,0,17⟩,⟨⟨(some 30),(.a (.bslice [.int .i64 (.ofNat 0)] 1 1 [(0,1,(.val (.int .i64 (.ofNat 1))))])),none⟩,0,17⟩,⟨⟨(some 31),(.p (.build [.int .i64 (.ofNat 0),.nilslice,.int .i64 (.ofNat 0),.int .i64 (.ofNat 0),.int .i64 (.ofNat 0),.bool false,.int .i64 (.ofNat 0),.int .i64 (.ofNat 0),.nilslice,.nilslice,.nilslice,.nilslice,.int .i64 (.ofNat 0),.nilslice] [(0,1,(.val (.int .i64 (.ofNat 4)))),(2,8,(.tmp 29)),(11,1,(.tmp 30))])),none⟩,0,17⟩,⟨⟨(some 32),(.a (.bslice [.int .i64 (.ofNat 0),.nilslice,.int .i64 (.ofNat 0),.int .i64 (.ofNat 0),.int .i64 (.ofNat 0),.bool false,.int .i64 (.ofNat 0),.int .i64 (.ofNat 0),.nilslice,.nilslice,.nilslice,.nilslice,.int .i64 (.ofNat 0),.nilslice,.int .i64 (.ofNat 0),.nilslice,.int .i64 (.ofNat 0),.int .i64 (.ofNat 0),.int .i64 (.ofNat 0),.bool false,.int .i64 (.ofNat 0),.int .i64 (.ofNat 0),.nilslice,.nilslice,.nilslice,.nilslice,.int .i64 (.ofNat 0),.nilslice,.int .i64 (.ofNat 0),.nilslice,.int .i64 (.ofNat 0),.int .i64 (.ofNat 0),.int .i64 (.ofNat 0),.bool false,.int .i64 (.ofNat 0),.int .i64 (.ofNat 0),.nilslice,.nilslice,.nilslice,.nilslice,.int .i64 (.ofNat 0),.nilslice] 14 3 [(0,14,(.tmp 22)),(14,14,(.tmp 28)),(28,14,(.tmp 31))])),none⟩,6,17⟩,⟨⟨(some 33),(.e (.call 40 [(.tmp 16),(.val (.nilslice)),(.tmp 32)])),none⟩,6,23⟩,⟨⟨(some 15),(.p (.mov (.tmp 33))),none⟩,18,23⟩,⟨⟨(some 34),(.p (.ext (.tmp 15) 0)),none⟩,18,23⟩,⟨⟨(some 35),(.p (.ext (.tmp 15) 1)),none⟩,18,23⟩,⟨⟨(some 4),(.p (.mov (.tmp 34))),none⟩,18,23⟩,⟨⟨(some 5),(.p (.mov (.tmp 35))),none⟩,18,23⟩])
 (.seq (.region [⟨(some 37),(.loadn 1 (.tmp 1)),none⟩,⟨(some 38),(.p (.mov (.tmp 4))),none⟩,⟨(some 39),(.loadn 8 (.tmp 3)),none⟩,⟨(some 40),(.p (.build [.int .i64 (.ofNat 0),.nilslice,.int .i64 (.ofNat 0),.int .i64 (.ofNat 0),.int .i64 (.ofNat 0),.bool false,.int .i64 (.ofNat 0),.int .i64 (.ofNat 0),.nilslice,.nilslice,.nilslice,.nilslice,.int .i64 (.ofNat 0),.nilslice] [(0,1,(.val (.int .i64 (.ofNat 3)))),(2,8,(.tmp 39))])),none⟩,⟨(some 41),(.p (.build [.int .i64 (.ofNat 0),.nilslice,.int .i64 (.ofNat 0),.int .i64 (.ofNat 0),.int .i64 (.ofNat 0),.bool false,.int .i64 (.ofNat 0),.int .i64 (.ofNat 0),.nilslice,.nilslice,.nilslice,.nilslice,.int .i64 (.ofNat 0),.nilslice] [(0,1,(.val (.int .i64 (.ofNat 6))))])),none⟩,⟨(some 42),(.loadn 8 (.tmp 3)),none⟩,⟨(some 43),(.p (.build [.int .i64 (.ofNat 0),.nilslice,.int .i64 (.ofNat 0),.int .i64 (.ofNat 0),.int .i64 (.ofNat 0),.bool false,.int .i64 (.ofNat 0),.int .i64 (.ofNat 0),.nilslice,.nilslice,.nilslice,.nilslice,.int .i64 (.ofNat 0),.nilslice] [(0,1,(.val (.int .i64 (.ofNat 3)))),(2,8,(.tmp 42))])),none⟩,⟨(some 44),(.a (.bslice [.int .i64 (.ofNat 0),.nilslice,.int .i64 (.ofNat 0),.int .i64 (.ofNat 0),.int .i64 (.ofNat 0),.bool false,.int .i64 (.ofNat 0),.int .i64 (.ofNat 0),.nilslice,.nilslice,.nilslice,.nilslice,.int .i64 (.ofNat 0),.nilslice,.int .i64 (.ofNat 0),.nilslice,.int .i64 (.ofNat 0),.int .i64 (.ofNat 0),.int .i64 (.ofNat 0),.bool false,.int .i64 (.ofNat 0),.int .i64 (.ofNat 0),.nilslice,.nilslice,.nilslice,.nilslice,.int .i64 (.ofNat 0),.nilslice,.int .i64 (.ofNat 0),.nilslice,.int .i64 (.ofNat 0),.int .i64 (.ofNat 0),.int .i64 (.ofNat 0),.bool false,.int .i64 (.ofNat 0),.int .i64 (.ofNat 0),.nilslice,.nilslice,.nilslice,.nilslice,.int .i64 (.ofNat 0),.nilslice] 14 3 [(0,14,(.tmp 40)),(14,14,(.tmp 41)),(28,14,(.tmp 43))])),none⟩,⟨(some 45),(.e (.call 40 [(.tmp 37),(.tmp 38),(.tmp 44)])),none⟩,⟨(some 36),(.p (.mov (.tmp 45))),none⟩,⟨(some 46),(.p (.ext (.tmp 36) 0)),none⟩,⟨(some 47),(.p (.ext (.tmp 36) 1)),none⟩,⟨(some 6),(.p (.mov (.tmp 46))),none⟩,⟨(some 7),(.p (.mov (.tmp 47))),none⟩])
 (.seq (.dregion [⟨⟨(some 51),(.p (.mov (.tmp 2))),none⟩,0,1⟩,⟨⟨(some 52),(.e (.callv (.tmp 51) [(.val (.int .i64 (.ofNat 2)))])),none⟩,0,3⟩,⟨⟨(some 53),(.p (.mov (.tmp 2))),none⟩,0,3⟩,⟨⟨(some 54),(.e (.callv (.tmp 53) [(.val (.int .i64 (.ofNat 1)))])),none⟩,2,8⟩,⟨⟨(some 49),(.loadn 1 (.tmp 1)),none⟩,0,8⟩,⟨⟨(some 50),(.p (.mov (.tmp 4))),none⟩,0,8⟩,⟨⟨(some 55),(.a (.bslice [.bool false,.int .i64 (.ofNat 0),.int .i64 (.ofNat 0),.nilslice,.bool false,.int .i64 (.ofNat 0),.int .i64 (.ofNat 0),.nilslice] 4 2 [(0,4,(.tmp 52)),(4,4,(.tmp 54))])),none⟩,4,8⟩,⟨⟨(some 56),(.p (.build [.int .i64 (.ofNat 0),.nilslice,.int .i64 (.ofNat 0),.int .i64 (.ofNat 0),.int .i64 (.ofNat 0),.bool false,.int .i64 (.ofNat 0),.int .i64 (.ofNat 0),.nilslice,.nilslice,.nilslice,.nilslice,.int .i64 (.ofNat 0),.nilslice] [(0,1,(.val (.int .i64 (.ofNat 1)))),(1,1,(.tmp 55))])),none⟩,4,8⟩,⟨⟨(some 57),(.e (.call 14 [(.tmp 49),(.tmp 50),(.tmp 56)])),none⟩,4,14⟩,⟨⟨(some 48),(.p (.mov (.tmp 57))),none⟩,9,14⟩,⟨⟨(some 58),(.p (.ext (.tmp 48) 0)),none⟩,9,14⟩,⟨⟨(some 59),(.p (.ext (.tmp 48) 1)),none⟩,9,14⟩,⟨⟨(some 9),(.a (.new [.int .i64 (.ofNat 0),.int .i64 (.ofNat 0),.nilslice])),none⟩,0,14⟩,⟨⟨(some 8),(.p (.mov (.tmp 58))),none⟩,9,14⟩,⟨⟨none,(.e (.store 3 (.tmp 9) (.tmp 59))),none⟩,9,15⟩])
 (.seq (.region [⟨(some 60),(.p (.mov (.tmp 5))),none⟩,⟨(some 61),(.p (.lenb (.tmp 60))),none⟩,⟨(some 62),(.p (.bin .eql (.tmp 61) (.val (.int .i64 (.ofNat 3))))),none⟩,⟨(some 63),(.p (.mov (.tmp 62))),none⟩,⟨(some 64),(.p (.mov (.tmp 5))),(some (63,true))⟩,⟨(some 65),(.p (.iaddr 3 (.tmp 64) (.val (.int .i64 (.ofNat 2))))),(some (63,true))⟩,⟨(some 66),(.p (.faddr 2 (.tmp 65))),(some (63,true))⟩,⟨(some 67),(.load1 (.tmp 66)),(some (63,true))⟩,⟨(some 68),(.p (.lenb (.tmp 67))),(some (63,true))⟩,⟨(some 69),(.p (.bin .eql (.tmp 68) (.val (.int .i64 (.ofNat 1))))),(some (63,true))⟩,⟨(some 70),(.p (.pick (.tmp 63) (.tmp 69) (.val (.bool false)))),none⟩,⟨(some 71),(.p (.mov (.tmp 70))),none⟩,⟨(some 72),(.p (.mov (.tmp 5))),(some (71,true))⟩,⟨(some 73),(.p (.iaddr 3 (.tmp 72) (.val (.int .i64 (.ofNat 2))))),(some (71,true))⟩,⟨(some 74),(.p (.faddr 2 (.tmp 73))),(some (71,true))⟩,⟨(some 75),(.load1 (.tmp 74)),(some (71,true))⟩,⟨(some 76),(.p (.iaddr 1 (.tmp 75) (.val (.int .i64 (.ofNat 0))))),(some (71,true))⟩,⟨(some 77),(.load1 (.tmp 76)),(some (71,true))⟩,⟨(some 78),(.p (.lenb (.tmp 77))),(some (71,true))⟩,⟨(some 79),(.p (.bin .eql (.tmp 78) (.val (.int .i64 (.ofNat 1))))),(some (71,true))⟩,⟨(some 80),(.p (.pick (.tmp 71) (.tmp 79) (.val (.bool false)))),none⟩,⟨(some 81),(.p (.mov (.tmp 80))),none⟩,⟨(some 82),(.p (.mov (.tmp 5))),(some (81,true))⟩,⟨(some 83),(.p (.iaddr 3 (.tmp 82) (.val (.int .i64 (.ofNat 2))))),(some (81,true))⟩,⟨(some 84),(.p (.faddr 2 (.tmp 83))),(some (81,true))⟩,⟨(some 85),(.load1 (.tmp 84)),(some (81,true))⟩,⟨(some 86),(.p (.iaddr 1 (.tmp 85) (.val (.int .i64 (.ofNat 0))))),(some (81,true))⟩,⟨(some 87),(.load1 (.tmp 86)),(some (81,true))⟩,⟨(some 88),(.p (.iaddr 4 (.tmp 87) (.val (.int .i64 (.ofNat 0))))),(some (81,true))⟩,⟨(some 89),(.p (.faddr 2 (.tmp 88))),(some (81,true))⟩,⟨(some 90),(.load1 (.tmp 89)),(some (81,true))⟩,⟨(some 91),(.p (.bin .eql (.tmp 90) (.val (.int .i64 (.ofNat 9))))),(some (81,true))⟩,⟨(some 92),(.p (.pick (.tmp 81) (.tmp 91) (.val (.bool false)))),none⟩,⟨(some 93),(.p (.mov (.tmp 92))),none⟩,⟨(some 94),(.p (.mov (.tmp 5))),(some (93,true))⟩,⟨(some 95),(.p (.iaddr 3 (.tmp 94) (.val (.int .i64 (.ofNat 1))))),(some (93,true))⟩,⟨(some 96),(.p (.faddr 1 (.tmp 95))),(some (93,true))⟩,⟨(some 97),(.load1 (.tmp 96)),(some (93,true))⟩,⟨(some 98),(.p (.bin .eql (.tmp 97) (.val (.int .i64 (.ofNat 1))))),(some (93,true))⟩,⟨(some 99),(.p (.pick (.tmp 93) (.tmp 98) (.val (.bool false)))),none⟩,⟨(some 100),(.p (.mov (.tmp 99))),none⟩,⟨(some 101),(.p (.mov (.tmp 7))),(some (100,true))⟩,⟨(some 102),(.p (.lenb (.tmp 101))),(some (100,true))⟩,⟨(some 103),(.p (.bin .eql (.tmp 102) (.val (.int .i64 (.ofNat 2))))),(some (100,true))⟩,⟨(some 104),(.p (.pick (.tmp 100) (.tmp 103) (.val (.bool false)))),none⟩,⟨(some 105),(.p (.mov (.tmp 104))),none⟩,⟨(some 106),(.p (.mov (.tmp 7))),(some (105,true))⟩,⟨(some 107),(.p (.iaddr 3 (.tmp 106) (.val (.int .i64 (.ofNat 1))))),(some (105,true))⟩,⟨(some 108),(.p (.faddr 0 (.tmp 107))),(some (105,true))⟩,⟨(some 109),(.load1 (.tmp 108)),(some (105,true))⟩,⟨(some 110),(.p (.bin .eql (.tmp 109) (.val (.int .i64 (.ofNat 3))))),(some (105,true))⟩,⟨(some 111),(.p (.pick (.tmp 105) (.tmp 110) (.val (.bool false)))),none⟩,⟨(some 112),(.p (.mov (.tmp 111))),none⟩,⟨(some 113),(.p (.mov (.tmp 6))),(some (112,true))⟩,⟨(some 114),(.p (.mov (.tmp 4))),(some (112,true))⟩,⟨(some 115),(.e (.call 12 [(.tmp 113),(.tmp 114)])),(some (112,true))⟩,⟨(some 116),(.p (.pick (.tmp 112) (.tmp 115) (.val (.bool false)))),none⟩,⟨(some 117),(.p (.mov (.tmp 116))),none⟩,⟨(some 118),(.p (.faddr 0 (.tmp 9))),(some (117,true))⟩,⟨(some 119),(.load1 (.tmp 118)),(some (117,true))⟩,⟨(some 120),(.p (.bin .eql (.tmp 119) (.val (.int .i64 (.ofNat 1))))),(some (117,true))⟩,⟨(some 121),(.p (.pick (.tmp 117) (.tmp 120) (.val (.bool false)))),none⟩,⟨(some 0),(.p (.mov (.tmp 121))),none⟩])
 (.ret)))))))),[.tmp 0]⟩
theorem v16 : IsFun Try.prog 16 m16 := ⟨_, Try.func16, by kernel_rfl, by kernel_rfl⟩
def m17 : Fun := Go.Lib.M24 Go.Proofs.Ytcpfgjkhjadgoaa.sa.F0
theorem v17 : IsFun Try.prog 17 m17 := ⟨_, Try.func17, by kernel_rfl, by kernel_rfl⟩
def m18 : Fun := Go.Lib.M36 Go.Proofs.Ytcpfgjkhjadgoaa.sa.F0
theorem v18 : IsFun Try.prog 18 m18 := ⟨_, Try.func18, by kernel_rfl, by kernel_rfl⟩
def m19 : Fun := Go.Lib.M37 Go.Proofs.Ytcpfgjkhjadgoaa.sa.F0
theorem v19 : IsFun Try.prog 19 m19 := ⟨_, Try.func19, by kernel_rfl, by kernel_rfl⟩
def m20 : Fun := Go.Lib.M26 Go.Proofs.Ytcpfgjkhjadgoaa.sa.F0
theorem v20 : IsFun Try.prog 20 m20 := ⟨_, Try.func20, by kernel_rfl, by kernel_rfl⟩
def m21 : Fun := Go.Lib.M38 Go.Proofs.Ytcpfgjkhjadgoaa.sa.F0
theorem v21 : IsFun Try.prog 21 m21 := ⟨_, Try.func21, by kernel_rfl, by kernel_rfl⟩
def m22 : Fun := Go.Lib.M1 Go.Proofs.Ytcpfgjkhjadgoaa.sa.F0
theorem v22 : IsFun Try.prog 22 m22 := ⟨_, Try.func22, by kernel_rfl, by kernel_rfl⟩
def m23 : Fun := Go.Lib.M3 Go.Proofs.Ytcpfgjkhjadgoaa.sa.F0
theorem v23 : IsFun Try.prog 23 m23 := ⟨_, Try.func23, by kernel_rfl, by kernel_rfl⟩
def m24 : Fun := Go.Lib.M39 Go.Proofs.Ytcpfgjkhjadgoaa.sa.F0
theorem v24 : IsFun Try.prog 24 m24 := ⟨_, Try.func24, by kernel_rfl, by kernel_rfl⟩
def m25 : Fun := Go.Lib.M2 Go.Proofs.Ytcpfgjkhjadgoaa.sa.F0
theorem v25 : IsFun Try.prog 25 m25 := ⟨_, Try.func25, by kernel_rfl, by kernel_rfl⟩
def m26 : Fun := Go.Lib.M4 Go.Proofs.Ytcpfgjkhjadgoaa.sa.F0
theorem v26 : IsFun Try.prog 26 m26 := ⟨_, Try.func26, by kernel_rfl, by kernel_rfl⟩
def m27 : Fun := Go.Lib.M5 Go.Proofs.Ytcpfgjkhjadgoaa.sa.F0
theorem v27 : IsFun Try.prog 27 m27 := ⟨_, Try.func27, by kernel_rfl, by kernel_rfl⟩
def m28 : Fun := Go.Lib.M40 Go.Proofs.Ytcpfgjkhjadgoaa.sa.F0
theorem v28 : IsFun Try.prog 28 m28 := ⟨_, Try.func28, by kernel_rfl, by kernel_rfl⟩
def m29 : Fun := Go.Lib.M49 Go.Proofs.Ytcpfgjkhjadgoaa.sa.F0
theorem v29 : IsFun Try.prog 29 m29 := ⟨_, Try.func29, by kernel_rfl, by kernel_rfl⟩
def m31 : Fun := Go.Lib.M72 Go.Proofs.Ytcpfgjkhjadgoaa.sa.F0
theorem v31 : IsFun Try.prog 31 m31 := ⟨_, Try.func31, by kernel_rfl, by kernel_rfl⟩
def m32 : Fun := Go.Lib.M73 Go.Proofs.Ytcpfgjkhjadgoaa.sa.F0
theorem v32 : IsFun Try.prog 32 m32 := ⟨_, Try.func32, by kernel_rfl, by kernel_rfl⟩
def m33 : Fun := Go.Lib.M65 Go.Proofs.Ytcpfgjkhjadgoaa.sa.F0
theorem v33 : IsFun Try.prog 33 m33 := ⟨_, Try.func33, by kernel_rfl, by kernel_rfl⟩
def m34 : Fun := Go.Lib.M74 Go.Proofs.Ytcpfgjkhjadgoaa.sa.F0
theorem v34 : IsFun Try.prog 34 m34 := ⟨_, Try.func34, by kernel_rfl, by kernel_rfl⟩
def m35 : Fun := Go.Lib.M75 Go.Proofs.Ytcpfgjkhjadgoaa.sa.F0
theorem v35 : IsFun Try.prog 35 m35 := ⟨_, Try.func35, by kernel_rfl, by kernel_rfl⟩
def m36 : Fun := Go.Lib.M76 Go.Proofs.Ytcpfgjkhjadgoaa.sa.F0
theorem v36 : IsFun Try.prog 36 m36 := ⟨_, Try.func36, by kernel_rfl, by kernel_rfl⟩
def m37 : Fun := Go.Lib.M99 Go.Proofs.Ytcpfgjkhjadgoaa.sa.F0
theorem v37 : IsFun Try.prog 37 m37 := ⟨_, Try.func37, by kernel_rfl, by kernel_rfl⟩
def m38 : Fun := Go.Lib.M25 Go.Proofs.Ytcpfgjkhjadgoaa.sa.F0
theorem v38 : IsFun Try.prog 38 m38 := ⟨_, Try.func38, by kernel_rfl, by kernel_rfl⟩
def m39 : Fun := ⟨5,1,.seq (.region [⟨(some 2),(.a (.new [.bool false,.int .i64 (.ofNat 0),.int .i64 (.ofNat 0),.nilslice])),none⟩])
 (.seq (.region [⟨(some 3),(.p (.mov (.tmp 0))),none⟩,⟨(some 4),(.p (.build [.bool false,.int .i64 (.ofNat 0),.int .i64 (.ofNat 0),.nilslice] [(1,1,(.val (.int .i64 (.ofNat 1)))),(2,1,(.tmp 3))])),none⟩,⟨none,(.e (.store 4 (.tmp 2) (.tmp 4))),none⟩])
 (.ret)),[.celln 4 2]⟩
theorem v39 : IsFun Try.prog 39 m39 := ⟨_, Try.func39, by kernel_rfl, by kernel_rfl⟩
def m40 : Fun := Go.Lib.M71 Go.Proofs.Ytcpfgjkhjadgoaa.sa.F0
theorem v40 : IsFun Try.prog 40 m40 := ⟨_, Try.func40, by kernel_rfl, by kernel_rfl⟩
def m41 : Fun := Go.Lib.M41 Go.Proofs.Ytcpfgjkhjadgoaa.sa.F0
theorem v41 : IsFun Try.prog 41 m41 := ⟨_, Try.func41, by kernel_rfl, by kernel_rfl⟩
def m42 : Fun := Go.Lib.M13 Go.Proofs.Ytcpfgjkhjadgoaa.sa.F0
theorem v42 : IsFun Try.prog 42 m42 := ⟨_, Try.func42, by kernel_rfl, by kernel_rfl⟩
def m43 : Fun := Go.Lib.M27 Go.Proofs.Ytcpfgjkhjadgoaa.sa.F0
theorem v43 : IsFun Try.prog 43 m43 := ⟨_, Try.func43, by kernel_rfl, by kernel_rfl⟩
def m44 : Fun := Go.Lib.M9 Go.Proofs.Ytcpfgjkhjadgoaa.sa.F0
theorem v44 : IsFun Try.prog 44 m44 := ⟨_, Try.func44, by kernel_rfl, by kernel_rfl⟩
def m45 : Fun := Go.Lib.M8 Go.Proofs.Ytcpfgjkhjadgoaa.sa.F0
theorem v45 : IsFun Try.prog 45 m45 := ⟨_, Try.func45, by kernel_rfl, by kernel_rfl⟩
def m46 : Fun := Go.Lib.M10 Go.Proofs.Ytcpfgjkhjadgoaa.sa.F0
theorem v46 : IsFun Try.prog 46 m46 := ⟨_, Try.func46, by kernel_rfl, by kernel_rfl⟩
end Go.Proofs.Ytcpfgjkhjadgoaa
end

section
set_option maxRecDepth 100000
namespace Go.Proofs.Ytcpfgjkhjadgoaa
open Go.Vm
def m47 : Fun := Go.Lib.M11 Go.Proofs.Ytcpfgjkhjadgoaa.sa.F0
theorem v47 : IsFun Try.prog 47 m47 := ⟨_, Try.func47, by kernel_rfl, by kernel_rfl⟩
def m48 : Fun := Go.Lib.M12 Go.Proofs.Ytcpfgjkhjadgoaa.sa.F0
theorem v48 : IsFun Try.prog 48 m48 := ⟨_, Try.func48, by kernel_rfl, by kernel_rfl⟩
def m49 : Fun := Go.Lib.M14 Go.Proofs.Ytcpfgjkhjadgoaa.sa.F0
theorem v49 : IsFun Try.prog 49 m49 := ⟨_, Try.func49, by kernel_rfl, by kernel_rfl⟩
def m50 : Fun := Go.Lib.M42 Go.Proofs.Ytcpfgjkhjadgoaa.sa.F0
theorem v50 : IsFun Try.prog 50 m50 := ⟨_, Try.func50, by kernel_rfl, by kernel_rfl⟩
def m51 : Fun := Go.Lib.M50 Go.Proofs.Ytcpfgjkhjadgoaa.sa.F0
theorem v51 : IsFun Try.prog 51 m51 := ⟨_, Try.func51, by kernel_rfl, by kernel_rfl⟩
def m52 : Fun := Go.Lib.M67 Go.Proofs.Ytcpfgjkhjadgoaa.sa.F0
theorem v52 : IsFun Try.prog 52 m52 := ⟨_, Try.func52, by kernel_rfl, by kernel_rfl⟩
def m53 : Fun := Go.Lib.M66 Go.Proofs.Ytcpfgjkhjadgoaa.sa.F0
theorem v53 : IsFun Try.prog 53 m53 := ⟨_, Try.func53, by kernel_rfl, by kernel_rfl⟩
def m54 : Fun := Go.Lib.M68 Go.Proofs.Ytcpfgjkhjadgoaa.sa.F0
theorem v54 : IsFun Try.prog 54 m54 := ⟨_, Try.func54, by kernel_rfl, by kernel_rfl⟩
def m55 : Fun := Go.Lib.M69 Go.Proofs.Ytcpfgjkhjadgoaa.sa.F0
theorem v55 : IsFun Try.prog 55 m55 := ⟨_, Try.func55, by kernel_rfl, by kernel_rfl⟩
def m56 : Fun := Go.Lib.M79 Go.Proofs.Ytcpfgjkhjadgoaa.sa.F0
theorem v56 : IsFun Try.prog 56 m56 := ⟨_, Try.func56, by kernel_rfl, by kernel_rfl⟩
def m57 : Fun := Go.Lib.M78 Go.Proofs.Ytcpfgjkhjadgoaa.sa.F0
theorem v57 : IsFun Try.prog 57 m57 := ⟨_, Try.func57, by kernel_rfl, by kernel_rfl⟩
def m58 : Fun := Go.Lib.M80 Go.Proofs.Ytcpfgjkhjadgoaa.sa.F0
theorem v58 : IsFun Try.prog 58 m58 := ⟨_, Try.func58, by kernel_rfl, by kernel_rfl⟩
def m59 : Fun := Go.Lib.M81 Go.Proofs.Ytcpfgjkhjadgoaa.sa.F0
theorem v59 : IsFun Try.prog 59 m59 := ⟨_, Try.func59, by kernel_rfl, by kernel_rfl⟩
def m60 : Fun := Go.Lib.M82 Go.Proofs.Ytcpfgjkhjadgoaa.sa.F0
theorem v60 : IsFun Try.prog 60 m60 := ⟨_, Try.func60, by kernel_rfl, by kernel_rfl⟩
def m61 : Fun := Go.Lib.M77 Go.Proofs.Ytcpfgjkhjadgoaa.sa.F0
theorem v61 : IsFun Try.prog 61 m61 := ⟨_, Try.func61, by kernel_rfl, by kernel_rfl⟩
def m62 : Fun := Go.Lib.M43 Go.Proofs.Ytcpfgjkhjadgoaa.sa.F0
theorem v62 : IsFun Try.prog 62 m62 := ⟨_, Try.func62, by kernel_rfl, by kernel_rfl⟩
def m63 : Fun := Go.Lib.M44 Go.Proofs.Ytcpfgjkhjadgoaa.sa.F0
theorem v63 : IsFun Try.prog 63 m63 := ⟨_, Try.func63, by kernel_rfl, by kernel_rfl⟩
def m64 : Fun := Go.Lib.M28 Go.Proofs.Ytcpfgjkhjadgoaa.sa.F0
theorem v64 : IsFun Try.prog 64 m64 := ⟨_, Try.func64, by kernel_rfl, by kernel_rfl⟩
def m65 : Fun := Go.Lib.M29 Go.Proofs.Ytcpfgjkhjadgoaa.sa.F0
theorem v65 : IsFun Try.prog 65 m65 := ⟨_, Try.func65, by kernel_rfl, by kernel_rfl⟩
def m66 : Fun := Go.Lib.M18 Go.Proofs.Ytcpfgjkhjadgoaa.sa.F0
theorem v66 : IsFun Try.prog 66 m66 := ⟨_, Try.func66, by kernel_rfl, by kernel_rfl⟩
def m67 : Fun := Go.Lib.M19 Go.Proofs.Ytcpfgjkhjadgoaa.sa.F0
theorem v67 : IsFun Try.prog 67 m67 := ⟨_, Try.func67, by kernel_rfl, by kernel_rfl⟩
def m71 : Fun := Go.Lib.M84 Go.Proofs.Ytcpfgjkhjadgoaa.sa.F0
theorem v71 : IsFun Try.prog 71 m71 := ⟨_, Try.func71, by kernel_rfl, by kernel_rfl⟩
def m72 : Fun := Go.Lib.M30 Go.Proofs.Ytcpfgjkhjadgoaa.sa.F0
theorem v72 : IsFun Try.prog 72 m72 := ⟨_, Try.func72, by kernel_rfl, by kernel_rfl⟩
def m73 : Fun := Go.Lib.M85 Go.Proofs.Ytcpfgjkhjadgoaa.sa.F0
theorem v73 : IsFun Try.prog 73 m73 := ⟨_, Try.func73, by kernel_rfl, by kernel_rfl⟩
def m74 : Fun := Go.Lib.M31 Go.Proofs.Ytcpfgjkhjadgoaa.sa.F0
theorem v74 : IsFun Try.prog 74 m74 := ⟨_, Try.func74, by kernel_rfl, by kernel_rfl⟩
def m75 : Fun := Go.Lib.M86 Go.Proofs.Ytcpfgjkhjadgoaa.sa.F0
theorem v75 : IsFun Try.prog 75 m75 := ⟨_, Try.func75, by kernel_rfl, by kernel_rfl⟩
end Go.Proofs.Ytcpfgjkhjadgoaa
end

section
set_option maxRecDepth 100000
namespace Go.Proofs.Ytcpfgjkhjadgoaa
open Go.Vm
def funs : T Fun := (.node (.node (.node (.node (.node (.node (.node .leaf (some m63) .leaf) (some m31) .leaf) (some m15) (.node .leaf (some m47) .leaf)) (some m7) (.node (.node (.node .leaf (some m71) .leaf) (some m39) .leaf) (some m23) (.node .leaf (some m55) .leaf))) none (.node (.node (.node (.node .leaf (some m67) .leaf) (some m35) .leaf) (some m19) (.node .leaf (some m51) .leaf)) (some m11) (.node (.node (.node .leaf (some m75) .leaf) (some m43) .leaf) (some m27) (.node .leaf (some m59) .leaf)))) none (.node (.node (.node (.node (.node .leaf (some m65) .leaf) (some m33) .leaf) (some m17) (.node .leaf (some m49) .leaf)) (some m9) (.node (.node (.node .leaf (some m73) .leaf) (some m41) .leaf) (some m25) (.node .leaf (some m57) .leaf))) (some m5) (.node (.node (.node .leaf (some m37) .leaf) (some m21) (.node .leaf (some m53) .leaf)) none (.node (.node .leaf (some m45) .leaf) (some m29) (.node .leaf (some m61) .leaf))))) none (.node (.node (.node (.node (.node (.node .leaf (some m64) .leaf) (some m32) .leaf) (some m16) (.node .leaf (some m48) .leaf)) none (.node (.node (.node .leaf (some m72) .leaf) (some m40) .leaf) (some m24) (.node .leaf (some m56) .leaf))) (some m4) (.node (.node (.node .leaf (some m36) .leaf) (some m20) (.node .leaf (some m52) .leaf)) (some m12) (.node (.node .leaf (some m44) .leaf) (some m28) (.node .leaf (some m60) .leaf)))) none (.node (.node (.node (.node (.node .leaf (some m66) .leaf) (some m34) .leaf) (some m18) (.node .leaf (some m50) .leaf)) (some m10) (.node (.node (.node .leaf (some m74) .leaf) (some m42) .leaf) (some m26) (.node .leaf (some m58) .leaf))) (some m6) (.node (.node (.node .leaf (some m38) .leaf) (some m22) (.node .leaf (some m54) .leaf)) (some m14) (.node (.node .leaf (some m46) .leaf) none (.node .leaf (some m62) .leaf))))))
def ints : List Nat := [2,3,5,6,12,21,47,65,98,132,133,134,137,138]
theorem intsOk : IntsOk Try.prog ints := ints_of (by kernel_rfl)
def mach (tab : Tab) : Vm.Prog := { funs := funs, env := ⟨tab, ints⟩ }
theorem valid (tab : Tab) : Valid Try.prog (mach tab) := valid_of (show AllT (IsFun Try.prog) 1 0 funs from ⟨trivial, ⟨trivial, ⟨trivial, ⟨v7, ⟨v15, ⟨v31, ⟨v63, trivial, trivial⟩, trivial⟩, ⟨v47, trivial, trivial⟩⟩, ⟨v23, ⟨v39, ⟨v71, trivial, trivial⟩, trivial⟩, ⟨v55, trivial, trivial⟩⟩⟩, ⟨v11, ⟨v19, ⟨v35, ⟨v67, trivial, trivial⟩, trivial⟩, ⟨v51, trivial, trivial⟩⟩, ⟨v27, ⟨v43, ⟨v75, trivial, trivial⟩, trivial⟩, ⟨v59, trivial, trivial⟩⟩⟩⟩, ⟨v5, ⟨v9, ⟨v17, ⟨v33, ⟨v65, trivial, trivial⟩, trivial⟩, ⟨v49, trivial, trivial⟩⟩, ⟨v25, ⟨v41, ⟨v73, trivial, trivial⟩, trivial⟩, ⟨v57, trivial, trivial⟩⟩⟩, ⟨trivial, ⟨v21, ⟨v37, trivial, trivial⟩, ⟨v53, trivial, trivial⟩⟩, ⟨v29, ⟨v45, trivial, trivial⟩, ⟨v61, trivial, trivial⟩⟩⟩⟩⟩, ⟨trivial, ⟨v4, ⟨trivial, ⟨v16, ⟨v32, ⟨v64, trivial, trivial⟩, trivial⟩, ⟨v48, trivial, trivial⟩⟩, ⟨v24, ⟨v40, ⟨v72, trivial, trivial⟩, trivial⟩, ⟨v56, trivial, trivial⟩⟩⟩, ⟨v12, ⟨v20, ⟨v36, trivial, trivial⟩, ⟨v52, trivial, trivial⟩⟩, ⟨v28, ⟨v44, trivial, trivial⟩, ⟨v60, trivial, trivial⟩⟩⟩⟩, ⟨v6, ⟨v10, ⟨v18, ⟨v34, ⟨v66, trivial, trivial⟩, trivial⟩, ⟨v50, trivial, trivial⟩⟩, ⟨v26, ⟨v42, ⟨v74, trivial, trivial⟩, trivial⟩, ⟨v58, trivial, trivial⟩⟩⟩, ⟨v14, ⟨v22, ⟨v38, trivial, trivial⟩, ⟨v54, trivial, trivial⟩⟩, ⟨trivial, ⟨v46, trivial, trivial⟩, ⟨v62, trivial, trivial⟩⟩⟩⟩⟩⟩)
end Go.Proofs.Ytcpfgjkhjadgoaa
end

section
set_option maxRecDepth 100000
namespace Go.Proofs.Ytcpfgjkhjadgoaa
open Go.Vm
theorem x68 : IsExt Try.prog (68, .cmp) := ⟨_, Try.func68, by kernel_rfl, by kernel_rfl, by kernel_rfl, by kernel_rfl⟩
theorem x69 : IsExt Try.prog (69, .add64) := ⟨_, Try.func69, by kernel_rfl, by kernel_rfl, by kernel_rfl, by kernel_rfl⟩
def exts : List (Nat × Ek) := [(68, .cmp), (69, .add64)]
theorem extsOk : ∀ x, x ∈ exts → IsExt Try.prog x := by
  intro x hx
  unfold exts at hx
  rcases List.mem_cons.1 hx with rfl | hx
  · exact x68
  rcases List.mem_cons.1 hx with rfl | hx
  · exact x69
  cases hx
end Go.Proofs.Ytcpfgjkhjadgoaa
end

section
set_option maxRecDepth 100000
namespace Go.Proofs.Ytcpfgjkhjadgoaa.sa
open Go.Vm Go.Dv Go.Lib
def pr : Vm.Prog := mach []
def xt : Ext := orX (constX [16]) (extBy exts)
theorem has1 : Go.Dv.Has pr xt F0 1 Go.Lib.M1 := ⟨by kernel_rfl, fun _ _ => rfl⟩
theorem has2 : Go.Dv.Has pr xt F0 2 Go.Lib.M2 := ⟨by kernel_rfl, fun _ _ => rfl⟩
theorem has3 : Go.Dv.Has pr xt F0 3 Go.Lib.M3 := ⟨by kernel_rfl, fun _ _ => rfl⟩
theorem has4 : Go.Dv.Has pr xt F0 4 Go.Lib.M4 := ⟨by kernel_rfl, fun _ _ => rfl⟩
theorem has5 : Go.Dv.Has pr xt F0 5 Go.Lib.M5 := ⟨by kernel_rfl, fun _ _ => rfl⟩
theorem has8 : Go.Dv.Has pr xt F0 8 Go.Lib.M8 := ⟨by kernel_rfl, fun _ _ => rfl⟩
theorem has9 : Go.Dv.Has pr xt F0 9 Go.Lib.M9 := ⟨by kernel_rfl, fun _ _ => rfl⟩
theorem has10 : Go.Dv.Has pr xt F0 10 Go.Lib.M10 := ⟨by kernel_rfl, fun _ _ => rfl⟩
theorem has11 : Go.Dv.Has pr xt F0 11 Go.Lib.M11 := ⟨by kernel_rfl, fun _ _ => rfl⟩
theorem has12 : Go.Dv.Has pr xt F0 12 Go.Lib.M12 := ⟨by kernel_rfl, fun _ _ => rfl⟩
theorem has13 : Go.Dv.Has pr xt F0 13 Go.Lib.M13 := ⟨by kernel_rfl, fun _ _ => rfl⟩
theorem has14 : Go.Dv.Has pr xt F0 14 Go.Lib.M14 := ⟨by kernel_rfl, fun _ _ => rfl⟩
theorem has18 : Go.Dv.Has pr xt F0 18 Go.Lib.M18 := ⟨by kernel_rfl, fun _ _ => rfl⟩
theorem has19 : Go.Dv.Has pr xt F0 19 Go.Lib.M19 := ⟨by kernel_rfl, fun _ _ => rfl⟩
theorem has22 : Go.Dv.Has pr xt F0 22 Go.Lib.M22 := ⟨by kernel_rfl, fun _ _ => rfl⟩
theorem has23 : Go.Dv.Has pr xt F0 23 Go.Lib.M23 := ⟨by kernel_rfl, fun _ _ => rfl⟩
theorem has24 : Go.Dv.Has pr xt F0 24 Go.Lib.M24 := ⟨by kernel_rfl, fun _ _ => rfl⟩
theorem has25 : Go.Dv.Has pr xt F0 25 Go.Lib.M25 := ⟨by kernel_rfl, fun _ _ => rfl⟩
theorem has26 : Go.Dv.Has pr xt F0 26 Go.Lib.M26 := ⟨by kernel_rfl, fun _ _ => rfl⟩
theorem has27 : Go.Dv.Has pr xt F0 27 Go.Lib.M27 := ⟨by kernel_rfl, fun _ _ => rfl⟩
theorem has28 : Go.Dv.Has pr xt F0 28 Go.Lib.M28 := ⟨by kernel_rfl, fun _ _ => rfl⟩
theorem has29 : Go.Dv.Has pr xt F0 29 Go.Lib.M29 := ⟨by kernel_rfl, fun _ _ => rfl⟩
theorem has30 : Go.Dv.Has pr xt F0 30 Go.Lib.M30 := ⟨by kernel_rfl, fun _ _ => rfl⟩
theorem has31 : Go.Dv.Has pr xt F0 31 Go.Lib.M31 := ⟨by kernel_rfl, fun _ _ => rfl⟩
theorem has32 : Go.Dv.Has pr xt F0 32 Go.Lib.M32 := ⟨by kernel_rfl, fun _ _ => rfl⟩
theorem has33 : Go.Dv.Has pr xt F0 33 Go.Lib.M33 := ⟨by kernel_rfl, fun _ _ => rfl⟩
theorem has34 : Go.Dv.Has pr xt F0 34 Go.Lib.M34 := ⟨by kernel_rfl, fun _ _ => rfl⟩
theorem has35 : Go.Dv.Has pr xt F0 35 Go.Lib.M35 := ⟨by kernel_rfl, fun _ _ => rfl⟩
theorem has36 : Go.Dv.Has pr xt F0 36 Go.Lib.M36 := ⟨by kernel_rfl, fun _ _ => rfl⟩
theorem has37 : Go.Dv.Has pr xt F0 37 Go.Lib.M37 := ⟨by kernel_rfl, fun _ _ => rfl⟩
theorem has38 : Go.Dv.Has pr xt F0 38 Go.Lib.M38 := ⟨by kernel_rfl, fun _ _ => rfl⟩
theorem has39 : Go.Dv.Has pr xt F0 39 Go.Lib.M39 := ⟨by kernel_rfl, fun _ _ => rfl⟩
theorem has40 : Go.Dv.Has pr xt F0 40 Go.Lib.M40 := ⟨by kernel_rfl, fun _ _ => rfl⟩
theorem has41 : Go.Dv.Has pr xt F0 41 Go.Lib.M41 := ⟨by kernel_rfl, fun _ _ => rfl⟩
theorem has42 : Go.Dv.Has pr xt F0 42 Go.Lib.M42 := ⟨by kernel_rfl, fun _ _ => rfl⟩
theorem has43 : Go.Dv.Has pr xt F0 43 Go.Lib.M43 := ⟨by kernel_rfl, fun _ _ => rfl⟩
theorem has44 : Go.Dv.Has pr xt F0 44 Go.Lib.M44 := ⟨by kernel_rfl, fun _ _ => rfl⟩
theorem has48 : Go.Dv.Has pr xt F0 48 Go.Lib.M48 := ⟨by kernel_rfl, fun _ _ => rfl⟩
theorem has49 : Go.Dv.Has pr xt F0 49 Go.Lib.M49 := ⟨by kernel_rfl, fun _ _ => rfl⟩
theorem has50 : Go.Dv.Has pr xt F0 50 Go.Lib.M50 := ⟨by kernel_rfl, fun _ _ => rfl⟩
theorem has65 : Go.Dv.Has pr xt F0 65 Go.Lib.M65 := ⟨by kernel_rfl, fun _ _ => rfl⟩
theorem has66 : Go.Dv.Has pr xt F0 66 Go.Lib.M66 := ⟨by kernel_rfl, fun _ _ => rfl⟩
theorem has67 : Go.Dv.Has pr xt F0 67 Go.Lib.M67 := ⟨by kernel_rfl, fun _ _ => rfl⟩
theorem has68 : Go.Dv.Has pr xt F0 68 Go.Lib.M68 := ⟨by kernel_rfl, fun _ _ => rfl⟩
theorem has69 : Go.Dv.Has pr xt F0 69 Go.Lib.M69 := ⟨by kernel_rfl, fun _ _ => rfl⟩
theorem has70 : Go.Dv.Has pr xt F0 70 Go.Lib.M70 := ⟨by kernel_rfl, fun _ _ => rfl⟩
theorem has71 : Go.Dv.Has pr xt F0 71 Go.Lib.M71 := ⟨by kernel_rfl, fun _ _ => rfl⟩
theorem has72 : Go.Dv.Has pr xt F0 72 Go.Lib.M72 := ⟨by kernel_rfl, fun _ _ => rfl⟩
theorem has73 : Go.Dv.Has pr xt F0 73 Go.Lib.M73 := ⟨by kernel_rfl, fun _ _ => rfl⟩
theorem has74 : Go.Dv.Has pr xt F0 74 Go.Lib.M74 := ⟨by kernel_rfl, fun _ _ => rfl⟩
theorem has75 : Go.Dv.Has pr xt F0 75 Go.Lib.M75 := ⟨by kernel_rfl, fun _ _ => rfl⟩
theorem has76 : Go.Dv.Has pr xt F0 76 Go.Lib.M76 := ⟨by kernel_rfl, fun _ _ => rfl⟩
theorem has77 : Go.Dv.Has pr xt F0 77 Go.Lib.M77 := ⟨by kernel_rfl, fun _ _ => rfl⟩
theorem has78 : Go.Dv.Has pr xt F0 78 Go.Lib.M78 := ⟨by kernel_rfl, fun _ _ => rfl⟩
theorem has79 : Go.Dv.Has pr xt F0 79 Go.Lib.M79 := ⟨by kernel_rfl, fun _ _ => rfl⟩
theorem has80 : Go.Dv.Has pr xt F0 80 Go.Lib.M80 := ⟨by kernel_rfl, fun _ _ => rfl⟩
theorem has81 : Go.Dv.Has pr xt F0 81 Go.Lib.M81 := ⟨by kernel_rfl, fun _ _ => rfl⟩
theorem has82 : Go.Dv.Has pr xt F0 82 Go.Lib.M82 := ⟨by kernel_rfl, fun _ _ => rfl⟩
theorem has84 : Go.Dv.Has pr xt F0 84 Go.Lib.M84 := ⟨by kernel_rfl, fun _ _ => rfl⟩
theorem has85 : Go.Dv.Has pr xt F0 85 Go.Lib.M85 := ⟨by kernel_rfl, fun _ _ => rfl⟩
theorem has86 : Go.Dv.Has pr xt F0 86 Go.Lib.M86 := ⟨by kernel_rfl, fun _ _ => rfl⟩
theorem has97 : Go.Dv.Has pr xt F0 97 Go.Lib.M97 := ⟨by kernel_rfl, fun _ _ => rfl⟩
theorem has99 : Go.Dv.Has pr xt F0 99 Go.Lib.M99 := ⟨by kernel_rfl, fun _ _ => rfl⟩
theorem has104 : Go.Dv.Has pr xt F0 104 Go.Lib.M104 := ⟨by kernel_rfl, fun _ _ => rfl⟩
end Go.Proofs.Ytcpfgjkhjadgoaa.sa
end

section
set_option maxRecDepth 100000
namespace Go.Proofs.Ytcpfgjkhjadgoaa.sa
open Go.Vm
theorem awakeR : runs (mach []) (extBy exts) 1000000 16 [] Try.prog.globals.size = true := by decide +kernel
end Go.Proofs.Ytcpfgjkhjadgoaa.sa
end

section
set_option maxRecDepth 100000
namespace Go.Proofs.Ytcpfgjkhjadgoaa.sa
open Go.Vm Go.Dv Go.Lib
theorem hawake : FnD pr xt (F0 107) [] (.lit (.bool true)) := by
  intro H ψ S h vs s k
  simp only [VDl] at k
  subst k
  refine wpc_ext (v := .bool true) (h' := h) rfl ⟨ψ, S, _, H, .refl, s, ?_, rfl, rfl⟩
  simp [VD, atomV]
theorem x20 : ∀ args h, xt (F0 20) args h = extV .cmp args h := fun _ _ => rfl
theorem x45 : ∀ args h, xt (F0 45) args h = extV .add64 args h := fun _ _ => rfl
theorem hschm : HSchmC pr xt F0 := ⟨has1, has2, has3, has4, has5, has8, has9, has10, has11, has12, has13, has14, has18, has19, x20⟩
theorem hlaw6 : HLaw6 pr xt F0 := ⟨⟨⟨has23, has25⟩, has24⟩, has22⟩
theorem hsrt : HSrt pr xt F0 := ⟨has26, has27, has28, has29, has30, has31⟩
theorem haggr : HAggr pr xt F0 := ⟨hsrt, hschm, has32, has33, has34, has35, has36, has37, has38, has39, has40, has41, has42, has43, has44⟩
theorem hsame6 : HSame6 pr xt F0 := ⟨⟨has49, has50⟩, has48⟩
theorem hpred : HPred pr xt F0 := ⟨hschm, has65, has66, has67, has68, has69⟩
theorem hmodl : HModl pr xt F0 := ⟨haggr, hpred, x45, has70, has71, has72, has73, has74, has75, has76, has77, has78, has79, has80, has81, has82⟩
theorem hpredl : HPredL pr xt F0 := ⟨⟨has23, has25⟩, has99⟩
theorem hlaw15 : HLaw15 pr xt F0 := ⟨hpredl, ⟨⟨has23, has25⟩, has24⟩, has97⟩
theorem hlaw : HLaw17o pr xt F0 := ⟨hmodl, hlaw15, hlaw6, hsame6, hawake, has104⟩
theorem mixed : Try.prog.follows .mixedOrders = true := by kernel_rfl
theorem xt_ok {env : Env} : CallOk Try.prog env xt := orX_ok (constX_ok mixed (valid []) (extBy_rises _) (extBy_ok extsOk) rfl intsOk (n := 1000000) fun f hf => by
  rcases List.mem_cons.1 hf with rfl | hf
  · exact ⟨by kernel_rfl, awakeR⟩
  · cases hf) (extBy_ok extsOk)
theorem xt_rises : Rises xt := orX_rises (constX_rises _) (extBy_rises _)
end Go.Proofs.Ytcpfgjkhjadgoaa.sa
end
