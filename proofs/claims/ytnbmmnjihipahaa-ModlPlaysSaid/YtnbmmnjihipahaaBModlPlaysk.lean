/-
  Texts that the claim's last one rests on, joined.
-/
import Derived.Test.YtnbmmnjihipahaaBModlPlaysj
import Derived.Test.YtnbmmnjihipahaaBModlPlaysi
import Derived.Test.YtnbmmnjihipahaaBModlPlaysf
import Derived.Test.YtnbmmnjihipahaaBModlPlaysg
import Derived.Test.YtnbmmnjihipahaaRows
import Derived.Test.YtnbmmnjihipahaaBModlPlaysc

section
set_option maxRecDepth 10000
namespace Go.Lib
open Go.Vm Go.Dv Go.Srt
variable {p : Prog} {ext : Ext} {F : Nat → Nat}
attribute [-simp] bin_and bin_xor
structure HPredL (p : Prog) (ext : Ext) (F : Nat → Nat) : Prop where
  law6 : HLaw6 p ext F
  h99 : Has p ext F 99 M99
@[simp] def nilPr : List D := [.lit (.int .i64 0), .lit (.int .i64 0), .lit (.int .i64 0), .lit (.bool false), .lit (.int .i64 0), .lit (.int .i64 0), .lit .nilslice, .lit .nilslice]
def P7a (s : Sch) (m : Md) (l : List Int) (a d : Nat) (H : HpD) (n : Int) (fr : FrD) (H' : HpD) : Prop :=
  fr = [(1, intsD m l), (2, .lit (.int .i64 (a : Int))), (3, .lit (.int .i64 (d : Int))), (4, .rptr [schR s] 0), (8, .ptr H.next 0), (9, .lit (.int .i64 n))] ∧ H' = H.new (.cells nilPr false)
def P7b (s : Sch) (m : Md) (l : List Int) (a d : Nat) (H : HpD) (n k : Int) (fr : FrD) (H' : HpD) : Prop :=
  fr = [(1, intsD m l), (2, .lit (.int .i64 (a : Int))), (3, .lit (.int .i64 (d : Int))), (4, .rptr [schR s] 0), (8, .ptr H.next 0), (9, .lit (.int .i64 n)), (10, .lit (.int .i64 k))] ∧ H' = H.new (.cells nilPr false)
theorem VDl_last {h : Hp} {ψ : Nat → Option Nat} {S : Nat → Prop} {d : D} : ∀ {pre : List D} {l : List V}, VDl h ψ S (pre ++ [d]) l → ∃ l1 v, l = l1 ++ [v] ∧ VDl h ψ S pre l1 ∧ VD h ψ S d v
  | [], l, k => by
    simp only [List.nil_append, VDl] at k;obtain ⟨v, r, rfl, k, rfl⟩ := k;exact ⟨[], v, rfl, by simp only [VDl], k⟩
  | x :: pre, l, k => by
    simp only [List.cons_append, VDl] at k;obtain ⟨v, r, rfl, k1, k⟩ := k;obtain ⟨l1, w, rfl, k2, k3⟩ := VDl_last (pre := pre) k;exact ⟨v :: l1, w, rfl, by simp only [VDl]; exact ⟨v, l1, rfl, k1, k2⟩, k3⟩
theorem WeakV.aggLast {pre : List D} {d d2 : D} {H H2 : HpD} (k : WeakV d H d2 H2) : WeakV (.agg (pre ++ [d])) H (.agg (pre ++ [d2])) H2 := by
  intro ψ S hp v s kv;simp only [VD] at kv;obtain ⟨l, rfl, kl⟩ := kv;obtain ⟨l1, w, rfl, k1, k2⟩ := VDl_last kl;obtain ⟨ψ', S', x1, s1, k3⟩ := k ψ S hp w s k2;refine ⟨ψ', S', x1, s1, ?_⟩;simp only [VD];exact ⟨_, rfl, (VDl.mono x1 _ k1).append (by simp only [VDl]; exact ⟨w, [], rfl, k3, rfl⟩)⟩
theorem predF_eq {s : Sch} {l : List Int} {d a : Nat} : predF s l d a = predG s (numP l a) (kP d (numP l a)) (fun i => match d with | 0 => prT | d' + 1 => predF s l d' (3 * a + i + 1)) := by
  cases d <;> rfl
def head7 (k : Int) : List D := [.lit (.int .i64 k), .lit (.int .i64 0), .lit (.int .i64 0), .lit (.bool false), .lit (.int .i64 0), .lit (.int .i64 0), .lit .nilslice]
def P7I (H : HpD) (s : Sch) (m : Md) (l : List Int) (a d : Nat) (n k : Int) (sons : List Pr) (w : Nat) (fr : FrD) (H' : HpD) : Prop :=
  ∃ (i : Nat) (t : D), w = sons.length - i ∧ i ≤ sons.length ∧ fr = [(1, intsD m l), (2, .lit (.int .i64 (a : Int))), (3, .lit (.int .i64 (d : Int))), (4, .rptr [schR s] 0), (8, .ptr H.next 0), (9, .lit (.int .i64 n)), (12, .ptr (H.next + 1) 0), (13, .lit (.int .i64 (i : Int)))] ∧
    Gr ⟨H.next + 2, H'.blk⟩ H' 8 t ((sons.take i).map Pr.c) ∧ H'.blk (H.next + 1) = .cells (head7 k ++ [t]) false ∧ H'.blk H.next = .cells nilPr false ∧ Sub H H'
theorem fin_sons {H X : HpD} {t : D} {sons : List Pr} {kk : Int} {N : Nat} (hs : Dv.Sub H X) (g : Gr ⟨N, X.blk⟩ X 8 t (sons.map Pr.c)) (hN : H.next ≤ N) : Dv.Fin H (.agg (Pr.mk kk 0 0 zv sons).c) (.agg (head7 kk ++ [t])) X := by
  obtain ⟨H2, w, sub2, _⟩ := g.fin (underss_map (fun q => pr_unders q) _) (m := .p) (by simp);have hn2 := sub2.next;simp at hn2;exact ⟨H2, (WeakV.aggLast (pre := head7 _) w).trans (.le (by simp [head7, pr_c, Pr.kind, Pr.col, Pr.op, Pr.v, Pr.l, zv, D.le, byD, byE, prsD, D.less_refl])), ⟨by omega, fun x hx => by rw [sub2.blk x (by simp; omega), ← hs.blk x hx]⟩, by simp [D.under]⟩
theorem pred7_1 (L : HPredL p ext F) {s : Sch} {m : Md} {l : List Int} {a d : Nat} (hs0 : 0 < s.length) (hs : s.length < 1000) (ha : a < 1000000) (hd : d < 1000) (ih : ∀ d' a' : Nat, d = d' + 1 → 1 ≤ d' → a' ≤ 3 * a + 10 → FnD p ext (F 99) [schD s, intsD m l, .lit (.int .i64 (a' : Int)), .lit (.int .i64 (d' : Int))] (.agg (predF s l d' a').c)) : FnD p ext (F 99) [schD s, intsD m l, .lit (.int .i64 (a : Int)), .lit (.int .i64 (d : Int))] (.agg (predF s l d a).c) := by
  refine fn_of L.h99 (M := M99) rfl ok99 rfl fun H => sem_run 14 _ ?_;simp;refine sem_cut (P7a s m l a d H (numP l a)) (sem_run 9000 _ ?_) ?_
  · by_cases c : a < l.length
    · have hn : numP l a = l[a] := (by simp [numP, c]);rw [hn];simp [c];exact sem_ok ⟨rfl, rfl⟩
    · have hn : numP l a = wr .i64 ((a : Int) * 7919) := (by simp [numP, c]);rw [hn];simp [c];refine sem_as_ok [(1, intsD m l), (2, .lit (.int .i64 (a : Int))), (3, .lit (.int .i64 (d : Int))), (4, .rptr [schR s] 0), (8, .ptr H.next 0), (9, .lit (.int .i64 (wr .i64 ((a : Int) * 7919))))] (by simp [D.le_refl, intsD]) ?_;exact sem_ok ⟨rfl, rfl⟩
  rintro fr H1 ⟨rfl, rfl⟩;obtain ⟨n, hn⟩ : ∃ n, numP l a = n := ⟨_, rfl⟩;rw [hn];refine sem_run 9 _ ?_;simp;refine sem_cut (P7b s m l a d H n (kP d n)) (sem_run 9000 _ ?_) ?_
  · obtain ⟨q, hq, hq7⟩ := andI_small (a := n) (m := 7) (by simp);have hq' : andI n 7 = q := hq
    by_cases c : d ≤ 1
    · have c' : (d : Int) ≤ 1 := by omega
      by_cases c2 : 4 < q
      · have c2' : (4 : Int) < q := (by omega);have hk : kP d n = (q : Int) - 4 := (by unfold kP; rw [hq', if_pos ⟨c, by omega⟩]);have w : wr .i64 ((q : Int) - 4) = (q : Int) - 4 := (by rw [wr_of] <;> omega);rw [hk];simp [hq', c', c2', w];exact sem_ok ⟨rfl, rfl⟩
      · have c2' : ¬ (4 : Int) < q := (by omega);have hk : kP d n = (q : Int) := (by unfold kP; rw [hq', if_neg (by omega)]);rw [hk];simp [hq', c', c2'];refine sem_as_ok [(1, intsD m l), (2, .lit (.int .i64 (a : Int))), (3, .lit (.int .i64 (d : Int))), (4, .rptr [schR s] 0), (8, .ptr H.next 0), (9, .lit (.int .i64 n)), (10, .lit (.int .i64 (q : Int)))] (by simp [D.le_refl, intsD]) ?_;exact sem_ok ⟨rfl, rfl⟩
    · have c' : ¬ (d : Int) ≤ 1 := (by omega);have hk : kP d n = (q : Int) := (by unfold kP; rw [hq', if_neg (by omega)]);rw [hk];simp [hq', c'];refine sem_as_ok [(1, intsD m l), (2, .lit (.int .i64 (a : Int))), (3, .lit (.int .i64 (d : Int))), (4, .rptr [schR s] 0), (8, .ptr H.next 0), (9, .lit (.int .i64 n)), (10, .lit (.int .i64 (q : Int)))] (by simp [D.le_refl, intsD]) ?_;exact sem_ok ⟨rfl, rfl⟩
  rintro fr H1 ⟨rfl, rfl⟩;obtain ⟨k, hk, hk7, hk4⟩ := kP_at (d := d) (n := n);rw [hk];have hz : (s.length : Int) ≠ 0 := (by omega);have hsz : ¬ s.length = 0 := (by omega);have hc : Int.tmod (andI (shrI .i64 n 3) 255) (s.length : Int) = cP s n := rfl
  obtain ⟨c, hcn, hcl⟩ : ∃ c : Nat, cP s n = c ∧ c < s.length := by
    obtain ⟨q, hq, hq1⟩ := andI_small (a := shrI .i64 n 3) (m := 255) (by simp);have hq' : andI (shrI .i64 n 3) 255 = q := hq;refine ⟨q % s.length, ?_, Nat.mod_lt _ hs0⟩;unfold cP;rw [hq', Int.tmod_eq_emod_of_nonneg (by omega)]; omega
  refine sem_run 9000 _ ?_;simp [hsz, hc, hcn];have hF := predF_eq (s := s) (l := l) (d := d) (a := a);rw [hn, hk] at hF
  generalize hson : (fun i => match d with | 0 => prT | d' + 1 => predF s l d' (3 * a + i + 1)) = son at hF
  rw [hF]
  have hih : ∀ i : Nat, 1 < d → i ≤ 3 → FnD p ext (F 99) [schD s, intsD m l, .lit (.int .i64 (3 * (a : Int) + (i : Int) + 1)), .lit (.int .i64 ((d : Int) - 1))] (.agg (son i).c) := fun i hd hi => by
    obtain ⟨d', rfl⟩ : ∃ d', d = d' + 1 := ⟨d - 1, by omega⟩;have := ih d' (3 * a + i + 1) rfl (by omega) (by omega);rw [← hson];rw [show (((d' + 1 : Nat) : Int) - 1) = (d' : Int) by omega, show 3 * (a : Int) + (i : Int) + 1 = ((3 * a + i + 1 : Nat) : Int) by omega];exact this
  clear ih hson hF;have hkk : k = 0 ∨ k = 1 ∨ k = 5 ∨ k = 6 ∨ k = 7 ∨ k = 2 ∨ k = 3 ∨ k = 4 := (by omega);rcases hkk with rfl | rfl | h
  · simp;refine sem_ret ?_;simp [M99];exact .le (by repeat (first | exact Sub.refl | apply Sub.new | refine Sub.put ?_ (by first | omega | (simp only [put_next, new_next]; omega)))) (by simp [predG, prT, pr_c, Pr.kind, Pr.col, Pr.op, Pr.v, Pr.l, zv, D.le, byD, byE, prsD]) (by simp [D.under])
  · simp;refine sem_ret ?_;simp [M99];exact .le (by repeat (first | exact Sub.refl | apply Sub.new | refine Sub.put ?_ (by first | omega | (simp only [put_next, new_next]; omega)))) (by simp [predG, hcn, pr_c, Pr.kind, Pr.col, Pr.op, Pr.v, Pr.l, zv, D.le, byD, byE, prsD]) (by simp [D.under])
  · have hh : ((k = 5 ∨ k = 6) ∧ 1 < d) ∨ (k = 7 ∧ 1 < d) ∨ (k = 2 ∨ k = 3 ∨ k = 4) := (by omega);rcases hh with ⟨h5, hd⟩ | ⟨rfl, hd⟩ | h2
    · have w1 : wr .i64 ((d : Int) - 1) = (d : Int) - 1 := (by rw [wr_of] <;> omega);have hw : ∃ kk : Int, predG s n (k : Int) son = .mk kk 0 0 zv (sonsP n son) ∧ kk = (k : Int) - 1 := ⟨(k : Int) - 1, by rcases h5 with rfl | rfl <;> simp [predG], rfl⟩;obtain ⟨q, hq, hq3⟩ := andI_small (a := shrI .i64 n 11) (m := 3) (by simp);have hq' : andI (shrI .i64 n 11) 3 = q := hq;have hsl : (sonsP n son).length = q := (by simp [sonsP, hq']);have hsg : ∀ i, i < q → (sonsP n son)[i]? = some (son i) := fun i hi => (by simp [sonsP, hq', hi]);have g0 : ∀ HB : HpD, HB.next = H.next + 2 → Gr ⟨H.next + 2, HB.blk⟩ HB 8 (.lit .nilslice) (((sonsP n son).take 0).map Pr.c) := fun HB e => ⟨⟨by simp [e], fun _ _ => rfl⟩, by simp, .inl ⟨rfl, by simp⟩⟩;obtain ⟨kk, hG, hkk⟩ := hw;rw [hG];clear hG;generalize sonsP n son = sons at hsl hsg g0;rcases h5 with rfl | rfl
      case' inl => simp [show wr .i64 9 = 9 from rfl, show wr .i64 4 = 4 from rfl]
      case' inl => obtain rfl : kk = 4 := by omega
      case' inl => refine sem_loop (P7I H s m l a d n 4 sons) ?_ (k := sons.length) ⟨0, .lit .nilslice, by simp, by simp, by simp, g0 _ (by simp), by simp [head7], by simp, (by repeat (first | exact Sub.refl | apply Sub.new | refine Sub.put ?_ (by first | omega | (simp only [put_next, new_next]; omega))))⟩
      case' inr => simp [show wr .i64 10 = 10 from rfl, show wr .i64 5 = 5 from rfl]
      case' inr => obtain rfl : kk = 5 := by omega
      case' inr => refine sem_loop (P7I H s m l a d n 5 sons) ?_ (k := sons.length) ⟨0, .lit .nilslice, by simp, by simp, by simp, g0 _ (by simp), by simp [head7], by simp, (by repeat (first | exact Sub.refl | apply Sub.new | refine Sub.put ?_ (by first | omega | (simp only [put_next, new_next]; omega))))⟩
      all_goals
        rintro w fr H' ⟨i, t, rfl, hi, rfl, g, hb, hb8, hsub⟩;have hnx := g.sub.next;simp at hnx;refine sem_run 9000 _ ?_;simp
        by_cases c : i < sons.length
        · have ci : (i : Int) < (q : Int) := (by omega);have w2 : wr .i64 (wr .i64 (3 * (a : Int)) + (i : Int)) = 3 * (a : Int) + (i : Int) := (by rw [wr_of (n := 3 * (a : Int)) (by omega) (by omega), wr_of] <;> omega);have w3 : wr .i64 (3 * (a : Int) + (i : Int) + 1) = 3 * (a : Int) + (i : Int) + 1 := (by rw [wr_of] <;> omega);have wi : wr .i64 ((i : Int) + 1) = ((i + 1 : Nat) : Int) := (by rw [wr_of] <;> omega);simp [hq', ci, w1, w2, w3];refine sem_dfn (hih i hd (by omega)) (by first | exact D.les_refl _ | simp) (sem_run 9000 _ ?_)
          have hl1 : H.next + 1 < H'.next := by omega
          have hrg : rigid t = true := by
            rcases g.at_ with ⟨rfl, _⟩ | ⟨b, ex, el0, rfl, _⟩ <;> rfl
          have hfar : ∀ x, t.hasB x → H.next + 2 ≤ x ∧ x < H'.next := fun x hx => g.far hx;simp [hb, hl1, head7, hrg];rw [appendD_slice1 (b := H'.next) (cs := (son i).c) (ro := false) (by simp) (by simp)];refine sem_push (g.rest (by simp) fun x hx => by rw [new_blk, if_neg (by have := (hfar x hx).2; omega)]) (by simp) (by simp) (roomyD (by simp; omega) (by simp; omega)) fun t' H2 g2 k2 n2 => ?_
          have b12 : H2.blk (H.next + 1) = H'.blk (H.next + 1) := by
            rw [k2 _ (by simp; omega) (fun h => by have := (hfar _ h).1; omega), new_blk, if_neg (by omega)]
          rw [hb] at b12
          have b8 : H2.blk H.next = .cells nilPr false := by
            rw [k2 _ (by simp; omega) (fun h => by have := (hfar _ h).1; omega), new_blk, if_neg (by omega), hb8]
          have hrg2 : cellsD t' = some [t'] ∧ flatD t' = true := by
            rcases g2.at_ with ⟨rfl, _⟩ | ⟨b, ex, el0, rfl, _⟩ <;> exact ⟨rfl, rfl⟩
          obtain ⟨n2, _⟩ := n2;simp at n2;have l12 : H.next + 1 < H2.next := (by omega);simp [b12, head7, hrg2.1, hrg2.2];refine sem_ok ?_;have hdrop : sons.take (i + 1) = sons.take i ++ [son i] := (by rw [List.take_add_one, hsg i (by omega)]; rfl);refine ⟨sons.length - (i + 1), by omega, i + 1, t', rfl, by omega, by rw [wi], ?_, by simp [head7], by simp [b8], ⟨by simp; omega, fun x hx => ?_⟩⟩
          · rw [hdrop];have g3 := fun B => g2.rest (H3 := H2.put (H.next + 1) B) (by simp) fun x hx => (by rw [put_blk, if_neg (by have := (g2.far hx).1; simp at this; omega)]);simpa using g3 _
          · rw [put_blk, if_neg (by omega), k2 x (by simp; have := hsub.next; omega) (fun h => by have := (hfar _ h).1; omega), new_blk, if_neg (by omega), hsub.blk x hx]
        · have : i = sons.length := (by omega);subst this
          have ci : ¬ ((sons.length : Nat) : Int) < (q : Int) := by omega
          have hft : flatD t = true := by
            rcases g.at_ with ⟨rfl, _⟩ | ⟨b, ex, el0, rfl, _⟩ <;> rfl
          simp [hq', ci];refine sem_exit (sem_run 9000 _ ?_);have hl1 : H.next + 1 < H'.next := (by omega);have hl0 : H.next < H'.next := (by omega);simp [hb, hb8, head7, hft];refine sem_ret ?_;simp [M99];rw [List.take_length] at g;exact fin_sons (N := H.next + 2) (hsub.put (Nat.le_refl _)) (g.rest (by simp) fun x hx => by rw [put_blk, if_neg (by have := (g.far hx).1; simp at this; omega)]) (by omega)
    · have w1 : wr .i64 ((d : Int) - 1) = (d : Int) - 1 := (by rw [wr_of] <;> omega);have w2 : wr .i64 (wr .i64 (3 * (a : Int)) + 1) = 3 * (a : Int) + 1 := (by rw [wr_of (n := 3 * (a : Int)) (by omega) (by omega), wr_of] <;> omega);have h7 := hih 0 hd (by omega);rw [show 3 * (a : Int) + ((0 : Nat) : Int) + 1 = 3 * (a : Int) + 1 by omega] at h7;simp [w1, w2];refine sem_fn h7 (by first | exact D.les_refl _ | simp) (sem_run 9000 _ ?_);simp;refine sem_ret ?_;simp [M99];rw [show predG s n 7 son = .mk 6 0 0 zv [son 0] by simp [predG]];refine fin_sons (N := H.next + 1) (by repeat (first | exact Sub.refl | apply Sub.new | refine Sub.put ?_ (by first | omega | (simp only [put_next, new_next]; omega)))) ⟨⟨by simp, fun _ _ => rfl⟩, by simp, .inr ⟨H.next + 1, true, [(son 0).c], by simp, by simp, by simp, by simp, D.less_refl _⟩⟩ (by omega)
    · obtain ⟨cl, hcl⟩ : ∃ cl, s[c]? = some cl := ⟨s[c], by simp⟩;have hG : predG s n (k : Int) son = leafP s n := (by rcases h2 with rfl | rfl | rfl <;> simp [predG]);rw [hG]
      have hop : ∃ o : Int, Int.tmod (andI (shrI .i64 n 17) 255) 6 = o ∧ wr .i64 (o + 1) = o + 1 := by
        obtain ⟨q, hq, hq1⟩ := andI_small (a := shrI .i64 n 17) (m := 255) (by simp);have hq' : andI (shrI .i64 n 17) 255 = q := hq;refine ⟨_, rfl, ?_⟩;rw [hq', Int.tmod_eq_emod_of_nonneg (by omega), wr_of] <;> omega
      obtain ⟨o, ho, wo⟩ := hop;have hfl : ∀ v : Vl, flatsD (v.c ++ [.lit .nilslice]) = true := fun v => rfl;have hsp : spliceD cl.c 2 [.lit (.bool false)] = Cl.c ⟨cl.name, cl.kind, false⟩ := rfl
      have hleaf : (leafP s n).c = [.lit (.int .i64 2), .lit (.int .i64 (c : Int)), .lit (.int .i64 (o + 1)), .lit (.bool (vP s n).null), .lit (.int .i64 (vP s n).kind), .lit (.int .i64 (vP s n).n), byD (vP s n).bytes, prsD []] := by
        rw [pr_c]; simp [leafP, Pr.kind, Pr.col, Pr.op, Pr.v, Pr.l, hcn, ho]
      rw [hleaf]
      by_cases hc0 : c = 0
      · have hv : vP s n = nV (andI (shrI .i64 n 11) 15) := (by unfold vP; rw [if_pos (by omega)]);rw [hv];rcases h2 with rfl | rfl | rfl
        all_goals
          simp [hcl, hsp, -getElem?_pos];refine sem_fn (law6_value L.law6 (c := ⟨cl.name, cl.kind, false⟩) (n := shrI .i64 n 11)) (by first | exact D.les_refl _ | simp) (sem_run 9000 _ ?_);simp [hc0, ho, wo];refine sem_ret ?_;simp [M99];exact .le (by repeat (first | exact Sub.refl | apply Sub.new | refine Sub.put ?_ (by first | omega | (simp only [put_next, new_next]; omega)))) (by simp [nV, D.le, byD, byE, prsD]) (by simp [D.under])
      · have hv : vP s n = valF ⟨cl.name, cl.kind, false⟩ (shrI .i64 n 11) := by
          unfold vP; rw [if_neg (by omega), hcn]; simp [hcl]
        rw [hv];rcases h2 with rfl | rfl | rfl
        all_goals
          simp [hcl, hsp, -getElem?_pos];refine sem_fn (law6_value L.law6 (c := ⟨cl.name, cl.kind, false⟩) (n := shrI .i64 n 11)) (by first | exact D.les_refl _ | simp) (sem_run 9000 _ ?_);simp [hc0, ho, wo, hfl];refine sem_ret ?_;simp [M99, Vl.c];exact .le (by repeat (first | exact Sub.refl | apply Sub.new | refine Sub.put ?_ (by first | omega | (simp only [put_next, new_next]; omega)))) (by simp [D.le, D.le_refl, prsD]) (by simp [D.under])
theorem pred7 (L : HPredL p ext F) {s : Sch} {m : Md} {l : List Int} (hs0 : 0 < s.length) (hs : s.length < 1000) : ∀ {d a : Nat}, d < 1000 → (a + 20) * 4 ^ d < 1000000 → FnD p ext (F 99) [schD s, intsD m l, .lit (.int .i64 (a : Int)), .lit (.int .i64 (d : Int))] (.agg (predF s l d a).c)
  | 0, a, hd, ha => pred7_1 L hs0 hs (by simp at ha; omega) (by omega) fun d' a' e => by omega
  | d + 1, a, hd, ha => pred7_1 L hs0 hs (by have := Nat.mul_le_mul_left (a + 20) (Nat.one_le_two_pow (n := 2 * (d + 1))); rw [Nat.pow_mul, show (2 : Nat) ^ 2 = 4 from rfl] at this; omega) (by omega) fun d' a' e h1 h2 => by
    obtain rfl : d' = d := (by omega);refine pred7 L hs0 hs (by omega) (Nat.lt_of_le_of_lt ?_ ha);rw [Nat.pow_succ, Nat.mul_comm (4 ^ d') 4, ← Nat.mul_assoc];exact Nat.mul_le_mul_right _ (by omega)
end Go.Lib
end

section
set_option maxRecDepth 10000
namespace Go.Lib
open Go.Vm Go.Dv Go.Srt
variable {p : Prog} {ext : Ext} {F : Nat → Nat}
attribute [-simp] bin_and bin_xor
structure HLaw15 (p : Prog) (ext : Ext) (F : Nat → Nat) : Prop where
  pr : HPredL p ext F
  h97 : Has p ext F 97 M97
@[simp] def nilOp : List D := [.lit (.int .i64 0), .lit .nilslice, .lit (.int .i64 0), .lit (.int .i64 0), .lit (.int .i64 0), .lit (.bool false), .lit (.int .i64 0), .lit (.int .i64 0), .lit .nilslice, .lit .nilslice, .lit .nilslice, .lit .nilslice, .lit (.int .i64 0), .lit .nilslice]
def O15a (s : Sch) (m : Md) (l : List Int) (a : Nat) (H : HpD) (n : Int) (fr : FrD) (H' : HpD) : Prop :=
  fr = [(1, intsD m l), (2, .lit (.int .i64 (a : Int))), (3, .rptr [schR s] 0), (6, .ptr H.next 0), (7, .lit (.int .i64 n))] ∧ H' = H.new (.cells nilOp false)
def O15b (s : Sch) (H : HpD) (n : Int) (q : Pr) (fr : FrD) (H' : HpD) : Prop :=
  fr = [(3, .rptr [schR s] 0), (6, .ptr H.next 0), (7, .lit (.int .i64 n)), (8, .ptr (H.next + 1) 0)] ∧ H'.next = H.next + 2 ∧ Sub H H' ∧ H'.blk H.next = .cells nilOp false ∧ H'.blk (H.next + 1) = .cells q.c false
theorem Weak.cell {a : List D} {fr : FrD} {H : HpD} {b : Nat} {cs cs' : List D} {ro : Bool} (hb : H.blk b = .cells cs ro) (hl : D.les cs cs') : Weak a fr H a fr (H.put b (.cells cs' ro)) := by
  intro ψ S h fv vs sr kf kv;exact ⟨ψ, S, .refl, sr.tellV hb fun l' k => VDl.le _ _ hl k, kf, kv⟩
theorem opF_of (L : HLaw15 p ext F) {s : Sch} {m : Md} {l : List Int} {a : Nat} (hs0 : 0 < s.length) (hs : s.length < 1000) (ha : a < 1000000) : FnD p ext (F 97) [schD s, intsD m l, .lit (.int .i64 (a : Int))] (.agg (opF s l a).c) := by
  refine fn_of L.h97 (M := M97) rfl ok97 rfl fun H => sem_run 12 _ ?_;simp;refine sem_cut (O15a s m l a H (numO l a)) (sem_run 9000 _ ?_) ?_
  · by_cases c : 0 < l.length
    · obtain ⟨x, hx⟩ : ∃ x, l[a % l.length]? = some x := ⟨_, List.getElem?_eq_getElem (Nat.mod_lt _ c)⟩;have hn : numO l a = wr .i64 (x + wr .i64 ((a : Int) * 7919)) := (by simp only [numO, hx]);obtain ⟨r, hr⟩ : ∃ r, a % l.length = r := ⟨_, rfl⟩;have ht : Int.tmod (a : Int) (l.length : Int) = (r : Int) := (by rw [Int.tmod_eq_emod_of_nonneg (by omega)]; omega);have hz : (l.length : Int) ≠ 0 := (by omega);have hsz : ¬ l.length = 0 := (by omega);rw [hr] at hx;rw [hn];simp [c, hsz, ht, hx, -getElem?_pos];exact sem_ok ⟨rfl, rfl⟩
    · have hl0 : l = [] := by
        cases l with
        | nil => rfl
        | cons x l => simp at c
      subst hl0;have hn : numO [] a = 0 := (by simp [numO]);rw [hn];simp;refine sem_as_ok [(1, intsD m []), (2, .lit (.int .i64 (a : Int))), (3, .rptr [schR s] 0), (6, .ptr H.next 0), (7, .lit (.int .i64 0))] (by simp [D.le_refl, intsD]) ?_;exact sem_ok ⟨rfl, rfl⟩
  rintro fr H1 ⟨rfl, rfl⟩;obtain ⟨n, hn⟩ : ∃ n, numO l a = n := ⟨_, rfl⟩;rw [hn];have h7 : Int.tmod (a : Int) 7 = ((a % 7 : Nat) : Int) := (by rw [Int.tmod_eq_emod_of_nonneg (by omega)]; omega);refine sem_run 9000 _ ?_;simp [h7];refine sem_fn (pred7 L.pr hs0 hs (d := 3) (a := a % 7) (by omega) (by omega)) (by first | exact D.les_refl _ | simp) (sem_run 5 _ ?_);simp;refine sem_cut (O15b s H n (predO s l a)) (sem_run 9000 _ ?_) ?_
  · by_cases c : andI (shrI .i64 n 3) 3 = 0
    · have hp : predO s l a = prK (andI (shrI .i64 n 5) 15) := (by unfold predO; rw [hn, if_pos c]);rw [hp];simp [c];refine sem_weak_ok (Weak.cell (b := H.next + 1) (cs := [.lit (.int .i64 2), .lit (.int .i64 0), .lit (.int .i64 1), .lit (.bool false), .lit (.int .i64 1), .lit (.int .i64 (andI (shrI .i64 n 5) 15)), .lit .nilslice, .lit .nilslice]) (ro := false) (cs' := (prK (andI (shrI .i64 n 5) 15)).c) (by simp) (by simp [pr_c, prK, nV, Pr.kind, Pr.col, Pr.op, Pr.v, Pr.l, D.les, D.le, byD, byE, prsD])) ?_;exact sem_ok ⟨rfl, by simp, (by repeat (first | exact Sub.refl | apply Sub.new | refine Sub.put ?_ (by first | omega | (simp only [put_next, new_next]; omega)))), by simp, by simp⟩
    · have hp : predO s l a = predF s l 3 (a % 7) := (by unfold predO; rw [hn, if_neg c]);rw [hp];simp [c];refine sem_as_ok [(3, .rptr [schR s] 0), (6, .ptr H.next 0), (7, .lit (.int .i64 n)), (8, .ptr (H.next + 1) 0)] (by simp [D.le_refl]) ?_;exact sem_ok ⟨rfl, by simp, (by repeat (first | exact Sub.refl | apply Sub.new | refine Sub.put ?_ (by first | omega | (simp only [put_next, new_next]; omega)))), by simp, by simp⟩
  rintro fr H1 ⟨rfl, hnx, hsub, hb6, hb8⟩;obtain ⟨q, hq⟩ : ∃ q, predO s l a = q := ⟨_, rfl⟩;rw [hq, pr_c] at hb8;obtain ⟨k, hk, hk7⟩ := andI_small (a := n) (m := 7) (by simp);have hk' : andI n 7 = k := hk
  obtain ⟨c, hcn, hcl⟩ : ∃ c : Nat, colO s n = c ∧ c < s.length := by
    obtain ⟨q, hq, hq1⟩ := andI_small (a := shrI .i64 n 9) (m := 255) (by simp);have hq' : andI (shrI .i64 n 9) 255 = q := hq;refine ⟨q % s.length, ?_, Nat.mod_lt _ hs0⟩;unfold colO;rw [hq', Int.tmod_eq_emod_of_nonneg (by omega)]; omega
  have hc : Int.tmod (andI (shrI .i64 n 9) 255) (s.length : Int) = c := hcn;have hop : opF s l a = opG s n k c q := (by unfold opF; rw [hn, hk', hcn, hq]);rw [hop];have hz : (s.length : Int) ≠ 0 := (by omega);have hsz : ¬ s.length = 0 := (by omega);have l6 : H.next < H1.next := (by omega);have l8 : H.next + 1 < H1.next := (by omega);have h61 : ¬ H.next = H1.next := (by omega);have h81 : ¬ H.next + 1 = H1.next := (by omega);refine sem_run 9000 _ ?_;simp [hsz, hc, hk'];obtain ⟨cl, hcl'⟩ : ∃ cl, s[c]? = some cl := ⟨s[c], by simp⟩;have hkk : (k = 0 ∨ k = 1 ∨ k = 2) ∨ (k = 3 ∨ k = 4) ∨ k = 5 ∨ k = 6 ∨ k = 7 := (by omega)
  rcases hkk with h | h | rfl | rfl | rfl
  · have hG : opG s n (k : Int) c q = insO (rowF s (shrI .i64 n 5)) := (by rcases h with rfl | rfl | rfl <;> rfl);rw [hG];rcases h with rfl | rfl | rfl
    all_goals
      simp;refine sem_fn (law6_row L.pr.law6 (s := s) (n := shrI .i64 n 5) hs) (by first | exact D.les_refl _ | simp) (sem_run 9000 _ ?_);simp [hb6];refine sem_ret ?_;simp [M97];exact .le (by have := hsub.next; repeat (first | exact hsub | apply Sub.new | refine Sub.put ?_ (by first | omega | (simp only [put_next, new_next]; omega)))) (by simp [op_c, insO, pr0, zv, Pr.kind, Pr.col, Pr.op, Pr.v, Pr.l, D.le, byD, byE, prsD, rowD, rowE, sxsD, sxsE, intsD, agsD, agsE]) (by simp [D.under, op_unders])
  · by_cases c0 : 0 < c
    · have hG : opG s n (k : Int) c q = setO q (sxO c cl n) := (by rcases h with rfl | rfl <;> simp [opG, c0, hcl']);rw [hG];rcases h with rfl | rfl
      all_goals
        by_cases k1 : cl.kind = 1
        · cases hvn : (valF cl (shrI .i64 n 17)).null with
          | true =>
            have hadd : addO cl n = false := (by simp [addO, hvn]);simp [c0, hcl', -getElem?_pos];refine sem_fn (law6_value L.pr.law6) (by first | exact D.les_refl _ | simp) (sem_run 9000 _ ?_);simp;simp [hcl', k1, hvn, hb6, hb8, h61, h81, -getElem?_pos];refine sem_ret ?_;simp [M97];exact .le (by have := hsub.next; repeat (first | exact hsub | apply Sub.new | refine Sub.put ?_ (by first | omega | (simp only [put_next, new_next]; omega)))) (by simp [op_c, setO, sxO, hadd, Sx.c, Vl.c, D.le, D.les, D.less, D.le_refl, rowD, rowE, sxsD, sxsE, intsD, agsD, agsE]) (by simp [D.under, op_unders])
          | false =>
            by_cases kb : andI (shrI .i64 n 13) 1 = 1
            · have hadd : addO cl n = true := (by simp [addO, hvn, k1, kb]);simp [c0, hcl', -getElem?_pos];refine sem_fn (law6_value L.pr.law6) (by first | exact D.les_refl _ | simp) (sem_run 9000 _ ?_);simp;simp [hcl', k1, hvn, kb, hb6, hb8, h61, h81, -getElem?_pos];refine sem_ret ?_;simp [M97];exact .le (by have := hsub.next; repeat (first | exact hsub | apply Sub.new | refine Sub.put ?_ (by first | omega | (simp only [put_next, new_next]; omega)))) (by simp [op_c, setO, sxO, hadd, Sx.c, Vl.c, D.le, D.les, D.less, D.le_refl, rowD, rowE, sxsD, sxsE, intsD, agsD, agsE]) (by simp [D.under, op_unders])
            · have hadd : addO cl n = false := (by simp [addO, kb]);simp [c0, hcl', -getElem?_pos];refine sem_fn (law6_value L.pr.law6) (by first | exact D.les_refl _ | simp) (sem_run 9000 _ ?_);simp;simp [hcl', k1, hvn, kb, hb6, hb8, h61, h81, -getElem?_pos];refine sem_ret ?_;simp [M97];exact .le (by have := hsub.next; repeat (first | exact hsub | apply Sub.new | refine Sub.put ?_ (by first | omega | (simp only [put_next, new_next]; omega)))) (by simp [op_c, setO, sxO, hadd, Sx.c, Vl.c, D.le, D.les, D.less, D.le_refl, rowD, rowE, sxsD, sxsE, intsD, agsD, agsE]) (by simp [D.under, op_unders])
        · have hadd : addO cl n = false := (by simp [addO, k1]);simp [c0, hcl', -getElem?_pos];refine sem_fn (law6_value L.pr.law6) (by first | exact D.les_refl _ | simp) (sem_run 9000 _ ?_);simp;simp [hcl', k1, hb6, hb8, h61, h81, -getElem?_pos];refine sem_ret ?_;simp [M97];exact .le (by have := hsub.next; repeat (first | exact hsub | apply Sub.new | refine Sub.put ?_ (by first | omega | (simp only [put_next, new_next]; omega)))) (by simp [op_c, setO, sxO, hadd, Sx.c, Vl.c, D.le, D.les, D.less, D.le_refl, rowD, rowE, sxsD, sxsE, intsD, agsD, agsE]) (by simp [D.under, op_unders])
    · have hG : opG s n (k : Int) c q = delO q := (by rcases h with rfl | rfl <;> simp [opG, c0]);rw [hG];rcases h with rfl | rfl
      all_goals
        simp [c0, hb6, hb8];refine sem_ret ?_;simp [M97];exact .le (by have := hsub.next; repeat (first | exact hsub | apply Sub.new | refine Sub.put ?_ (by first | omega | (simp only [put_next, new_next]; omega)))) (by simp [op_c, delO, D.le, D.le_refl, rowD, rowE, sxsD, sxsE, intsD, agsD, agsE]) (by simp [D.under, op_unders])
  · rw [show opG s n ((5 : Nat) : Int) c q = scanO q [(c : Int), 0] by simp [opG]];simp [hb6, hb8];refine sem_ret ?_;simp [M97];exact .le (by have := hsub.next; repeat (first | exact hsub | apply Sub.new | refine Sub.put ?_ (by first | omega | (simp only [put_next, new_next]; omega)))) (by simp [op_c, scanO, D.le, D.le_refl, rowD, rowE, sxsD, sxsE, intsD, agsD, agsE]) (by simp [D.under, op_unders])
  · rw [show opG s n ((6 : Nat) : Int) c q = aggO q (wr .i64 (c - wr .i64 (andI (shrI .i64 n 14) 1 * wr .i64 (c + 1)))) [⟨1, 0⟩, ⟨wr .i64 (3 + andI (shrI .i64 n 15) 1), c⟩, ⟨2, 0⟩] by simp [opG]];simp [hb6, hb8, h61];refine sem_ret ?_;simp [M97];exact .le (by have := hsub.next; repeat (first | exact hsub | apply Sub.new | refine Sub.put ?_ (by first | omega | (simp only [put_next, new_next]; omega)))) (by simp [op_c, aggO, Ag.c, D.le, D.les, D.less, D.le_refl, rowD, rowE, sxsD, sxsE, intsD, agsD, agsE]) (by simp [D.under, op_unders])
  · by_cases e : andI (shrI .i64 n 18) 7 = 0
    · rw [show opG s n ((7 : Nat) : Int) c q = rollO by simp [opG, e]];simp [e, hb6];refine sem_ret ?_;simp [M97];exact .le (by have := hsub.next; repeat (first | exact hsub | apply Sub.new | refine Sub.put ?_ (by first | omega | (simp only [put_next, new_next]; omega)))) (by simp [op_c, rollO, pr0, zv, Pr.kind, Pr.col, Pr.op, Pr.v, Pr.l, D.le, byD, byE, prsD, rowD, rowE, sxsD, sxsE, intsD, agsD, agsE]) (by simp [D.under, op_unders])
    · rw [show opG s n ((7 : Nat) : Int) c q = delO q by simp [opG, e]];simp [e, hb6, hb8];refine sem_ret ?_;simp [M97];exact .le (by have := hsub.next; repeat (first | exact hsub | apply Sub.new | refine Sub.put ?_ (by first | omega | (simp only [put_next, new_next]; omega)))) (by simp [op_c, delO, D.le, D.le_refl, rowD, rowE, sxsD, sxsE, intsD, agsD, agsE]) (by simp [D.under, op_unders])
end Go.Lib
end

section
set_option maxRecDepth 10000
namespace Go.Lib
open Go.Vm Go.Dv Go.Srt
variable {p : Prog} {ext : Ext} {F : Nat → Nat}
attribute [-simp] bin_and bin_xor
structure HProg (p : Prog) (ext : Ext) (F : Nat → Nat) : Prop where
  op : HLaw15 p ext F
  h98 : Has p ext F 98 M98
def lenG (n : Int) : Nat := min (andI n 7).toNat 6
def atG (n : Int) : Nat := (andI (shrI .i64 n 3) 63).toNat
def progF (s : Sch) (l : List Int) (n : Int) : List Op := (List.range (lenG n)).map fun i => opF s l (atG n + i)
theorem progF_len {s : Sch} {l : List Int} {n : Int} : (progF s l n).length = lenG n := by simp [progF]
theorem progF_get {s : Sch} {l : List Int} {n : Int} {i : Nat} (h : i < lenG n) : (progF s l n)[i]? = some (opF s l (atG n + i)) := by simp [progF, h]
def ProgI (H0 : HpD) (s : Sch) (m : Md) (l : List Int) (n : Int) (P : List Op) (k : Nat) (fr : FrD) (H : HpD) : Prop :=
  ∃ (i : Nat) (t : D), k = P.length - i ∧ i ≤ P.length ∧ fr = [(1, intsD m l), (2, .lit (.int .i64 n)), (3, .rptr [schR s] 0), (7, t), (8, .lit (.int .i64 (i : Int)))] ∧ Gr H0 H 14 t ((P.take i).map Op.c)
theorem law15_program_own (L : HProg p ext F) {s : Sch} {m : Md} {l : List Int} {n : Int} {H : HpD} (hs0 : 0 < s.length) (hs : s.length < 1000) : WcD p ext (F 98) [schD s, intsD m l, .lit (.int .i64 n)] H (fun d H' => Gr H H' 14 d ((progF s l n).map Op.c)) := by
  refine wc_of L.h98 (M := M98) rfl ok98 rfl (sem_run 9000 _ ?_);simp;obtain ⟨q, hq, hq7⟩ := andI_small (a := n) (m := 7) (by simp);have hq' : andI n 7 = q := hq;obtain ⟨g, hg, hg7⟩ := andI_small (a := shrI .i64 n 3) (m := 63) (by simp);have hg' : andI (shrI .i64 n 3) 63 = g := hg;have hL : lenG n = min q 6 := (by unfold lenG; rw [hq']; rfl);have hA : atG n = g := (by unfold atG; rw [hg']; rfl);have hlen := progF_len (s := s) (l := l) (n := n);have hget := fun (i : Nat) => progF_get (s := s) (l := l) (n := n) (i := i);rw [hL] at hlen;rw [hL, hA] at hget;generalize progF s l n = P at hlen hget;refine sem_loop (ProgI H s m l n P) ?_ (k := P.length) ⟨0, .lit .nilslice, by simp, by simp, by simp, by simpa using Gr.start⟩;rintro k fr H' ⟨i, t, rfl, hi, rfl, gr⟩;refine sem_run 9000 _ ?_;simp
  by_cases c : i < P.length
  · have c1 : (i : Int) < (q : Int) := (by omega);have c2 : (i : Int) < 6 := (by omega);have w1 : wr .i64 ((g : Int) + (i : Int)) = (g : Int) + (i : Int) := (by rw [wr_of] <;> omega);have wi : wr .i64 ((i : Int) + 1) = ((i + 1 : Nat) : Int) := (by rw [wr_of] <;> omega);have ho := opF_of L.op (s := s) (m := m) (l := l) (a := g + i) hs0 hs (by omega);rw [show (((g + i : Nat)) : Int) = (g : Int) + (i : Int) by omega] at ho;simp [hq', hg', c1, c2, w1];refine sem_fn ho (by first | exact D.les_refl _ | simp) (sem_run 9000 _ ?_);simp;refine sem_push (gr.mono (by repeat (first | exact Sub.refl | apply Sub.new | refine Sub.put ?_ (by first | omega | (simp only [put_next, new_next]; omega))))) (by simp) (by simp) (roomyD (by simp; omega) (by simp; omega)) fun t' H2 g2 _ _ => ?_;simp;refine sem_ok ?_
    have e : (P.take (i + 1)).map Op.c = (P.take i).map Op.c ++ [(opF s l (g + i)).c] := (by rw [List.take_add_one, hget i (by omega)]; simp);exact ⟨P.length - (i + 1), by omega, i + 1, t', rfl, by omega, by rw [wi], by rw [e]; exact g2⟩
  · have : i = P.length := (by omega);subst this;rw [List.take_length] at gr
    by_cases c1 : ((P.length : Nat) : Int) < (q : Int)
    case' pos => simp [hq', c1, show ¬ ((P.length : Nat) : Int) < 6 by omega]
    case' neg => simp [hq', c1]
    all_goals
      refine sem_exit (sem_run 9000 _ ?_);simp;refine sem_ret ?_;simp [M98];exact gr
theorem law15_program (L : HProg p ext F) {s : Sch} {m : Md} {l : List Int} {n : Int} (hs0 : 0 < s.length) (hs : s.length < 1000) : FnD p ext (F 98) [schD s, intsD m l, .lit (.int .i64 n)] (opsD (progF s l n)) :=
  own_fn (fun _ => law15_program_own L hs0 hs) fun _ => underss_map (fun _ => op_unders) _
end Go.Lib
end

section
set_option maxRecDepth 10000
namespace Go.Lib
open Go.Vm Go.Dv Go.Srt
variable {p : Prog} {ext : Ext} {F : Nat → Nat}
structure HFits (p : Prog) (ext : Ext) (F : Nat → Nat) : Prop where
  h88 : Has p ext F 88 M88
  h91 : Has p ext F 91 M91
structure FitV (c : Cl) (v : Vl) : Prop where
  good : v.Good
  kind : v.kind = c.kind
  short : v.bytes.length ≤ 64
  null : v.null = true → c.null = true
def FitR (s : Sch) (r : Row) : Prop := r.length = s.length ∧ ∀ (i : Nat) (c : Cl) (v : Vl), s[i]? = some c → r[i]? = some v → FitV c v
end Go.Lib
end

section
set_option maxRecDepth 10000
namespace Go.Lib
open Go.Vm Go.Dv Go.Srt
structure KeyOp (o : Op) (k : Int) : Prop where
  kind : o.kind = 2 ∨ o.kind = 3
  pred : o.pred = prK k
  sets : ∀ x, x ∈ o.sets → 1 ≤ x.col
def actF (o : Op) (r : Row) : Option (List Row) := if pickF o r = true then (if o.kind = 2 then (setF r o.sets).map (fun x => [x]) else some []) else some [r]
theorem setS_at {r r' : Row} {x : Sx} (hc : 1 ≤ x.col) (e : setS r x = some r') : atV r' 0 = atV r 0 := by
  unfold setS at e;split at e
  · cases e; rfl
  · split at e
    · cases e; exact atV_set (by omega)
    · split at e
      · cases e; rfl
      · split at e
        · cases e; exact atV_set (by omega)
        · cases e
theorem setF_at : ∀ {l : List Sx} {r r' : Row}, (∀ x, x ∈ l → 1 ≤ x.col) → setF r l = some r' → atV r' 0 = atV r 0
  | [], r, r', _, e => by simp [setF] at e; subst e; rfl
  | x :: l, r, r', hx, e => by
    unfold setF at e;split at e
    · rename_i r1 e1;rw [setF_at (fun y hy => hx y (by simp [hy])) e, setS_at (hx x (by simp)) e1]
    · cases e
theorem KeyOp.pick {o : Op} {k : Int} (h : KeyOp o k) {r x : Row} (e : atV x 0 = atV r 0) : pickF o x = pickF o r := by
  unfold pickF; rw [h.pred, evalK, evalK, e]
theorem KeyOp.at_ {o : Op} {k : Int} (h : KeyOp o k) {r : Row} {l : List Row} (e : actF o r = some l) : ∀ x, x ∈ l → atV x 0 = atV r 0 := fun x hx => by
  unfold actF at e;split at e
  · split at e
    · obtain ⟨r', e1, rfl⟩ := Option.map_eq_some_iff.1 e;simp at hx; subst hx;exact setF_at h.sets e1
    · cases e; simp at hx
  · cases e; simp at hx; subst hx; rfl
theorem KeyOp.key {o : Op} {k : Int} (h : KeyOp o k) {r : Row} (h1 : (atV r 0).kind = 1) (hp : pickF o r = true) : keyF r = k := by
  by_cases e : keyF r = k
  · exact e
  · have := pickK_no h1 e;unfold pickF at hp;rw [h.pred] at hp;exact absurd (by simpa using hp) this
theorem opG_sets {n : Int} {x k : Int} {c : Nat} {q : Pr} (hc : c < (schF n).length) : ∀ y, y ∈ (opG (schF n) x k c q).sets → SxOk (ksF (schF n)) y := fun y hy => by
  unfold opG at hy;split at hy
  · simp [insO] at hy
  · split at hy
    · split at hy
      · rename_i c0;have c0 : 0 < c := (by omega);have hcl : (schF n)[c]? = some (schF n)[c] := (by simp);rw [show ((c : Int).toNat) = c from rfl, hcl] at hy;simp [setO] at hy; subst hy;have hkc : ((ksF (schF n))[c]?).getD 0 = (schF n)[c].kind := (by unfold ksF; rw [List.getElem?_map, hcl]; rfl);refine ⟨⟨by show (1 : Int) ≤ c; omega, by show (c : Int) < _; rw [ksF_len]; omega⟩, valF_good (schF_kinds (n := n) _ (by simp)), ?_, fun h => ?_⟩
        · show (valF _ _).kind = ((ksF (schF n))[((c : Int)).toNat]?).getD 0;rw [show ((c : Int).toNat) = c from rfl, hkc, valF_kind]
        · show ((ksF (schF n))[((c : Int)).toNat]?).getD 0 = 1;rw [show ((c : Int).toNat) = c from rfl, hkc];have h : addO (schF n)[c] x = true := h;simp [addO] at h;exact h.1.1
      · simp [delO] at hy
    · split at hy
      · simp [scanO] at hy
      · split at hy
        · simp [aggO] at hy
        · split at hy
          · simp [rollO] at hy
          · simp [delO] at hy
theorem opG_few {s : Sch} {n k c : Int} {q : Pr} : (opG s n k c q).sets.length ≤ 1 := by
  unfold opG;repeat' split
  all_goals simp [insO, setO, delO, scanO, aggO, rollO]
theorem colO_at {s : Sch} {n : Int} (h : 0 < s.length) : ∃ c : Nat, colO s n = c ∧ c < s.length := by
  obtain ⟨q, hq, hq1⟩ := andI_small (a := shrI .i64 n 9) (m := 255) (by simp);have hq' : andI (shrI .i64 n 9) 255 = q := hq;refine ⟨q % s.length, ?_, Nat.mod_lt _ h⟩;unfold colO;rw [hq', Int.tmod_eq_emod_of_nonneg (by omega)]; omega
end Go.Lib
end

section
set_option maxRecDepth 10000
namespace Go.Lib
open Go.Vm Go.Dv Go.Srt
theorem cP_in {n x : Int} : InK (ksF (schF n)) (cP (schF n) x) := by
  obtain ⟨q, hq, _⟩ := andI_small (a := shrI .i64 x 3) (m := 255) (by simp);have hq' : andI (shrI .i64 x 3) 255 = q := hq;have hl := (schF_small (n := n)).2;unfold InK cP;rw [hq', Int.tmod_eq_emod_of_nonneg (by omega), ksF_len];have := Int.emod_lt_of_pos (q : Int) (show (0 : Int) < ((schF n).length : Int) by omega);have := Int.emod_nonneg (q : Int) (show ((schF n).length : Int) ≠ 0 by omega);omega
theorem leafP_ok {n x : Int} {m : Nat} : PrW (ksF (schF n)) (m + 1) (leafP (schF n) x) := by
  obtain ⟨q, hq, _⟩ := andI_small (a := shrI .i64 x 17) (m := 255) (by simp);have hq' : andI (shrI .i64 x 17) 255 = q := hq;refine ⟨by simp [leafP, Pr.l], fun y hy => by simp [leafP, Pr.l] at hy, .inr (.inl ⟨rfl, cP_in, ?_, ?_⟩)⟩
  · show 1 ≤ Int.tmod (andI (shrI .i64 x 17) 255) 6 + 1;rw [hq', Int.tmod_eq_emod_of_nonneg (by omega)]; omega
  · show Int.tmod (andI (shrI .i64 x 17) 255) 6 + 1 ≤ 6;rw [hq', Int.tmod_eq_emod_of_nonneg (by omega)]; omega
theorem predF_ok {n : Int} {l : List Int} : ∀ {d a : Nat}, PrW (ksF (schF n)) (d + 1) (predF (schF n) l d a)
  | d, a => by
    obtain ⟨k, hk, hk7, hk4⟩ := kP_at (d := d) (n := numP l a)
    have key : ∀ son : Nat → Pr, (∀ i, 2 ≤ d → PrW (ksF (schF n)) d (son i)) → PrW (ksF (schF n)) (d + 1) (predG (schF n) (numP l a) k son) := fun son hson => by
      unfold predG;split
      · exact ⟨by simp [prT, Pr.l], fun y hy => by simp [prT, Pr.l] at hy, .inl rfl⟩
      · split
        · exact ⟨by simp [Pr.l], fun y hy => by simp [Pr.l] at hy, .inr (.inr (.inl ⟨rfl, cP_in⟩))⟩
        · split
          · rename_i h5;obtain ⟨q, hq, hq3⟩ := andI_small (a := shrI .i64 (numP l a) 11) (m := 3) (by simp);have hq' : andI (shrI .i64 (numP l a) 11) 3 = q := hq;refine ⟨by simp [Pr.l, sonsP, hq']; omega, fun y hy => ?_, ?_⟩
            · simp only [Pr.l, sonsP, List.mem_map] at hy;obtain ⟨i, _, rfl⟩ := hy;exact hson i (by omega)
            · rcases h5 with h5 | h5
              · exact .inr (.inr (.inr (.inl (by show (k : Int) - 1 = 4; omega))))
              · exact .inr (.inr (.inr (.inr (.inl (by show (k : Int) - 1 = 5; omega)))))
          · split
            · refine ⟨by simp [Pr.l], fun y hy => ?_, .inr (.inr (.inr (.inr (.inr ⟨rfl, by simp [Pr.l]⟩))))⟩;simp [Pr.l] at hy; subst hy;exact hson 0 (by omega)
            · exact leafP_ok
    cases d with
    | zero =>
      show PrW _ _ (predG (schF n) (numP l a) (kP 0 (numP l a)) fun _ => prT);rw [hk]
      exact key _ fun i h => by omega
    | succ d =>
      show PrW _ _ (predG (schF n) (numP l a) (kP (d + 1) (numP l a)) fun i => predF (schF n) l d (3 * a + i + 1));rw [hk];exact key _ fun i h => predF_ok
theorem predO_ok {n : Int} {l : List Int} {a : Nat} : PrW (ksF (schF n)) 4 (predO (schF n) l a) := by
  unfold predO;split
  · exact ⟨by simp [prK, Pr.l], fun y hy => by simp [prK, Pr.l] at hy, .inr (.inl ⟨rfl, inK_0, by show (1 : Int) ≤ 1; omega, by show (1 : Int) ≤ 6; omega⟩)⟩
  · exact predF_ok
structure OpW (n : Int) (o : Op) : Prop where
  ok : OpOk (ksF (schF n)) 4 o
  kind : 1 ≤ o.kind ∧ o.kind ≤ 6
  pred : 2 ≤ o.kind → o.kind ≤ 5 → PrW (ksF (schF n)) 4 o.pred
  aggs : ∀ a, a ∈ o.aggs → AgK (ksF (schF n)) a
theorem opG_ok {n x : Int} {k c : Nat} {q : Pr} (_hk : k ≤ 7) (hc : c < (schF n).length) (hq : PrW (ksF (schF n)) 4 q) : OpW n (opG (schF n) x k c q) := by
  have hs := fun y => opG_sets (n := n) (x := x) (k := k) (q := q) hc y;have hf := opG_few (s := schF n) (n := x) (k := k) (c := c) (q := q);have hsm := schF_small (n := n)
  have hr : (opG (schF n) x k c q).row.length < 1000 := by
    have : (opG (schF n) x k c q).row.length ≤ (schF n).length := by
      unfold opG;repeat' split
      all_goals simp [insO, setO, delO, scanO, aggO, rollO, rowF_len]
    omega
  have p0 : PrS 4 pr0 := ⟨by simp [pr0, Pr.l], fun y hy => by simp [pr0, Pr.l] at hy⟩;have hin : InK (ksF (schF n)) (c : Int) := ⟨by omega, by rw [ksF_len]; omega⟩
  have hp : PrS 4 (opG (schF n) x k c q).pred := by
    unfold opG;repeat' split
    all_goals first | exact p0 | exact hq.short
  have hOS : OpS 4 (opG (schF n) x k c q) := ⟨hp, by omega, fun y hy => (hs y hy).good.int⟩;have h0 : InK (ksF (schF n)) 0 := inK_0;refine ⟨⟨hOS, hr, fun h => ?_, fun _ => hs, fun h => ?_, fun h => ?_⟩, ?_, fun _ _ => ?_, ?_⟩
  · revert h; unfold opG;repeat' split
    all_goals first | (intro; exact row6_good) | (intro h; simp [setO, delO, scanO, aggO, rollO] at h)
  · revert h; unfold opG;repeat' split
    all_goals first | (intro h; simp [insO, setO, delO, aggO, rollO] at h; done) | skip
    intro _;refine ⟨by simp [scanO], fun y hy => ?_⟩;simp [scanO] at hy;rcases hy with rfl | rfl
    · exact hin
    · exact h0
  · revert h; unfold opG;repeat' split
    all_goals first | (intro h; simp [insO, setO, delO, scanO, rollO] at h; done) | skip
    intro _;obtain ⟨b, hb, hb1⟩ := andI_small (a := shrI .i64 x 14) (m := 1) (by simp);have hb' : andI (shrI .i64 x 14) 1 = b := hb;refine ⟨?_, by simp [aggO], fun y hy => ?_⟩
    · show wr .i64 ((c : Int) - wr .i64 (andI (shrI .i64 x 14) 1 * wr .i64 ((c : Int) + 1))) < ((ksF (schF n)).length : Int);rw [hb', ksF_len];have w1 : wr .i64 ((c : Int) + 1) = (c : Int) + 1 := (by rw [wr_of] <;> omega);rw [w1];rcases (show b = 0 ∨ b = 1 by omega) with rfl | rfl
      · rw [show ((0 : Nat) : Int) * ((c : Int) + 1) = 0 by simp, show wr .i64 0 = 0 from rfl, wr_of (by omega) (by omega)]; omega
      · rw [show ((1 : Nat) : Int) * ((c : Int) + 1) = (c : Int) + 1 by simp, w1, wr_of (by omega) (by omega)]; omega
    · simp [aggO] at hy;rcases hy with rfl | rfl | rfl
      · exact h0
      · exact hin
      · exact h0
  · unfold opG;repeat' split
    all_goals simp [insO, setO, delO, scanO, aggO, rollO]
  · rename_i h2 h5;revert h2 h5; unfold opG;repeat' split
    all_goals first | (intro h2 h5; simp [insO, rollO] at h2 h5; done) | (intro _ _; exact hq)
  · unfold opG;repeat' split
    all_goals first | (intro y hy; simp [insO, setO, delO, scanO, rollO] at hy; done) | skip
    intro y hy;obtain ⟨b, hb, hb1⟩ := andI_small (a := shrI .i64 x 15) (m := 1) (by simp);have hb' : andI (shrI .i64 x 15) 1 = b := hb;simp [aggO] at hy;rcases hy with rfl | rfl | rfl
    · exact ⟨h0, .inl rfl⟩
    · refine ⟨hin, ?_⟩;show wr .i64 (3 + andI (shrI .i64 x 15) 1) = 1 ∨ _ ∨ _ ∨ _;rw [hb', wr_of (by omega) (by omega)];rcases (show b = 0 ∨ b = 1 by omega) with rfl | rfl
      · exact .inr (.inr (.inl rfl))
      · exact .inr (.inr (.inr rfl))
    · exact ⟨h0, .inr (.inl rfl)⟩
theorem opF_ok {n : Int} {l : List Int} {a : Nat} : OpW n (opF (schF n) l a) := by
  obtain ⟨c, hc, hcl⟩ := colO_at (s := schF n) (n := numO l a) (schF_small (n := n)).2;obtain ⟨k, hk, hk7⟩ := andI_small (a := numO l a) (m := 7) (by simp);have hk' : andI (numO l a) 7 = k := hk;unfold opF;rw [hc, hk'];exact opG_ok hk7 hcl predO_ok
theorem progF_ok {n : Int} {l : List Int} {x : Int} : ∀ o, o ∈ progF (schF n) l x → OpW n o := fun o ho => by
  unfold progF at ho;obtain ⟨i, _, rfl⟩ := List.mem_map.1 ho;exact opF_ok
theorem lenG_le {x : Int} : lenG x ≤ 6 := Nat.min_le_right _ _
end Go.Lib
end

section
set_option maxRecDepth 10000
namespace Go.Lib
open Go.Vm Go.Dv Go.Srt
def FitRs (s : Sch) (R : List Row) : Prop := ∀ r, r ∈ R → FitR s r
theorem valF_fit {c : Cl} (hc : c.kind = 1 ∨ c.kind = 2) {x : Int} : FitV c (valF c x) := by
  refine ⟨valF_good hc, valF_kind, ?_, ?_⟩
  · unfold valF;split
    · simp
    · split
      · simp
      · show ((abc.drop _).take _).length ≤ 64;rw [List.length_take, List.length_drop]; simp [abc]; omega
  · unfold valF;split
    · rename_i h; exact fun _ => h.1
    · split <;> (intro h; simp at h)
theorem rowF_fit {n x : Int} : FitR (schF n) (rowF (schF n) x) := by
  refine ⟨rowF_len, fun i c v hc hv => ?_⟩;rw [rowF_get, hc] at hv;simp at hv; subst hv;have hk := schF_kinds (n := n) c (List.mem_of_getElem? hc);unfold cellF;split
  · rename_i h0;subst h0;rw [schF_cons] at hc;simp at hc; subst hc;exact ⟨⟨fun h => by simp at h, .inl ⟨rfl, rfl⟩, in64_and (m := 15) (by simp)⟩, rfl, by simp, fun h => by simp at h⟩
  · exact valF_fit hk
theorem FitR.set {s : Sch} {r : Row} {v : Vl} {i : Nat} {c : Cl} (h : FitR s r) (hc : s[i]? = some c) (hv : FitV c v) : FitR s (r.set i v) := by
  refine ⟨by rw [List.length_set]; exact h.1, fun j d w hd hw => ?_⟩
  by_cases e : i = j
  · subst e;have hi : i < r.length := (by rw [h.1]; exact (List.getElem?_eq_some_iff.1 hc).1);rw [List.getElem?_set_self hi] at hw;cases hw;rw [hc] at hd; cases hd;exact hv
  · rw [List.getElem?_set_ne e] at hw;exact h.2 j d w hd hw
def SxFit (s : Sch) (x : Sx) : Prop := 0 ≤ x.col ∧ ∃ c, s[x.col.toNat]? = some c ∧ FitV c x.v ∧ (x.add = true → c.kind = 1)
theorem setS_fit {s : Sch} {r r' : Row} {x : Sx} (h : FitR s r) (hx : SxFit s x) (e : setS r x = some r') : FitR s r' := by
  obtain ⟨h0, c, hc, hv, ha⟩ := hx;have hlt := (List.getElem?_eq_some_iff.1 hc).1;have hl := h.1;have hat := (atV_mem (r := r) (c := x.col) h0 (by omega)).2
  have hf := h.2 _ c _ hc hat
  unfold setS at e;split at e
  · cases e; exact h
  · split at e
    · cases e; exact h.set hc hv
    · rename_i had;have had : x.add = true := (by simpa using had);split at e
      · cases e; exact h
      · rename_i hn;split at e
        · rename_i hi;cases e;refine h.set hc ⟨⟨fun h2 => absurd h2 hn, .inl ⟨by show (atV r x.col).kind = 1; rw [hf.kind, ha had], ?_⟩, hi⟩, hf.kind, hf.short, fun h2 => absurd h2 hn⟩;rcases hf.good.kd with ⟨_, hb⟩ | ⟨hb, _⟩
          · exact hb
          · rw [hf.kind, ha had] at hb; simp at hb
        · cases e
theorem setF_fit {s : Sch} : ∀ {l : List Sx} {r r' : Row}, FitR s r → (∀ x, x ∈ l → SxFit s x) → setF r l = some r' → FitR s r'
  | [], r, r', h, _, e => by simp [setF] at e; subst e; exact h
  | x :: l, r, r', h, hx, e => by
    unfold setF at e;split at e
    · rename_i r1 e1;exact setF_fit (setS_fit h (hx x (by simp)) e1) (fun y hy => hx y (by simp [hy])) e
    · cases e
theorem updF_fit {s : Sch} {o : Op} (hs : ∀ x, x ∈ o.sets → SxFit s x) : ∀ {R M : List Row}, FitRs s R → updF o R = some M → FitRs s M
  | [], M, _, e => by simp [updF] at e; subst e; exact fun r hr => by simp at hr
  | r :: R, M, hg, e => by
    have hr := hg r (by simp);have hR : FitRs s R := fun x hx => hg x (by simp [hx]);unfold updF at e;split at e
    · split at e
      · rename_i r' e1;obtain ⟨M', e2, rfl⟩ := Option.map_eq_some_iff.1 e
        exact fun x hx => by
          rcases List.mem_cons.1 hx with rfl | hx
          · exact setF_fit hr hs e1
          · exact updF_fit hs hR e2 x hx
      · cases e
    · obtain ⟨M', e2, rfl⟩ := Option.map_eq_some_iff.1 e
      exact fun x hx => by
        rcases List.mem_cons.1 hx with rfl | hx
        · exact hr
        · exact updF_fit hs hR e2 x hx
structure OpFit (s : Sch) (o : Op) : Prop where
  row : o.kind = 1 → FitR s o.row
  sets : ∀ x, x ∈ o.sets → SxFit s x
theorem doF_fit {s : Sch} {R : List Row} {o : Op} (h : FitRs s R) (ho : OpFit s o) : FitRs s (doF R o).1 := by
  unfold doF;split
  · rename_i o1;split
    · exact h
    · intro x hx;rcases insK_mem hx with rfl | hx
      · exact ho.row o1
      · exact h x hx
  · split
    · cases hu : updF o R with
      | none => exact h
      | some M => exact updF_fit ho.sets h hu
    · split
      · exact fun x hx => h x (List.mem_filter.1 hx).1
      · split
        · exact h
        · split
          · split <;> exact h
          · split <;> exact h
theorem opG_fit {n x k : Int} {c : Nat} {q : Pr} (hc : c < (schF n).length) : OpFit (schF n) (opG (schF n) x k c q) := by
  constructor
  · unfold opG;repeat' split
    all_goals first | (intro; exact rowF_fit) | (intro h; simp [setO, delO, scanO, aggO, rollO] at h)
  · unfold opG;repeat' split
    all_goals first | (intro y hy; simp [insO, delO, scanO, aggO, rollO] at hy; done) | skip
    · rename_i cl hcl;intro y hy;simp [setO] at hy; subst hy;have hm := List.mem_of_getElem? hcl;refine ⟨by show (0 : Int) ≤ c; omega, cl, hcl, valF_fit (schF_kinds (n := n) cl hm), fun h => ?_⟩;have h : addO cl x = true := h;simp [addO] at h;exact h.1.1
    · rename_i hcl;rw [show ((c : Int).toNat) = c from rfl] at hcl;simp [hc] at hcl
theorem opF_fit {n : Int} {l : List Int} {a : Nat} : OpFit (schF n) (opF (schF n) l a) := by
  obtain ⟨c, hc, hcl⟩ := colO_at (s := schF n) (n := numO l a) (schF_small (n := n)).2;unfold opF;rw [hc];exact opG_fit hcl
theorem progF_fit {n : Int} {l : List Int} {x : Int} : ∀ o, o ∈ progF (schF n) l x → OpFit (schF n) o := fun o ho => by
  unfold progF at ho;obtain ⟨i, _, rfl⟩ := List.mem_map.1 ho;exact opF_fit
theorem RowsK.more {ks : List Int} {B C : Nat} {R : List Row} (h : RowsK ks B R) (hc : B ≤ C) : RowsK ks C R := ⟨h.good, h.rise, by have := h.len; omega⟩
theorem runF_ok {s : Sch} {ks : List Int} {n B : Nat} {R0 : List Row} (h0 : RowsK ks B R0) (f0 : FitRs s R0) : ∀ {l : List Op} {now : List Row} {out : List Rs} {C : Nat}, B ≤ C → RowsK ks C now → FitRs s now → (∀ o, o ∈ l → OpOk ks n o ∧ OpFit s o) →
    RowsK ks (C + l.length) (runF R0 now out l).1 ∧ FitRs s (runF R0 now out l).1 ∧
    ∃ e, (runF R0 now out l).2 = out ++ e ∧ e.length ≤ l.length ∧ ((e.length = l.length ∧ ∀ x, x ∈ e → x.err = 0) ∨ (∃ e0 x, e = e0 ++ [x] ∧ x.err ≠ 0 ∧ (runF R0 now out l).1 = R0))
  | [], now, out, C, hC, hn, fn, _ => ⟨hn, fn, [], by simp [runF], by simp, .inl ⟨rfl, fun x hx => by simp at hx⟩⟩
  | o :: l, now, out, C, hC, hn, fn, ho => by
    obtain ⟨a, b⟩ := ho o (by simp);have hd := doF_ok hn a;have fd := doF_fit fn b
    have hstep : runF R0 now out (o :: l) = if (doF now o).2.err ≠ 0 then (R0, out ++ [(doF now o).2]) else runF R0 (doF now o).1 (out ++ [(doF now o).2]) l := rfl
    rw [hstep]
    by_cases e : (doF now o).2.err = 0
    · rw [if_neg (by simp [e])];obtain ⟨x1, x2, e1, x3, x4, x5⟩ := runF_ok h0 f0 (l := l) (out := out ++ [(doF now o).2]) (show B ≤ C + 1 by omega) hd fd (fun y hy => ho y (by simp [hy]));refine ⟨x1.more (by simp; omega), x2, (doF now o).2 :: e1, by rw [x3]; simp, by simp; omega, ?_⟩;rcases x5 with ⟨x6, x7⟩ | ⟨e0, x, rfl, x6, x7⟩
      · exact .inl ⟨by simp [x6], fun y hy => by rcases List.mem_cons.1 hy with rfl | hy; exact e; exact x7 y hy⟩
      · exact .inr ⟨(doF now o).2 :: e0, x, by simp, x6, x7⟩
    · rw [if_pos e];exact ⟨h0.more (by omega), f0, [(doF now o).2], rfl, by simp, .inr ⟨[], _, rfl, e, rfl⟩⟩
end Go.Lib
end

section
set_option maxRecDepth 10000
namespace Go.Lib
open Go.Vm Go.Dv Go.Srt
def KeyN (R : List Row) : Prop := ∀ r, r ∈ R → ∃ v l, r = v :: l ∧ v.null = false ∧ v.kind = 1
theorem FitRs.keyN {n : Int} {R : List Row} (h : FitRs (schF n) R) : KeyN R := fun r hr => by
  obtain ⟨hl, hf⟩ := h r hr
  cases r with
  | nil => rw [schF_cons] at hl; simp at hl
  | cons v l =>
    have hv := hf 0 keyC v (by rw [schF_cons]; rfl) rfl;refine ⟨v, l, rfl, ?_, hv.kind⟩
    cases hn : v.null with
    | false => rfl
    | true => exact absurd (hv.null hn) (by simp [keyC])
theorem cmpR_key {a b : Row} (ha : ∃ v l, a = v :: l ∧ v.null = false ∧ v.kind = 1) (hb : ∃ v l, b = v :: l ∧ v.null = false ∧ v.kind = 1) (h : keyF a < keyF b) : cmpR a b ≤ 0 := by
  obtain ⟨v, l, rfl, hv, hk⟩ := ha;obtain ⟨w, m, rfl, hw, _⟩ := hb;have h : v.n < w.n := h
  have e : cmpV v w = -1 := by
    rw [cmpV_null, if_neg (by simp [hv]), if_neg (by simp [hw]), if_pos hk];unfold cmpI; rw [if_pos h]
  unfold cmpR cmpRow;rw [e]; simp
theorem KeyRise.rise {R : List Row} (h : KeyRise R) (hk : KeyN R) : Rise cmpR R := by
  unfold Rise;refine List.Pairwise.imp_of_mem ?_ h;intro a b ha hb hab;exact cmpR_key (hk a ha) (hk b hb) hab
theorem sort_keys {ks : List Int} {L R : List Row} (hp : R.Perm L) (hr : KeyRise R) (hk : KeyN R) (hg : GoodRs ks R) : sortL cmpR L = R :=
  (rise_sort cmpR_ord cmpR_zero (G := GoodR ks) (fun x hx => hg x (hp.mem_iff.2 hx)) hp (hr.rise hk)).symm
def setL (o : Op) : List Row → Option (List Row)
  | [] => some []
  | r :: R => match setF r o.sets with
    | some r' => (setL o R).map (r' :: ·)
    | none => none
theorem upd_split {o : Op} : ∀ {R : List Row}, (updF o R = none → setL o (R.filter (pickF o)) = none) ∧ ∀ M, updF o R = some M → ∃ Q, setL o (R.filter (pickF o)) = some Q ∧ M.Perm (R.filter (fun r => !pickF o r) ++ Q)
  | [] => ⟨fun h => by simp [updF] at h, fun M h => by simp [updF] at h; subst h; exact ⟨[], rfl, .refl _⟩⟩
  | r :: R => by
    obtain ⟨a, b⟩ := upd_split (o := o) (R := R)
    by_cases hp : pickF o r = true
    · have e1 : (r :: R).filter (pickF o) = r :: R.filter (pickF o) := (by rw [List.filter_cons, if_pos hp]);have e2 : (r :: R).filter (fun r => !pickF o r) = R.filter (fun r => !pickF o r) := (by rw [List.filter_cons, if_neg (by simp [hp])]);rw [e1, e2]
      have e3 : updF o (r :: R) = match setF r o.sets with | some r' => (updF o R).map (r' :: ·) | none => none := by
        show (if pickF o r = true then _ else _) = _;rw [if_pos hp] <;> rfl
      rw [e3]
      show ((match setF r o.sets with | some r' => (updF o R).map (r' :: ·) | none => none) = none → (match setF r o.sets with | some r' => (setL o (R.filter (pickF o))).map (r' :: ·) | none => none) = none) ∧ _
      cases hs : setF r o.sets with
      | none => exact ⟨fun _ => rfl, fun M h => by simp at h⟩
      | some r' =>
        refine ⟨fun h => ?_, fun M h => ?_⟩
        · simp only [Option.map_eq_none_iff] at h ⊢; exact a h
        · simp only at h;obtain ⟨M', e, rfl⟩ := Option.map_eq_some_iff.1 h;obtain ⟨Q, q1, q2⟩ := b M' e;refine ⟨r' :: Q, ?_, (q2.cons r').trans List.perm_middle.symm⟩
          show (match setF r o.sets with | some r' => (setL o (R.filter (pickF o))).map (r' :: ·) | none => none) = _
          rw [hs, q1] <;> rfl
    · have e1 : (r :: R).filter (pickF o) = R.filter (pickF o) := (by rw [List.filter_cons, if_neg hp]);have e2 : (r :: R).filter (fun r => !pickF o r) = r :: R.filter (fun r => !pickF o r) := (by rw [List.filter_cons, if_pos (by simp [hp])]);rw [e1, e2]
      have e3 : updF o (r :: R) = (updF o R).map (r :: ·) := by
        show (if pickF o r = true then _ else _) = _;rw [if_neg hp]
      rw [e3];refine ⟨fun h => ?_, fun M h => ?_⟩
      · rw [Option.map_eq_none_iff] at h; exact a h
      · obtain ⟨M', e, rfl⟩ := Option.map_eq_some_iff.1 h;obtain ⟨Q, q1, q2⟩ := b M' e;exact ⟨Q, q1, q2.cons r⟩
theorem setL_snoc {o : Op} : ∀ {P : List Row} {i : Nat} {r : Row}, P[i]? = some r → setL o (P.take (i + 1)) = match setL o (P.take i), setF r o.sets with
    | some Q, some r' => some (Q ++ [r'])
    | _, _ => none
  | [], i, r, h => by simp at h
  | p :: P, 0, r, h => by
    simp at h; subst h
    show (match setF p o.sets with | some r' => (setL o []).map (r' :: ·) | none => none) = _
    cases setF p o.sets <;> rfl
  | p :: P, i + 1, r, h => by
    have h : P[i]? = some r := (by simpa using h);have ih := setL_snoc (o := o) h;rw [List.take_succ_cons, List.take_succ_cons]
    show (match setF p o.sets with | some r' => (setL o (P.take (i + 1))).map (r' :: ·) | none => none) = match (match setF p o.sets with | some r' => (setL o (P.take i)).map (r' :: ·) | none => none), setF r o.sets with
      | some Q, some r' => some (Q ++ [r'])
      | _, _ => none
    cases setF p o.sets with
    | none => rfl
    | some p' =>
      rw [ih];cases setL o (P.take i) <;> cases setF r o.sets <;> rfl
theorem setL_none {o : Op} : ∀ {P : List Row} {i : Nat}, setL o (P.take i) = none → setL o P = none
  | [], i, h => by simpa using h
  | r :: P, 0, h => by simp [setL] at h
  | r :: P, i + 1, h => by
    rw [List.take_succ_cons] at h
    show (match setF r o.sets with | some r' => (setL o P).map (r' :: ·) | none => none) = none
    have h : (match setF r o.sets with | some r' => (setL o (P.take i)).map (r' :: ·) | none => none) = none := h
    cases hs : setF r o.sets with
    | none => rfl
    | some r' => rw [hs] at h; simp only [Option.map_eq_none_iff] at h ⊢; exact setL_none h
theorem setL_len {o : Op} : ∀ {P Q : List Row}, setL o P = some Q → Q.length = P.length
  | [], Q, h => by simp [setL] at h; subst h; rfl
  | r :: P, Q, h => by
    unfold setL at h;split at h
    · obtain ⟨Q', e, rfl⟩ := Option.map_eq_some_iff.1 h;simp [setL_len e]
    · cases h
end Go.Lib
end

section
set_option maxRecDepth 10000
namespace Go.Lib
open Go.Vm Go.Dv Go.Srt
variable {p : Prog} {ext : Ext} {F : Nat → Nat}
attribute [-simp] bin_and bin_xor
structure HDo15 (p : Prog) (ext : Ext) (F : Nat → Nat) : Prop where
  ref15 : HRef15 p ext F
  ref6e : HRef6e p ext F
  h92 : Has p ext F 92 M92
  h95 : Has p ext F 95 M95
  h96 : Has p ext F 96 M96
theorem ref15_picked (L : HDo15 p ext F) {ks : List Int} {n : Nat} {q : Pr} {r : Row} (hq : PrW ks n q) (hr : r.length = ks.length) : FnD p ext (F 95) [.agg q.c, rowD r] (.lit (.bool (decide (evalF q r = 1)))) := by
  refine fn_of L.h95 (M := M95) rfl ok95 rfl fun H => sem_run 9000 _ ?_;simp;refine sem_fn (ref6_eval L.ref6e n q hq r hr) (by first | exact D.les_refl _ | simp) (sem_run 9000 _ ?_);simp;refine sem_ret ?_;simp [M95];exact .same (by simp)
theorem ref15_failed (L : HDo15 p ext F) {R : List Row} {k : Int} : FnD p ext (F 96) [rowsD R, .lit (.int .i64 k)] (.tup [rowsD R, .agg (Rs.c ⟨k, 0, []⟩)]) := by
  refine fn_of L.h96 (M := M96) rfl ok96 rfl fun H => sem_run 9000 _ ?_;simp;refine sem_ret ?_;simp [M96];exact fin_row (by repeat (first | exact Sub.refl | apply Sub.new | refine Sub.put ?_ (by first | omega | (simp only [put_next, new_next]; omega)))) (by simp [Rs.c, D.les, D.le, rowsD, rowsE])
def pk (o : Op) (r : Row) : Bool := decide (o.kind ≠ 1 ∧ o.kind ≠ 6) && pickF o r
@[simp] def res0 : List D := [.lit (.int .i64 0), .lit (.int .i64 0), .lit .nilslice]
def Do1I (H0 : HpD) (o : Op) (R : List Row) (k : Nat) (fr : FrD) (H : HpD) : Prop :=
  ∃ (i : Nat) (s t : D), k = R.length - i ∧ i ≤ R.length ∧ fr = [(0, rowsD R), (3, .rptr o.c 0), (5, .ptr H0.next 0), (6, s), (7, t), (8, .lit (.int .i64 (i : Int)))] ∧
    Gr (H0.new (.cells res0 false)) H 1 s (rowsE ((R.take i).filter (pk o))) ∧ Gr (H0.new (.cells res0 false)) H 1 t (rowsE ((R.take i).filter (fun r => !pk o r))) ∧ ∀ x, s.hasB x → ¬ t.hasB x
def Do2I (H0 : HpD) (o : Op) (R : List Row) (t : D) (k : Nat) (fr : FrD) (H : HpD) : Prop :=
  ∃ j : Nat, k = R.length - j ∧ j ≤ R.length ∧ (∀ q r, q < j → R[q]? = some r → keyF r ≠ keyF o.row) ∧ fr = [(0, rowsD R), (3, .rptr o.c 0), (5, .ptr H0.next 0), (7, t), (9, .lit (.int .i64 (j : Int)))] ∧
    Gr (H0.new (.cells res0 false)) H 1 t (rowsE R)
def Do3I (H0 : HpD) (o : Op) (R A C : List Row) (k : Nat) (fr : FrD) (H : HpD) : Prop :=
  ∃ (j : Nat) (t : D) (Q : List Row), k = A.length - j ∧ j ≤ A.length ∧ setL o (A.take j) = some Q ∧ fr = [(0, rowsD R), (3, .rptr o.c 0), (5, .ptr H0.next 0), (6, rowsD A), (7, t), (10, .lit (.int .i64 (j : Int)))] ∧
    Gr (H0.new (.cells res0 false)) H 1 t (rowsE (C ++ Q))
theorem pk_pick {o : Op} (h1 : o.kind ≠ 1) (h6 : o.kind ≠ 6) : pk o = pickF o := by
  funext r; simp [pk, h1, h6]
theorem filter_snoc {f : Row → Bool} {R : List Row} {i : Nat} {r : Row} (h : R[i]? = some r) : (R.take (i + 1)).filter f = (R.take i).filter f ++ if f r then [r] else [] := by
  rw [List.take_add_one, h]; cases e : f r <;> simp [e]
theorem ref15_do (L : HDo15 p ext F) {n : Int} {R : List Row} {o : Op} {B : Nat} (hR : RowsK (ksF (schF n)) B R) (hB : B < 100000) (ho : OpW n o) (hF : FitRs (schF n) R) (hOF : OpFit (schF n) o) : FnD p ext (F 92) [rowsD R, .agg o.c] (.tup [rowsD (doF R o).1, .agg (doF R o).2.c]) := by
  refine fn_of L.h92 (M := M92) rfl ok92 rfl fun H => sem_run 9000 _ ?_;simp;have hsm := schF_small (n := n);have hkl : (ksF (schF n)).length < 1000 := (by rw [ksF_len]; exact hsm.1);have hRl := hR.len;refine sem_loop (Do1I H o R) ?_ (k := R.length) ⟨0, .lit .nilslice, .lit .nilslice, by simp, by simp, by simp, by simpa [rowsE, res0] using Gr.start, by simpa [rowsE, res0] using Gr.start, by simp [D.hasB]⟩;rintro k fr H1 ⟨i, s, t, rfl, hi, rfl, gs, gt, hne⟩;refine sem_run 9000 _ ?_;simp
  by_cases c : i < R.length
  · obtain ⟨r, hr⟩ : ∃ r, R[i]? = some r := ⟨R[i], by simp⟩;have hrm := List.mem_of_getElem? hr;have hrl : r.length = (ksF (schF n)).length := (hR.good r hrm).len;have wi : wr .i64 ((i : Int) + 1) = ((i + 1 : Nat) : Int) := (by rw [wr_of] <;> omega);have f1 := filter_snoc (f := pk o) hr;have f2 := filter_snoc (f := fun r => !pk o r) hr;have hl6 : ((R.take i).filter (pk o)).length ≤ R.length := Nat.le_trans (List.length_filter_le _ _) (by simp; omega);have hl7 : ((R.take i).filter (fun r => !pk o r)).length ≤ R.length := Nat.le_trans (List.length_filter_le _ _) (by simp; omega)
    have push7 : pk o r = false → ∀ t' H2, Gr (H.new (.cells res0 false)) H2 1 t' (rowsE ((R.take i).filter (fun r => !pk o r)) ++ [[rowD r]]) → (∀ x, x < H1.next → ¬ t.hasB x → H2.blk x = H1.blk x) → H1.next ≤ H2.next → (∀ x, t'.hasB x → H1.next ≤ x) →
        okQ (fun fr' H' => ∃ k', k' < R.length - i ∧ Do1I H o R k' fr' H') (.ok [(0, rowsD R), (3, .rptr o.c 0), (5, .ptr H.next 0), (6, s), (7, t'), (8, .lit (.int .i64 (wr .i64 ((i : Int) + 1))))] H2) := fun hp t' H2 g2 k2 n2 h2 => by
      refine ⟨R.length - (i + 1), by omega, i + 1, s, t', rfl, by omega, by rw [wi], ?_, ?_, fun x hx ht => ?_⟩
      · rw [f1, hp];simp only [Bool.false_eq_true, if_false, List.append_nil];exact gs.keep g2.sub n2 fun x hx => k2 x (gs.far hx).2 (hne x hx)
      · rw [f2, hp];simpa [rowsE] using g2
      · have := (gs.far hx).2; have := h2 x ht; omega
    have push6 : pk o r = true → ∀ s' H2, Gr (H.new (.cells res0 false)) H2 1 s' (rowsE ((R.take i).filter (pk o)) ++ [[rowD r]]) → (∀ x, x < H1.next → ¬ s.hasB x → H2.blk x = H1.blk x) → H1.next ≤ H2.next → (∀ x, s'.hasB x → H1.next ≤ x) →
        okQ (fun fr' H' => ∃ k', k' < R.length - i ∧ Do1I H o R k' fr' H') (.ok [(0, rowsD R), (3, .rptr o.c 0), (5, .ptr H.next 0), (6, s'), (7, t), (8, .lit (.int .i64 (wr .i64 ((i : Int) + 1))))] H2) := fun hp s' H2 g2 k2 n2 h2 => by
      refine ⟨R.length - (i + 1), by omega, i + 1, s', t, rfl, by omega, by rw [wi], ?_, ?_, fun x hx ht => ?_⟩
      · rw [f1, hp];simpa [rowsE] using g2
      · rw [f2, hp];simp only [Bool.not_true, Bool.false_eq_true, if_false, List.append_nil];exact gt.keep g2.sub n2 fun x hx => k2 x (gt.far hx).2 (fun h => hne x h hx)
      · have := (gt.far ht).2; have := h2 x hx; omega
    by_cases e1 : o.kind = 1
    · have hp : pk o r = false := (by simp [pk, e1]);simp [c, hr, e1, -getElem?_pos];refine sem_push gt (by simp) (by simp) (roomyD (by simp; omega) (by simp; omega)) fun t' H2 g2 k2 n2 => ?_;simp;refine sem_ok ?_;exact push7 hp t' H2 (by simpa using g2) k2 n2.1 (fun x hx => by rw [n2.2] at hx; simp [D.hasB] at hx; omega)
    · by_cases e6 : o.kind = 6
      · have hp : pk o r = false := (by simp [pk, e6]);simp [c, hr, e6, -getElem?_pos];refine sem_push gt (by simp) (by simp) (roomyD (by simp; omega) (by simp; omega)) fun t' H2 g2 k2 n2 => ?_;simp;refine sem_ok ?_;exact push7 hp t' H2 (by simpa using g2) k2 n2.1 (fun x hx => by rw [n2.2] at hx; simp [D.hasB] at hx; omega)
      · have hq := ho.pred (by have := ho.kind; omega) (by have := ho.kind; omega);simp [c, hr, e1, e6, -getElem?_pos];refine sem_dfn (ref15_picked L hq hrl) (by first | exact D.les_refl _ | simp) (sem_run 9000 _ ?_)
        cases hpk : decide (evalF o.pred r = 1) with
        | true =>
          have hp : pk o r = true := (by simp [pk, e1, e6, pickF, hpk]);simp [hr, -getElem?_pos];refine sem_push gs (by simp) (by simp) (roomyD (by simp; omega) (by simp; omega)) fun t' H2 g2 k2 n2 => ?_;simp;refine sem_ok ?_;exact push6 hp t' H2 (by simpa using g2) k2 n2.1 (fun x hx => by rw [n2.2] at hx; simp [D.hasB] at hx; omega)
        | false =>
          have hp : pk o r = false := (by simp [pk, pickF, hpk]);simp [hr, -getElem?_pos];refine sem_push gt (by simp) (by simp) (roomyD (by simp; omega) (by simp; omega)) fun t' H2 g2 k2 n2 => ?_;simp;refine sem_ok ?_;exact push7 hp t' H2 (by simpa using g2) k2 n2.1 (fun x hx => by rw [n2.2] at hx; simp [D.hasB] at hx; omega)
  · have : i = R.length := (by omega);subst this;rw [List.take_length] at gs gt;simp [c];refine sem_exit (sem_run 9000 _ ?_);have hfine : Fine R := (hR.rows hkl (by omega)).fine;have hkind := ho.kind;have b5 : H1.blk H.next = .cells res0 false := (by rw [gs.sub.blk H.next (by simp)]; simp);have l5 : H.next < H1.next := (by have := gs.sub.next; simp at this; omega);have hls : lenbD s = some (.lit (.int .i64 ((R.filter (pk o)).length : Int))) := (by rw [gs.lenb, rows_len]);have hk : o.kind = 1 ∨ o.kind = 2 ∨ o.kind = 3 ∨ o.kind = 4 ∨ o.kind = 5 ∨ o.kind = 6 := (by omega);rcases hk with k1 | k2 | k3 | k4 | k5 | k6
    · have eA : R.filter (fun r => !pk o r) = R := List.filter_eq_self.2 fun r _ => (by simp [pk, k1]);rw [eA] at gt;simp [k1];refine sem_loop (Do2I H o R t) ?_ (k := R.length) ⟨0, by simp, by simp, fun q r hq => by omega, by simp, gt⟩;rintro k fr H2 ⟨j, rfl, hj, hno, rfl, g2⟩;refine sem_run 9000 _ ?_;simp
      by_cases cj : j < R.length
      · obtain ⟨r, hr⟩ : ∃ r, R[j]? = some r := ⟨R[j], by simp⟩;have wj : wr .i64 ((j : Int) + 1) = ((j + 1 : Nat) : Int) := (by rw [wr_of] <;> omega);obtain ⟨v, r', rfl, hv1, hv2⟩ := hF.keyN r (List.mem_of_getElem? hr);obtain ⟨w, w', hw, hw1, hw2⟩ : ∃ w w', o.row = w :: w' ∧ w.null = false ∧ w.kind = 1 := FitRs.keyN (n := n) (R := [o.row]) (fun r hr => by simp at hr; subst hr; exact hOF.row k1) o.row (by simp);have s2 := g2.sub;have b2 : H2.blk H.next = .cells res0 false := (by rw [s2.blk H.next (by simp)]; simp)
        have l2 : H.next < H2.next := by have := s2.next; simp at this; omega
        by_cases ce : v.n = w.n
        · have hd : doF R o = (R, ⟨1, 0, []⟩) := by
            have : hasR R (keyF o.row) = true := List.any_eq_true.2 ⟨_, List.mem_of_getElem? hr, by rw [hw]; simpa [keyF, atV] using ce⟩;unfold doF; rw [if_pos k1, if_pos this]
          rw [hd];simp [cj, hr, hw, ce, List.getElem?_cons_zero, -getElem?_pos];refine sem_fn (ref15_failed L) (by first | exact D.les_refl _ | simp) (sem_run 9000 _ ?_);simp;simp [b2, Rs.c];refine sem_ret ?_;simp;refine sem_ret ?_;simp [M92];have z2 := (Dv.Sub.refl (H := H)).new.trans s2;exact fin_row (x := ⟨1, 0, []⟩) (cs := [.lit (.int .i64 1), .lit (.int .i64 0), rowsD []]) (by have := z2.next; repeat (first | exact z2 | apply Sub.new | refine Sub.put ?_ (by first | omega | (simp only [put_next, new_next]; omega)))) (by simp [Rs.c])
        · simp [cj, hr, hw, ce, List.getElem?_cons_zero, -getElem?_pos];refine sem_ok ?_;refine ⟨R.length - (j + 1), by omega, j + 1, rfl, by omega, fun q x hq hx => ?_, by rw [wj], g2⟩
          by_cases e : q = j
          · subst e;rw [hr] at hx; cases hx;rw [hw]; simpa [keyF, atV] using ce
          · exact hno q x (by omega) hx
      · have : j = R.length := (by omega);subst this;have s2 := g2.sub;simp;refine sem_exit (sem_run 9000 _ ?_);simp;refine sem_push g2 (by simp) (by simp) (roomyD (by simp; omega) (by simp; omega)) fun t' H3 g3 k3 n3 => ?_;simp;refine sem_row g3 0 rfl fun H4 s4 k4 n4 => ?_;have hrow := ho.ok.row k1;have hn3 := n3.1
        have hg2 : GoodRs (ksF (schF n)) (R ++ [o.row]) := fun x hx => by
          rcases List.mem_append.1 hx with hx | hx
          · exact hR.good x hx
          · simp at hx; subst hx; exact hrow
        have hf2 : Fine (R ++ [o.row]) := ⟨by simp; omega, fun x hx => by rw [(hg2 x hx).len]; omega⟩;refine sem_fn (ref15_sort L.ref15 (l := R ++ [o.row]) hf2 hg2) (by simp [rowsD, rowsE]) (sem_run 9000 _ ?_);have b4 : H4.blk H.next = .cells res0 false := (by rw [s4.blk H.next (by simp)]; simp);have l4 : H.next < H4.next := (by have := s4.next; simp at this; omega);simp [b4];refine sem_ret ?_;simp [M92]
        have hnh : hasR R (keyF o.row) = false := by
          rw [← Bool.not_eq_true, hasR, List.any_eq_true];rintro ⟨x, hx, e⟩;obtain ⟨q, hq⟩ := List.mem_iff_getElem?.1 hx;exact hno q x (List.getElem?_eq_some_iff.1 hq).1 hq (by simpa using e)
        have hFi : FitRs (schF n) (insK R o.row) := fun x hx => by
          rcases insK_mem hx with rfl | hx
          · exact hOF.row k1
          · exact hF x hx
        have hGi : GoodRs (ksF (schF n)) (insK R o.row) := fun x hx => by
          rcases insK_mem hx with rfl | hx
          · exact hrow
          · exact hR.good x hx
        rw [sort_keys (insK_perm.trans (List.perm_append_singleton o.row R).symm) (insK_rise hR.rise hnh) hFi.keyN hGi];rw [show doF R o = (insK R o.row, ⟨0, 1, []⟩) by unfold doF; rw [if_pos k1, hnh, if_neg (by simp)]];have z4 := (Dv.Sub.refl (H := H)).new.trans s4;exact fin_row (x := ⟨0, 1, []⟩) (cs := [.lit (.int .i64 0), .lit (.int .i64 1), .lit .nilslice]) (by have := z4.next; repeat (first | exact z4 | apply Sub.new | refine Sub.put ?_ (by first | omega | (simp only [put_next, new_next]; omega)))) (by simp [Rs.c, D.les, D.le, rowsD, rowsE])
    · have ep := pk_pick (o := o) (by omega) (by omega);rw [ep] at gs gt hls;have hA : ∀ r, r ∈ R.filter (pickF o) → r ∈ R := fun r hr => (List.mem_filter.1 hr).1;have hC : ∀ r, r ∈ R.filter (fun r => !pickF o r) → r ∈ R := fun r hr => (List.mem_filter.1 hr).1;have hup := upd_split (o := o) (R := R);have hAl : (R.filter (pickF o)).length ≤ R.length := List.length_filter_le _ _;have hCl : (R.filter (fun r => !pickF o r)).length ≤ R.length := List.length_filter_le _ _;have hcnt : cntF o R = (R.filter (pickF o)).length := rfl;generalize R.filter (pickF o) = A at gs hls hA hup hAl hcnt;generalize R.filter (fun r => !pickF o r) = C at gt hC hup hCl
      simp [k2];refine sem_turn gs 6 (by simp) fun H2 s2 kk2 n2 => ?_;have gt2 := gt.keep s2 (by omega) fun x hx => kk2 x fun h => hne x h hx;refine sem_as [(0, rowsD R), (3, .rptr o.c 0), (5, .ptr H.next 0), (6, rowsD A), (7, t), (10, .lit (.int .i64 0))] (by simp [D.le_refl, rowsD]) ?_;refine sem_loop (Do3I H o R A C) ?_ (k := A.length) ⟨0, t, [], by simp, by simp, rfl, by simp, by simpa using gt2⟩;rintro k fr H3 ⟨j, t', Q, rfl, hj, hQ, rfl, g3⟩;refine sem_run 9000 _ ?_;simp;have s3 := g3.sub;have b3 : H3.blk H.next = .cells res0 false := (by rw [s3.blk H.next (by simp)]; simp)
      have l3 : H.next < H3.next := (by have := s3.next; simp at this; omega);have z3 := (Dv.Sub.refl (H := H)).new.trans s3;have hQl := setL_len hQ
      have hQl2 : Q.length ≤ R.length := by rw [hQl]; simp; omega
      by_cases cj : j < A.length
      · obtain ⟨r, hr⟩ : ∃ r, A[j]? = some r := ⟨A[j], by simp⟩;have hrm := hA r (List.mem_of_getElem? hr);have hrg := hR.good r hrm;have hrl := hrg.len;have wj : wr .i64 ((j : Int) + 1) = ((j + 1 : Nat) : Int) := (by rw [wr_of] <;> omega);have hsn := setL_snoc (o := o) hr;rw [hQ] at hsn;simp [cj, hr, -getElem?_pos];refine sem_dfn (ref15_set L.ref15 (r := r) (l := o.sets) (by omega) (by have := ho.ok.op.sets; omega) (fun v hv => (hrg.good v hv).int) (fun x hx => (ho.ok.sets k2 x hx).good) (fun x hx => by have := (ho.ok.sets k2 x hx).col; omega)) (by first | exact D.les_refl _ | simp) (sem_run 9000 _ ?_)
        cases hs : setF r o.sets with
        | none =>
          rw [hs] at hsn;have hn := setL_none hsn
          have hu : updF o R = none := by
            cases hu : updF o R with
            | none => rfl
            | some M =>
              obtain ⟨Q', q1, _⟩ := hup.2 M hu;rw [hn] at q1; cases q1
          simp [setD];refine sem_fn (ref15_failed L) (by first | exact D.les_refl _ | simp) (sem_run 9000 _ ?_);simp;simp [b3, Rs.c];refine sem_ret ?_;simp;refine sem_ret ?_;simp [M92];rw [show doF R o = (R, ⟨2, 0, []⟩) by simp [doF, k2, hu]];exact fin_row (x := ⟨2, 0, []⟩) (cs := [.lit (.int .i64 2), .lit (.int .i64 0), rowsD []]) (by have := z3.next; repeat (first | exact z3 | apply Sub.new | refine Sub.put ?_ (by first | omega | (simp only [put_next, new_next]; omega)))) (by simp [Rs.c])
        | some r' =>
          rw [hs] at hsn;simp [setD];refine sem_push g3 (by simp) (by simp) (roomyD (by simp; omega) (by simp; omega)) fun t2 H4 g4 _ _ => ?_;simp;refine sem_ok ?_;exact ⟨A.length - (j + 1), by omega, j + 1, t2, Q ++ [r'], rfl, by omega, hsn, by rw [wj], by simpa [rowsE] using g4⟩
      · have : j = A.length := (by omega);subst this;simp;refine sem_exit (sem_run 9000 _ ?_);simp;refine sem_row g3 0 rfl fun H4 s4 k4 n4 => ?_;rw [List.take_length] at hQ
        obtain ⟨M, hM, hP⟩ : ∃ M, updF o R = some M ∧ M.Perm (C ++ Q) := by
          cases hu : updF o R with
          | none => rw [hup.1 hu] at hQ; cases hQ
          | some M =>
            obtain ⟨Q', q1, q2⟩ := hup.2 M hu;rw [hQ] at q1; cases q1;exact ⟨M, rfl, q2⟩
        obtain ⟨gM, kM⟩ := updF_ok (ho.ok.sets k2) hR.good hM;have rM : KeyRise M := keyRise_map.2 (by rw [kM]; exact keyRise_map.1 hR.rise);have fM := (updF_fit hOF.sets hF hM).keyN;have hg2 : GoodRs (ksF (schF n)) (C ++ Q) := fun x hx => gM x (hP.mem_iff.2 hx);have hf2 : Fine (C ++ Q) := ⟨by simp; omega, fun x hx => by rw [(hg2 x hx).len]; omega⟩;refine sem_fn (ref15_sort L.ref15 (l := C ++ Q) hf2 hg2) (by simp [rowsD, rowsE]) (sem_run 9000 _ ?_);have b4 : H4.blk H.next = .cells res0 false := (by rw [s4.blk H.next (by simp)]; simp);have l4 : H.next < H4.next := (by have := s4.next; simp at this; omega)
        simp [b4];refine sem_ret ?_;simp [M92];rw [sort_keys hP rM fM gM];rw [show doF R o = (M, ⟨0, cntF o R, []⟩) by simp [doF, k2, hM]];have z4 := (Dv.Sub.refl (H := H)).new.trans s4;exact fin_row (x := ⟨0, cntF o R, []⟩) (cs := [.lit (.int .i64 0), .lit (.int .i64 (A.length : Int)), .lit .nilslice]) (by have := z4.next; repeat (first | exact z4 | apply Sub.new | refine Sub.put ?_ (by first | omega | (simp only [put_next, new_next]; omega)))) (by simp [Rs.c, D.les, D.le, rowsD, rowsE, hcnt])
    · have ep := pk_pick (o := o) (by omega) (by omega);rw [ep] at gs gt hls;simp [k3, b5, hls];refine sem_ret ?_;simp [M92];rw [show doF R o = (keepF (pickF o) R, ⟨0, cntF o R, []⟩) by simp [doF, k3]];exact fin_own (x := ⟨0, cntF o R, []⟩) (cs := [.lit (.int .i64 0), .lit (.int .i64 (cntF o R : Int)), .lit .nilslice]) (gt.aside (Dv.Sub.refl (H := H)).new (Nat.le_refl _) (by simp)) (by simp [Rs.c, D.les, D.le, rowsD, rowsE])
    · have ep := pk_pick (o := o) (by omega) (by omega);rw [ep] at gs gt hls;simp [k4];refine sem_row gs 0 rfl fun H4 s4 k4' n4 => ?_;obtain ⟨hc1, hc2⟩ := ho.ok.cols k4;have hgA : GoodRs (ksF (schF n)) (R.filter (pickF o)) := fun x hx => hR.good x (List.mem_filter.1 hx).1;have hfA : Fine (R.filter (pickF o)) := ⟨by have := List.length_filter_le (pickF o) R; omega, fun x hx => hfine.2 x (List.mem_filter.1 hx).1⟩;refine sem_fn (ref15_cols L.ref15 (m := .p) hfA hgA hc1 hc2) (by simp [rowsD]) (sem_run 9000 _ ?_);have b4 : H4.blk H.next = .cells res0 false := (by rw [s4.blk H.next (by simp)]; simp)
      have l4 : H.next < H4.next := (by have := s4.next; simp at this; omega);simp [b4];refine sem_ret ?_;simp [M92];rw [show doF R o = (R, ⟨0, 0, sortL cmpR (colsF o.cols (R.filter (pickF o)))⟩) by simp [doF, k4]];have z4 := (Dv.Sub.refl (H := H)).new.trans s4;exact fin_row (x := ⟨0, 0, sortL cmpR (colsF o.cols (R.filter (pickF o)))⟩) (cs := [.lit (.int .i64 0), .lit (.int .i64 0), rowsD (sortL cmpR (colsF o.cols (R.filter (pickF o))))]) (by have := z4.next; repeat (first | exact z4 | apply Sub.new | refine Sub.put ?_ (by first | omega | (simp only [put_next, new_next]; omega)))) (by simp [Rs.c])
    · have ep := pk_pick (o := o) (by omega) (by omega);rw [ep] at gs gt hls;simp [k5];refine sem_row gs 0 rfl fun H4 s4 k4' n4 => ?_;obtain ⟨hg1, hg2, _⟩ := ho.ok.aggs k5;have hgA : GoodRs (ksF (schF n)) (R.filter (pickF o)) := fun x hx => hR.good x (List.mem_filter.1 hx).1;have hfA : Fine (R.filter (pickF o)) := ⟨by have := List.length_filter_le (pickF o) R; omega, fun x hx => hfine.2 x (List.mem_filter.1 hx).1⟩;refine sem_fn (ref15_groups L.ref15 hfA hgA (by omega) hg1 (fun a ha => ho.aggs a ha) hg2) (by simp [rowsD]) (sem_run 9000 _ ?_);have b4 : H4.blk H.next = .cells res0 false := (by rw [s4.blk H.next (by simp)]; simp)
      have l4 : H.next < H4.next := (by have := s4.next; simp at this; omega);have z4 := (Dv.Sub.refl (H := H)).new.trans s4;obtain ⟨G, hG⟩ : ∃ G, grpsF o.group o.aggs (R.filter (pickF o)) = G := ⟨_, rfl⟩;rw [hG]
      cases hb : G.2 with
      | true =>
        simp [grpD, hb, b4];refine sem_ret ?_;simp [M92];rw [show doF R o = (R, ⟨0, 0, G.1⟩) by simp [doF, k5, hG, hb]];exact fin_row (x := ⟨0, 0, G.1⟩) (cs := [.lit (.int .i64 0), .lit (.int .i64 0), rowsD G.1]) (by have := z4.next; repeat (first | exact z4 | apply Sub.new | refine Sub.put ?_ (by first | omega | (simp only [put_next, new_next]; omega)))) (by simp [Rs.c])
      | false =>
        simp [grpD, hb];refine sem_fn (ref15_failed L) (by first | exact D.les_refl _ | simp) (sem_run 9000 _ ?_);simp;simp [b4, Rs.c];refine sem_ret ?_;simp [M92];rw [show doF R o = (R, ⟨2, 0, []⟩) by simp [doF, k5, hG, hb]];exact fin_row (x := ⟨2, 0, []⟩) (cs := [.lit (.int .i64 2), .lit (.int .i64 0), rowsD []]) (by have := z4.next; repeat (first | exact z4 | apply Sub.new | refine Sub.put ?_ (by first | omega | (simp only [put_next, new_next]; omega)))) (by simp [Rs.c])
    · have hd : doF R o = (R, ⟨3, 0, []⟩) := (by simp [doF, k6]);rw [hd];simp [k6];refine sem_fn (ref15_failed L) (by first | exact D.les_refl _ | simp) (sem_run 9000 _ ?_);simp;simp [b5, Rs.c];refine sem_ret ?_;simp [M92];have s1 := gs.sub;have z1 := (Dv.Sub.refl (H := H)).new.trans s1;exact fin_row (x := ⟨3, 0, []⟩) (cs := [.lit (.int .i64 3), .lit (.int .i64 0), rowsD []]) (by have := z1.next; repeat (first | exact z1 | apply Sub.new | refine Sub.put ?_ (by first | omega | (simp only [put_next, new_next]; omega)))) (by simp [Rs.c])
end Go.Lib
end

section
set_option maxRecDepth 10000
namespace Go.Lib
open Go.Vm Go.Dv Go.Srt
variable {p : Prog} {ext : Ext} {F : Nat → Nat}
attribute [-simp] bin_and bin_xor
structure HRun15 (p : Prog) (ext : Ext) (F : Nat → Nat) : Prop where
  do15 : HDo15 p ext F
  h93 : Has p ext F 93 M93
  h94 : Has p ext F 94 M94
def Run15I (H0 : HpD) (n : Int) (B : Nat) (R : List Row) (l : List Op) (k : Nat) (fr : FrD) (H : HpD) : Prop :=
  ∃ (i : Nat) (now : List Row) (out : List Rs) (t : D), k = l.length - i ∧ i ≤ l.length ∧ out.length = i ∧ RowsK (ksF (schF n)) (B + i) now ∧ FitRs (schF n) now ∧ runF R R [] l = runF R now out (l.drop i) ∧
    fr = [(0, rowsD R), (1, opsD l), (6, rowsD now), (7, t), (8, .lit (.int .i64 (i : Int)))] ∧ Gr H0 H 3 t (out.map Rs.c)
theorem ref15_run (L : HRun15 p ext F) {n : Int} {B : Nat} {R : List Row} {l : List Op} (h : RowsK (ksF (schF n)) B R) (hF : FitRs (schF n) R) (hB : B + l.length < 100000) (ho : ∀ o, o ∈ l → OpW n o ∧ OpFit (schF n) o) : FnD p ext (F 93) [rowsD R, opsD l] (.tup [rowsD (runF R R [] l).1, rssD (runF R R [] l).2]) := by
  refine fn_of L.h93 (M := M93) rfl ok93 rfl fun H => sem_run 9000 _ ?_;simp;refine sem_loop (Run15I H n B R l) ?_ (k := l.length) ⟨0, R, [], .lit .nilslice, by simp, by simp, rfl, h, hF, rfl, rfl, by simpa using Gr.start⟩;rintro k fr H1 ⟨i, now, out, t, rfl, hi, hol, hnow, hfit, hrun, rfl, g⟩;refine sem_run 9000 _ ?_;simp
  by_cases c : i < l.length
  · obtain ⟨o, ho'⟩ : ∃ o, l[i]? = some o := ⟨l[i], by simp⟩
    have hdrop : l.drop i = o :: l.drop (i + 1) := by
      rw [List.drop_eq_getElem_cons c]; congr; exact (List.getElem?_eq_some_iff.1 ho').2
    rw [hdrop] at hrun;obtain ⟨hok, hof⟩ := ho o (List.mem_of_getElem? ho');have wi : wr .i64 ((i : Int) + 1) = ((i + 1 : Nat) : Int) := (by rw [wr_of] <;> omega);simp [c, ho', -getElem?_pos];refine sem_fn (ref15_do L.do15 hnow (by omega) hok hfit hof) (by first | exact D.les_refl _ | simp) (sem_run 9000 _ ?_);have hd := doF_ok hnow hok.ok;have fd := doF_fit hfit hof
    have hstep : runF R now out (o :: l.drop (i + 1)) = if (doF now o).2.err ≠ 0 then (R, out ++ [(doF now o).2]) else runF R (doF now o).1 (out ++ [(doF now o).2]) (l.drop (i + 1)) := rfl
    rw [hstep] at hrun;generalize doF now o = x at hrun hd fd;obtain ⟨now', rs⟩ := x;simp;refine sem_push (g.mono (by repeat (first | exact Sub.refl | apply Sub.new | refine Sub.put ?_ (by first | omega | (simp only [put_next, new_next]; omega))))) rfl rfl (roomyD (by simp; omega) (by simp; omega)) fun t' H2 g2 k2 n2 => ?_;obtain ⟨n2, rfl⟩ := n2;simp at n2
    have hb : H2.blk H1.next = .cells rs.c false := by
      rw [k2 _ (by simp) (fun h => by have := (g.far h).2; omega)]; simp
    have l13 : H1.next < H2.next := (by omega);have hout : out.map Rs.c ++ [rs.c] = (out ++ [rs]).map Rs.c := (by simp);rw [hout] at g2
    by_cases ce : rs.err = 0
    · simp [hb, ce];refine sem_ok ?_;rw [if_neg (by simp [ce])] at hrun;exact ⟨l.length - (i + 1), by omega, i + 1, now', out ++ [rs], _, rfl, by omega, by simp [hol], hd, fd, hrun, by rw [wi], by simpa using g2⟩
    · simp [hb, ce];rw [if_pos (by simpa using ce)] at hrun;refine sem_ret ?_;simp;refine sem_ret ?_;simp [M93];rw [hrun];exact fin_run (by simpa using g2)
  · have : i = l.length := (by omega);subst this;simp;refine sem_exit (sem_run 9000 _ ?_);simp;refine sem_ret ?_;simp [M93];rw [hrun, List.drop_length];exact fin_run g
theorem ref15_sameRes2 (L : HRun15 p ext F) {x : Rs} (hf : Fine x.rows) : FnD p ext (F 94) [.agg x.c, .agg x.c] (.lit (.bool true)) := by
  refine fn_of L.h94 (M := M94) rfl ok94 rfl fun H => sem_run 9000 _ ?_;simp;refine sem_fn (ref6_same L.do15.ref6e.ref6 hf) (by first | exact D.les_refl _ | simp) (sem_run 9000 _ ?_);simp;refine sem_ret ?_;simp [M94];exact .same (by simp)
theorem doF_fine {ks : List Int} {n B : Nat} {R : List Row} {o : Op} (hR : RowsK ks B R) (hk : ks.length < 1000) (hB : B < 1000000) (ho : OpOk ks n o) : Fine (doF R o).2.rows := by
  have hf : Fine R := (hR.rows hk hB).fine;have h0 : Fine ([] : List Row) := ⟨by simp, fun r hr => by simp at hr⟩;have hfA : Fine (R.filter (pickF o)) := ⟨by have := List.length_filter_le (pickF o) R; have := hf.1; omega, fun x hx => hf.2 x (List.mem_filter.1 hx).1⟩;unfold doF;split
  · split <;> exact h0
  · split
    · split <;> exact h0
    · split
      · exact h0
      · split
        · rename_i o4;exact sort_fine (colsF_fine (cols := o.cols) hfA (by have := (ho.cols o4).1; omega))
        · split
          · rename_i o5;split
            · exact grpsF_fine (c := o.group) (ags := o.aggs) hfA (by have := (ho.aggs o5).2.1; omega)
            · exact h0
          · split <;> exact h0
theorem runF_fine {ks : List Int} {n : Nat} {R0 : List Row} (hk : ks.length < 1000) : ∀ {l : List Op} {now : List Row} {out : List Rs} {C : Nat}, C + l.length < 1000000 → RowsK ks C now → (∀ o, o ∈ l → OpOk ks n o) → (∀ x, x ∈ out → Fine x.rows) → ∀ x, x ∈ (runF R0 now out l).2 → Fine x.rows
  | [], now, out, C, _, _, _, h => h
  | o :: l, now, out, C, hC, hn, ho, h => by
    simp only [List.length_cons] at hC;have hd := doF_fine hn hk (by omega) (ho o (by simp))
    have h2 : ∀ x, x ∈ out ++ [(doF now o).2] → Fine x.rows := fun x hx => by
      rcases List.mem_append.1 hx with hx | hx
      · exact h x hx
      · simp at hx; subst hx; exact hd
    have hstep : runF R0 now out (o :: l) = if (doF now o).2.err ≠ 0 then (R0, out ++ [(doF now o).2]) else runF R0 (doF now o).1 (out ++ [(doF now o).2]) l := rfl
    rw [hstep];split
    · exact h2
    · exact runF_fine hk (C := C + 1) (by omega) (doF_ok hn (ho o (by simp))) (fun y hy => ho y (by simp [hy])) h2
end Go.Lib
end

section
set_option maxRecDepth 10000
namespace Go.Lib
open Go.Vm Go.Dv Go.Srt
variable {p : Prog} {ext : Ext} {F : Nat → Nat}
attribute [-simp] bin_and bin_xor
structure HPlays (p : Prog) (ext : Ext) (F : Nat → Nat) : Prop where
  modl : HModl p ext F
  prog : HProg p ext F
  run15 : HRun15 p ext F
  awake : FnD p ext (F 107) [] (.lit (.bool true))
  h100 : Has p ext F 100 M100
def PlaysI (n : Int) (m m2 : Md) (l l2 : List Int) (k : Nat) (fr : FrD) (_ : HpD) : Prop :=
  ∃ (i : Nat) (R : List Row), k = 26 - i ∧ i ≤ 25 ∧ i ≤ l2.length ∧ RowsK (ksF (schF n)) (6 * i) R ∧ FitRs (schF n) R ∧ fr = [(1, intsD m l), (2, intsD m2 l2), (7, .rptr [schR (schF n)] 0), (8, rowsD R), (9, rowsD R), (10, .lit (.int .i64 (i : Int)))]
def PlaysJ (n : Int) (m m2 : Md) (l l2 : List Int) (i : Nat) (P : List Op) (R : List Row) (E : List Rs) (k : Nat) (fr : FrD) (_ : HpD) : Prop :=
  ∃ j : Nat, k = E.length - j ∧ j ≤ E.length ∧ fr = [(1, intsD m l), (2, intsD m2 l2), (7, .rptr [schR (schF n)] 0), (10, .lit (.int .i64 (i : Int))), (11, opsD P), (12, rowsD R), (13, rssD E), (14, rowsD R), (15, rssD E), (65, .lit (.int .i64 (E.length : Int))), (66, .lit (.int .i64 (j : Int)))]
theorem modlPlays (L : HPlays p ext F) {n : Int} {m m2 : Md} {l l2 : List Int} {H : HpD} : WcD p ext (F 100) [.lit (.int .i64 n), intsD m l, intsD m2 l2] H (fun d _H' => d = .lit (.bool true)) := by
  refine wc_of L.h100 (M := M100) rfl ok100 rfl (sem_run 9000 _ ?_);simp;refine sem_fn (schema L.prog.op.pr.law6) (by first | exact D.les_refl _ | simp) (sem_run 4 _ ?_);simp;refine sem_box (b := H.next) (cs := [schR (schF n)]) (ro := false) 7 (by simp) (by simp) ?_;refine sem_run 9000 _ ?_;simp;have hsm := schF_small (n := n);have hkl : (ksF (schF n)).length < 1000 := (by rw [ksF_len]; exact hsm.1);refine sem_as [(1, intsD m l), (2, intsD m2 l2), (7, .rptr [schR (schF n)] 0), (8, rowsD []), (9, rowsD []), (10, .lit (.int .i64 0))] (by simp [D.le, D.le_refl, intsD, rowsD, rowsE]) ?_;refine sem_loop (PlaysI n m m2 l l2) ?_ (k := 26) ⟨0, [], by simp, by simp, by simp, ⟨fun r hr => by simp at hr, by simp [KeyRise], by simp⟩, fun r hr => by simp at hr, by simp⟩;rintro k fr H1 ⟨i, R, rfl, hi, hil, hR, hF, rfl⟩;refine sem_run 9000 _ ?_;simp
  by_cases c : i < l2.length ∧ i < 25
  · obtain ⟨c1, c2⟩ := c;have c2' : (i : Int) < 25 := (by omega);have wi : wr .i64 ((i : Int) + 1) = ((i + 1 : Nat) : Int) := (by rw [wr_of] <;> omega);obtain ⟨x, hx⟩ : ∃ x, l2[i]? = some x := ⟨l2[i], by simp⟩;simp [c1, c2', hx, -getElem?_pos];refine sem_dfn (law15_program L.prog (s := schF n) (m := m) (l := l) (n := x) hsm.2 hsm.1) (by first | exact D.les_refl _ | simp) (sem_run 9000 _ ?_);have hP := progF_ok (n := n) (l := l) (x := x);have hPf := progF_fit (n := n) (l := l) (x := x);have hPl : (progF (schF n) l x).length ≤ 6 := (by rw [progF_len]; exact lenG_le);generalize progF (schF n) l x = P at hP hPf hPl;simp;refine sem_fn (modl_run L.modl (ks := ksF (schF n)) (n := 4) (B := 6 * i) (sc := schF n) (R := R) (l := P) hkl hR (by omega) (fun o ho => (hP o ho).ok)) (by first | exact D.les_refl _ | simp) (sem_run 9000 _ ?_);simp;refine sem_fn (ref15_run L.run15 (n := n) (B := 6 * i) (R := R) (l := P) hR hF (by omega) (fun o ho => ⟨hP o ho, hPf o ho⟩)) (by first | exact D.les_refl _ | simp) (sem_run 9000 _ ?_);obtain ⟨r1, r2, e, r3, r4, _⟩ := runF_ok (s := schF n) (ks := ksF (schF n)) (n := 4) (R0 := R) hR hF (l := P) (now := R) (out := []) (C := 6 * i) (Nat.le_refl _) hR hF (fun o ho => ⟨(hP o ho).ok, hPf o ho⟩)
    have hfine := runF_fine (ks := ksF (schF n)) (n := 4) (R0 := R) hkl (l := P) (now := R) (out := []) (C := 6 * i) (by omega) hR (fun o ho => (hP o ho).ok) (fun x hx => by simp at hx);obtain ⟨R', E, hrun⟩ : ∃ R' E, runF R R [] P = (R', E) := ⟨_, _, rfl⟩;rw [hrun] at r1 r2 r3 hfine;have r3 : E = e := (by simpa using r3);subst r3;have r1 : RowsK (ksF (schF n)) (6 * (i + 1)) R' := r1.more (by omega);have r2 : FitRs (schF n) R' := r2;have hfine : ∀ x, x ∈ E → Fine x.rows := hfine;rw [hrun];have hR'f : Fine R' := (r1.rows hkl (by omega)).fine;simp;refine sem_fn (ref6_same L.run15.do15.ref6e.ref6 hR'f) (by first | exact D.les_refl _ | simp) (sem_run 9000 _ ?_);simp;refine sem_loop (PlaysJ n m m2 l l2 i P R' E) ?_ (k := E.length) ⟨0, by simp, by simp, by simp⟩;rintro k fr H2 ⟨j, rfl, hj, rfl⟩;refine sem_run 9000 _ ?_;simp
    by_cases cj : j < E.length
    · obtain ⟨y, hy⟩ : ∃ y, E[j]? = some y := ⟨E[j], by simp⟩;have wj : wr .i64 ((j : Int) + 1) = ((j + 1 : Nat) : Int) := (by rw [wr_of] <;> omega);simp [cj, hy, -getElem?_pos];refine sem_dfn (ref15_sameRes2 L.run15 (hfine y (List.mem_of_getElem? hy))) (by first | exact D.les_refl _ | simp) (sem_run 9000 _ ?_);simp;refine sem_ok ?_;exact ⟨E.length - (j + 1), by omega, j + 1, rfl, by omega, by rw [wj]⟩
    · have : j = E.length := (by omega);subst this;simp;refine sem_exit (sem_run 9000 _ ?_);simp;have done : ∃ k', k' < 26 - i ∧ PlaysI n m m2 l l2 k' [(1, intsD m l), (2, intsD m2 l2), (7, .rptr [schR (schF n)] 0), (8, rowsD R'), (9, rowsD R'), (10, .lit (.int .i64 (wr .i64 ((i : Int) + 1))))] H2 := ⟨26 - (i + 1), by omega, i + 1, R', rfl, by omega, by omega, r1, r2, by rw [wi]⟩
      by_cases hP0 : 0 < P.length
      · obtain ⟨o, ho⟩ : ∃ o, P[0]? = some o := ⟨P[0], by simp⟩;have hoP := List.mem_of_getElem? ho;have hd := modl_do L.modl (sc := schF n) (r1.do_ hkl (by omega) (hP o hoP).ok);have hd15 := ref15_do L.run15.do15 r1 (by omega) (hP o hoP) r2 (hPf o hoP);have hf1 : Fine (doF R' o).1 := ((doF_ok r1 (hP o hoP).ok).rows hkl (by omega)).fine;have hf2 := doF_fine r1 hkl (by omega) (hP o hoP).ok;obtain ⟨RD, sD, hRD⟩ : ∃ RD sD, doF R' o = (RD, sD) := ⟨_, _, rfl⟩;rw [hRD] at hd hd15 hf1 hf2;simp [hP0, ho, -getElem?_pos];refine sem_dfn hd (by first | exact D.les_refl _ | simp) (sem_run 9000 _ ?_);simp [ho, -getElem?_pos];refine sem_fn hd15 (by first | exact D.les_refl _ | simp) (sem_run 9000 _ ?_)
        simp;refine sem_fn (ref6_same L.run15.do15.ref6e.ref6 hf1) (by first | exact D.les_refl _ | simp) (sem_run 9000 _ ?_);simp;refine sem_fn (ref15_sameRes2 L.run15 hf2) (by first | exact D.les_refl _ | simp) (sem_run 9000 _ ?_);simp;exact sem_ok done
      · simp [hP0];exact sem_ok done
  · by_cases c1 : i < l2.length
    case' pos => simp [c1, show ¬ (i : Int) < 25 by omega]
    case' neg => simp [c1]
    all_goals
      refine sem_exit (sem_run 9000 _ ?_);simp;refine sem_fn (L.awake) (by first | exact D.les_refl _ | simp) (sem_run 9000 _ ?_);simp;refine sem_ret ?_;simp [M100]
end Go.Lib
end

section
namespace Go.Proofs.Ytnbmmnjihipahaa.sa
def F0 (i : Nat) : Nat := ([0, 56, 60, 57, 61, 62, 138, 131, 88, 87, 89, 90, 91, 85, 92, 140, 135, 136, 116, 117, 118, 137, 18, 17, 25, 27, 54, 86, 114, 115, 127, 132, 15, 21, 22, 23, 52, 53, 55, 58, 63, 84, 93, 112, 113, 119, 19, 64, 24, 31, 67, 4, 16, 26, 28, 29, 30, 65, 66, 68, 94, 6, 7, 5, 20, 71, 96, 95, 97, 98, 33, 38, 69, 70, 72, 73, 74, 77, 100, 99, 101, 102, 103, 120, 121, 128, 133, 104, 43, 123, 122, 80, 42, 41, 37, 78, 79, 36, 40, 76, 12, 13, 11, 9, 10, 39, 35, 34] : List Nat).getD i 0
end Go.Proofs.Ytnbmmnjihipahaa.sa
end

section
set_option maxRecDepth 100000
namespace Go.Proofs.Ytnbmmnjihipahaa
open Go.Vm
def m12 : Fun := Go.Lib.M100 Go.Proofs.Ytnbmmnjihipahaa.sa.F0
theorem v12 : IsFun Try.prog 12 m12 := ⟨_, Try.func12, by kernel_rfl, by kernel_rfl⟩
def m15 : Fun := Go.Lib.M32 Go.Proofs.Ytnbmmnjihipahaa.sa.F0
theorem v15 : IsFun Try.prog 15 m15 := ⟨_, Try.func15, by kernel_rfl, by kernel_rfl⟩
def m17 : Fun := Go.Lib.M23 Go.Proofs.Ytnbmmnjihipahaa.sa.F0
theorem v17 : IsFun Try.prog 17 m17 := ⟨_, Try.func17, by kernel_rfl, by kernel_rfl⟩
def m18 : Fun := Go.Lib.M22 Go.Proofs.Ytnbmmnjihipahaa.sa.F0
theorem v18 : IsFun Try.prog 18 m18 := ⟨_, Try.func18, by kernel_rfl, by kernel_rfl⟩
def m19 : Fun := Go.Lib.M46 Go.Proofs.Ytnbmmnjihipahaa.sa.F0
theorem v19 : IsFun Try.prog 19 m19 := ⟨_, Try.func19, by kernel_rfl, by kernel_rfl⟩
def m21 : Fun := Go.Lib.M33 Go.Proofs.Ytnbmmnjihipahaa.sa.F0
theorem v21 : IsFun Try.prog 21 m21 := ⟨_, Try.func21, by kernel_rfl, by kernel_rfl⟩
def m22 : Fun := Go.Lib.M34 Go.Proofs.Ytnbmmnjihipahaa.sa.F0
theorem v22 : IsFun Try.prog 22 m22 := ⟨_, Try.func22, by kernel_rfl, by kernel_rfl⟩
def m23 : Fun := Go.Lib.M35 Go.Proofs.Ytnbmmnjihipahaa.sa.F0
theorem v23 : IsFun Try.prog 23 m23 := ⟨_, Try.func23, by kernel_rfl, by kernel_rfl⟩
def m24 : Fun := Go.Lib.M48 Go.Proofs.Ytnbmmnjihipahaa.sa.F0
theorem v24 : IsFun Try.prog 24 m24 := ⟨_, Try.func24, by kernel_rfl, by kernel_rfl⟩
def m25 : Fun := Go.Lib.M24 Go.Proofs.Ytnbmmnjihipahaa.sa.F0
theorem v25 : IsFun Try.prog 25 m25 := ⟨_, Try.func25, by kernel_rfl, by kernel_rfl⟩
def m26 : Fun := Go.Lib.M53 Go.Proofs.Ytnbmmnjihipahaa.sa.F0
theorem v26 : IsFun Try.prog 26 m26 := ⟨_, Try.func26, by kernel_rfl, by kernel_rfl⟩
def m27 : Fun := Go.Lib.M25 Go.Proofs.Ytnbmmnjihipahaa.sa.F0
theorem v27 : IsFun Try.prog 27 m27 := ⟨_, Try.func27, by kernel_rfl, by kernel_rfl⟩
def m28 : Fun := Go.Lib.M54 Go.Proofs.Ytnbmmnjihipahaa.sa.F0
theorem v28 : IsFun Try.prog 28 m28 := ⟨_, Try.func28, by kernel_rfl, by kernel_rfl⟩
def m29 : Fun := Go.Lib.M55 Go.Proofs.Ytnbmmnjihipahaa.sa.F0
theorem v29 : IsFun Try.prog 29 m29 := ⟨_, Try.func29, by kernel_rfl, by kernel_rfl⟩
def m30 : Fun := Go.Lib.M56 Go.Proofs.Ytnbmmnjihipahaa.sa.F0
theorem v30 : IsFun Try.prog 30 m30 := ⟨_, Try.func30, by kernel_rfl, by kernel_rfl⟩
def m31 : Fun := Go.Lib.M49 Go.Proofs.Ytnbmmnjihipahaa.sa.F0
theorem v31 : IsFun Try.prog 31 m31 := ⟨_, Try.func31, by kernel_rfl, by kernel_rfl⟩
def m33 : Fun := Go.Lib.M70 Go.Proofs.Ytnbmmnjihipahaa.sa.F0
theorem v33 : IsFun Try.prog 33 m33 := ⟨_, Try.func33, by kernel_rfl, by kernel_rfl⟩
def m34 : Fun := ⟨122,0,.seq (.region [⟨some 0,.p (.mov (.val (.bool false))),none⟩])
 (.seq (.region [⟨some 10,.p (.build [.str [],.int .i64 (.ofNat 0),.bool false] [(0,1,(.val (.str [107,101,121]))),(1,1,(.val (.int .i64 (.ofNat 1))))]),none⟩,⟨some 11,.p (.build [.str [],.int .i64 (.ofNat 0),.bool false] [(0,1,(.val (.str [97]))),(1,1,(.val (.int .i64 (.ofNat 1))))]),none⟩,⟨some 12,.a (.bslice [.str [],.int .i64 (.ofNat 0),.bool false,.str [],.int .i64 (.ofNat 0),.bool false] 3 2 [(0,3,(.tmp 10)),(3,3,(.tmp 11))]),none⟩,⟨some 13,.p (.build [.nilslice] [(0,1,(.tmp 12))]),none⟩,⟨some 1,.a (.new [.nilslice]),none⟩,⟨none,.e (.store 1 (.tmp 1) (.tmp 13)),none⟩])
 (.seq (.region [⟨some 2,.p (.mov (.val (.func 75 [] []))),none⟩])
 (.seq (.region [⟨some 14,.p (.build [.int .i64 (.ofNat 0),.int .i64 (.ofNat 0),.int .i64 (.ofNat 0),.bool false,.int .i64 (.ofNat 0),.int .i64 (.ofNat 0),.nilslice,.nilslice] [(0,1,(.val (.int .i64 (.ofNat 1))))]),none⟩,⟨some 3,.a (.new [.int .i64 (.ofNat 0),.int .i64 (.ofNat 0),.int .i64 (.ofNat 0),.bool false,.int .i64 (.ofNat 0),.int .i64 (.ofNat 0),.nilslice,.nilslice]),none⟩,⟨none,.e (.store 8 (.tmp 3) (.tmp 14)),none⟩])
 (.seq (.dregion [⟨⟨some 17,.p (.mov (.tmp 2)),none⟩,0,1⟩,⟨⟨some 18,.e (.callv (.tmp 17) [(.val (.int .i64 (.ofNat 2)))]),none⟩,0,3⟩,⟨⟨some 19,.p (.mov (.tmp 2)),none⟩,0,3⟩,⟨⟨some 20,.e (.callv (.tmp 19) [(.val (.int .i64 (.ofNat 5)))]),none⟩,2,5⟩,⟨⟨some 24,.p (.mov (.tmp 2)),none⟩,0,5⟩,⟨⟨some 25,.e (.callv (.tmp 24) [(.val (.int .i64 (.ofNat 4)))]),none⟩,4,17⟩,⟨⟨some 16,.loadn 1 (.tmp 1),none⟩,0,17⟩,⟨⟨some 21,.a (.bslice [.bool false,.int .i64 (.ofNat 0),.int .i64 (.ofNat 0),.nilslice,.bool false,.int .i64 (.ofNat 0),.int .i64 (.ofNat 0),.nilslice] 4 2 [(0,4,(.tmp 18)),(4,4,(.tmp 20))]),none⟩,4,17⟩,⟨⟨some 22,.p (.build [.int .i64 (.ofNat 0),.nilslice,.int .i64 (.ofNat 0),.int .i64 (.ofNat 0),.int .i64 (.ofNat 0),.bool false,.int .i64 (.ofNat 0),.int .i64 (.ofNat 0),.nilslice,.nilslice,.nilslice,.nilslice,.int .i64 (.ofNat 0),.nilslice] [(0,1,(.val (.int .i64 (.ofNat 1)))),(1,1,(.tmp 21))]),none⟩,4,17⟩,⟨⟨some 23,.loadn 8 (.tmp 3),none⟩,0,17⟩,⟨⟨some 26,.p (.build [.int .i64 (.ofNat 0),.bool false,.bool false,.int .i64 (.ofNat 0),.int .i64 (.ofNat 0),.nilslice] [(0,1,(.val (.int .i64 (.ofNat 1)))),(1,1,(.val (.bool true))),(2,4,(.tmp 25))]),none⟩,6,17⟩,⟨⟨some 27,.a (.bslice [.int .i64 (.ofNat 0),.bool false,.bool false,.int .i64 (.ofNat 0),.int .i64 (.ofNat 0),.nilslice] 6 1 [(0,6,(.tmp 26))]),none⟩,6,17⟩,⟨⟨some 28,.p (.build [.int .i64 (.ofNat 0),.nilslice,.int .i64 (.ofNat 0),.int .i64 (.ofNat 0),.int .i64 (.ofNat 0),.bool false,.int .i64 (.ofNat 0),.int .i64 (.ofNat 0),.nilslice,.nilslice,.nilslice,.nilslice,.int .i64 (.ofNat 0),.nilslice] [(0,1,(.val (.int .i64 (.ofNat 2)))),(2,8,(.tmp 23)),(10,1,(.tmp 27))]),none⟩,6,17⟩,⟨⟨some 29,.loadn 8 (.tmp 3),none⟩,0,17⟩,⟨⟨some 30,.a (.bslice [.int .i64 (.ofNat 0)] 1 1 [(0,1,(.val (.int .i64 (.ofNat 1))))]),none⟩,0,17⟩,⟨⟨some 31,.p (.build [.int .i64 (.ofNat 0),.nilslice,.int .i64 (.ofNat 0),.int .i64 (.ofNat 0),.int .i64 (.ofNat 0),.bool false,.int .i64 (.ofNat 0),.int .i64 (.ofNat 0),.nilslice,.nilslice,.nilslice,.nilslice,.int .i64 (.ofNat 0),.nilslice] [(0,1,(.val (.int .i64 (.ofNat 4)))),(2,8,(.tmp 29)),(11,1,(.tmp 30))]),none⟩,0,17⟩,⟨⟨some 32,.a (.bslice [.int .i64 (.ofNat 0),.nilslice,.int .i64 (.ofNat 0),.int .i64 (.ofNat 0),.int .i64 (.ofNat 0),.bool false,.int .i64 (.ofNat 0),.int .i64 (.ofNat 0),.nilslice,.nilslice,.nilslice,.nilslice,.int .i64 (.ofNat 0),.nilslice,.int .i64 (.ofNat 0),.nilslice,.int .i64 (.ofNat 0),.int .i64 (.ofNat 0),.int .i64 (.ofNat 0),.bool false,.int .i64 (.ofNat 0),.int .i64 (.ofNat 0),.nilslice,.nilslice,.nilslice,.nilslice,.int .i64 (.ofNat 0),.nilslice,.int .i64 (.ofNat 0),.nilslice,.int .i64 (.ofNat 0),.int .i64 (.ofNat 0),.int .i64 (.ofNat 0),.bool false,.int .i64 (.ofNat 0),.int .i64 (.ofNat 0),.nilslice,.nilslice,.nilslice,.nilslice,.int .i64 (.ofNat 0),.nilslice] 14 3 [(0,14,(.tmp 22)),(14,14,(.tmp 28)),(28,14,(.tmp 31))]),none⟩,6,17⟩,⟨⟨some 33,.e (.call 38 [(.tmp 16),(.val (.nilslice)),(.tmp 32)]),none⟩,6,23⟩,⟨⟨some 15,.p (.mov (.tmp 33)),none⟩,18,23⟩,⟨⟨some 34,.p (.ext (.tmp 15) 0),none⟩,18,23⟩,⟨⟨some 35,.p (.ext (.tmp 15) 1),none⟩,18,23⟩,⟨⟨some 4,.p (.mov (.tmp 34)),none⟩,18,23⟩,⟨⟨some 5,.p (.mov (.tmp 35)),none⟩,18,23⟩])
 (.seq (.region [⟨some 37,.loadn 1 (.tmp 1),none⟩,⟨some 38,.p (.mov (.tmp 4)),none⟩,⟨some 39,.loadn 8 (.tmp 3),none⟩,⟨some 40,.p (.build [.int .i64 (.ofNat 0),.nilslice,.int .i64 (.ofNat 0),.int .i64 (.ofNat 0),.int .i64 (.ofNat 0),.bool false,.int .i64 (.ofNat 0),.int .i64 (.ofNat 0),.nilslice,.nilslice,.nilslice,.nilslice,.int .i64 (.ofNat 0),.nilslice] [(0,1,(.val (.int .i64 (.ofNat 3)))),(2,8,(.tmp 39))]),none⟩,⟨some 41,.p (.build [.int .i64 (.ofNat 0),.nilslice,.int .i64 (.ofNat 0),.int .i64 (.ofNat 0),.int .i64 (.ofNat 0),.bool false,.int .i64 (.ofNat 0),.int .i64 (.ofNat 0),.nilslice,.nilslice,.nilslice,.nilslice,.int .i64 (.ofNat 0),.nilslice] [(0,1,(.val (.int .i64 (.ofNat 6))))]),none⟩,⟨some 42,.loadn 8 (.tmp 3),none⟩,⟨some 43,.p (.build [.int .i64 (.ofNat 0),.nilslice,.int .i64 (.ofNat 0),.int .i64 (.ofNat 0),.int .i64 (.ofNat 0),.bool false,.int .i64 (.ofNat 0),.int .i64 (.ofNat 0),.nilslice,.nilslice,.nilslice,.nilslice,.int .i64 (.ofNat 0),.nilslice] [(0,1,(.val (.int .i64 (.ofNat 3)))),(2,8,(.tmp 42))]),none⟩,⟨some 44,.a (.bslice [.int .i64 (.ofNat 0),.nilslice,.int .i64 (.ofNat 0),.int .i64 (.ofNat 0),.int .i64 (.ofNat 0),.bool false,.int .i64 (.ofNat 0),.int .i64 (.ofNat 0),.nilslice,.nilslice,.nilslice,.nilslice,.int .i64 (.ofNat 0),.nilslice,.int .i64 (.ofNat 0),.nilslice,.int .i64 (.ofNat 0),.int .i64 (.ofNat 0),.int .i64 (.ofNat 0),.bool false,.int .i64 (.ofNat 0),.int .i64 (.ofNat 0),.nilslice,.nilslice,.nilslice,.nilslice,.int .i64 (.ofNat 0),.nilslice,.int .i64 (.ofNat 0),.nilslice,.int .i64 (.ofNat 0),.int .i64 (.ofNat 0),.int .i64 (.ofNat 0),.bool false,.int .i64 (.ofNat 0),.int .i64 (.ofNat 0),.nilslice,.nilslice,.nilslice,.nilslice,.int .i64 (.ofNat 0),.nilslice] 14 3 [(0,14,(.tmp 40)),(14,14,(.tmp 41)),(28,14,(.tmp 43))]),none⟩,⟨some 45,.e (.call 38 [(.tmp 37),(.tmp 38),(.tmp 44)]),none⟩,⟨some 36,.p (.mov (.tmp 45)),none⟩,⟨some 46,.p (.ext (.tmp 36) 0),none⟩,⟨some 47,.p (.ext (.tmp 36) 1),none⟩,⟨some 6,.p (.mov (.tmp 46)),none⟩,⟨some 7,.p (.mov (.tmp 47)),none⟩])
 (.seq (.dregion [⟨⟨some 51,.p (.mov (.tmp 2)),none⟩,0,1⟩,⟨⟨some 52,.e (.callv (.tmp 51) [(.val (.int .i64 (.ofNat 2)))]),none⟩,0,3⟩,⟨⟨some 53,.p (.mov (.tmp 2)),none⟩,0,3⟩,⟨⟨some 54,.e (.callv (.tmp 53) [(.val (.int .i64 (.ofNat 1)))]),none⟩,2,8⟩,⟨⟨some 49,.loadn 1 (.tmp 1),none⟩,0,8⟩,⟨⟨some 50,.p (.mov (.tmp 4)),none⟩,0,8⟩,⟨⟨some 55,.a (.bslice [.bool false,.int .i64 (.ofNat 0),.int .i64 (.ofNat 0),.nilslice,.bool false,.int .i64 (.ofNat 0),.int .i64 (.ofNat 0),.nilslice] 4 2 [(0,4,(.tmp 52)),(4,4,(.tmp 54))]),none⟩,4,8⟩,⟨⟨some 56,.p (.build [.int .i64 (.ofNat 0),.nilslice,.int .i64 (.ofNat 0),.int .i64 (.ofNat 0),.int .i64 (.ofNat 0),.bool false,.int .i64 (.ofNat 0),.int .i64 (.ofNat 0),.nilslice,.nilslice,.nilslice,.nilslice,.int .i64 (.ofNat 0),.nilslice] [(0,1,(.val (.int .i64 (.ofNat 1)))),(1,1,(.tmp 55))]),none⟩,4,8⟩,⟨⟨some 57,.e (.call 33 [(.tmp 49),(.tmp 50),(.tmp 56)]),none⟩,4,14⟩,⟨⟨some 48,.p (.mov (.tmp 57)),none⟩,9,14⟩,⟨⟨some 58,.p (.ext (.tmp 48) 0),none⟩,9,14⟩,⟨⟨some 59,.p (.ext (.tmp 48) 1),none⟩,9,14⟩,⟨⟨some 9,.a (.new [.int .i64 (.ofNat 0),.int .i64 (.ofNat 0),.nilslice]),none⟩,0,14⟩,⟨⟨some 8,.p (.mov (.tmp 58)),none⟩,9,14⟩,⟨⟨none,.e (.store 3 (.tmp 9) (.tmp 59)),none⟩,9,15⟩])
 (.seq (.region [⟨some 60,.p (.mov (.tmp 5)),none⟩,⟨some 61,.p (.lenb (.tmp 60)),none⟩,⟨some 62,.p (.bin .eql (.tmp 61) (.val (.int .i64 (.ofNat 3)))),none⟩,⟨some 63,.p (.mov (.tmp 62)),none⟩,⟨some 64,.p (.mov (.tmp 5)),(some (63,true))⟩,⟨some 65,.p (.iaddr 3 (.tmp 64) (.val (.int .i64 (.ofNat 2)))),(some (63,true))⟩,⟨some 66,.p (.faddr 2 (.tmp 65)),(some (63,true))⟩,⟨some 67,.load1 (.tmp 66),(some (63,true))⟩,⟨some 68,.p (.lenb (.tmp 67)),(some (63,true))⟩,⟨some 69,.p (.bin .eql (.tmp 68) (.val (.int .i64 (.ofNat 1)))),(some (63,true))⟩,⟨some 70,.p (.pick (.tmp 63) (.tmp 69) (.val (.bool false))),none⟩,⟨some 71,.p (.mov (.tmp 70)),none⟩,⟨some 72,.p (.mov (.tmp 5)),(some (71,true))⟩,⟨some 73,.p (.iaddr 3 (.tmp 72) (.val (.int .i64 (.ofNat 2)))),(some (71,true))⟩,⟨some 74,.p (.faddr 2 (.tmp 73)),(some (71,true))⟩,⟨some 75,.load1 (.tmp 74),(some (71,true))⟩,⟨some 76,.p (.iaddr 1 (.tmp 75) (.val (.int .i64 (.ofNat 0)))),(some (71,true))⟩,⟨some 77,.load1 (.tmp 76),(some (71,true))⟩,⟨some 78,.p (.lenb (.tmp 77)),(some (71,true))⟩,⟨some 79,.p (.bin .eql (.tmp 78) (.val (.int .i64 (.ofNat 1)))),(some (71,true))⟩,⟨some 80,.p (.pick (.tmp 71) (.tmp 79) (.val (.bool false))),none⟩,⟨some 81,.p (.mov (.tmp 80)),none⟩,⟨some 82,.p (.mov (.tmp 5)),(some (81,true))⟩,⟨some 83,.p (.iaddr 3 (.tmp 82) (.val (.int .i64 (.ofNat 2)))),(some (81,true))⟩,⟨some 84,.p (.faddr 2 (.tmp 83)),(some (81,true))⟩,⟨some 85,.load1 (.tmp 84),(some (81,true))⟩,⟨some 86,.p (.iaddr 1 (.tmp 85) (.val (.int .i64 (.ofNat 0)))),(some (81,true))⟩,⟨some 87,.load1 (.tmp 86),(some (81,true))⟩,⟨some 88,.p (.iaddr 4 (.tmp 87) (.val (.int .i64 (.ofNat 0)))),(some (81,true))⟩,⟨some 89,.p (.faddr 2 (.tmp 88)),(some (81,true))⟩,⟨some 90,.load1 (.tmp 89),(some (81,true))⟩,⟨some 91,.p (.bin .eql (.tmp 90) (.val (.int .i64 (.ofNat 9)))),(some (81,true))⟩,⟨some 92,.p (.pick (.tmp 81) (.tmp 91) (.val (.bool false))),none⟩,⟨some 93,.p (.mov (.tmp 92)),none⟩,⟨some 94,.p (.mov (.tmp 5)),(some (93,true))⟩,⟨some 95,.p (.iaddr 3 (.tmp 94) (.val (.int .i64 (.ofNat 1)))),(some (93,true))⟩,⟨some 96,.p (.faddr 1 (.tmp 95)),(some (93,true))⟩,⟨some 97,.load1 (.tmp 96),(some (93,true))⟩,⟨some 98,.p (.bin .eql (.tmp 97) (.val (.int .i64 (.ofNat 1)))),(some (93,true))⟩,⟨some 99,.p (.pick (.tmp 93) (.tmp 98) (.val (.bool false))),none⟩,⟨some 100,.p (.mov (.tmp 99)),none⟩,⟨some 101,.p (.mov (.tmp 7)),(some (100,true))⟩,⟨some 102,.p (.lenb (.tmp 101)),(some (100,true))⟩,⟨some 103,.p (.bin .eql (.tmp 102) (.val (.int .i64 (.ofNat 2)))),(some (100,true))⟩,⟨some 104,.p (.pick (.tmp 100) (.tmp 103) (.val (.bool false))),none⟩,⟨some 105,.p (.mov (.tmp 104)),none⟩,⟨some 106,.p (.mov (.tmp 7)),(some (105,true))⟩,⟨some 107,.p (.iaddr 3 (.tmp 106) (.val (.int .i64 (.ofNat 1)))),(some (105,true))⟩,⟨some 108,.p (.faddr 0 (.tmp 107)),(some (105,true))⟩,⟨some 109,.load1 (.tmp 108),(some (105,true))⟩,⟨some 110,.p (.bin .eql (.tmp 109) (.val (.int .i64 (.ofNat 3)))),(some (105,true))⟩,⟨some 111,.p (.pick (.tmp 105) (.tmp 110) (.val (.bool false))),none⟩,⟨some 112,.p (.mov (.tmp 111)),none⟩,⟨some 113,.p (.mov (.tmp 6)),(some (112,true))⟩,⟨some 114,.p (.mov (.tmp 4)),(some (112,true))⟩,⟨some 115,.e (.call 24 [(.tmp 113),(.tmp 114)]),(some (112,true))⟩,⟨some 116,.p (.pick (.tmp 112) (.tmp 115) (.val (.bool false))),none⟩,⟨some 117,.p (.mov (.tmp 116)),none⟩,⟨some 118,.p (.faddr 0 (.tmp 9)),(some (117,true))⟩,⟨some 119,.load1 (.tmp 118),(some (117,true))⟩,⟨some 120,.p (.bin .eql (.tmp 119) (.val (.int .i64 (.ofNat 1)))),(some (117,true))⟩,⟨some 121,.p (.pick (.tmp 117) (.tmp 120) (.val (.bool false))),none⟩,⟨some 0,.p (.mov (.tmp 121)),none⟩])
 (.ret)))))))),[.tmp 0]⟩
theorem v34 : IsFun Try.prog 34 m34 := ⟨_, Try.func34, by kernel_rfl, by kernel_rfl⟩
def m36 : Fun := Go.Lib.M97 Go.Proofs.Ytnbmmnjihipahaa.sa.F0
theorem v36 : IsFun Try.prog 36 m36 := ⟨_, Try.func36, by kernel_rfl, by kernel_rfl⟩
def m37 : Fun := Go.Lib.M94 Go.Proofs.Ytnbmmnjihipahaa.sa.F0
theorem v37 : IsFun Try.prog 37 m37 := ⟨_, Try.func37, by kernel_rfl, by kernel_rfl⟩
def m38 : Fun := Go.Lib.M71 Go.Proofs.Ytnbmmnjihipahaa.sa.F0
theorem v38 : IsFun Try.prog 38 m38 := ⟨_, Try.func38, by kernel_rfl, by kernel_rfl⟩
def m40 : Fun := Go.Lib.M98 Go.Proofs.Ytnbmmnjihipahaa.sa.F0
theorem v40 : IsFun Try.prog 40 m40 := ⟨_, Try.func40, by kernel_rfl, by kernel_rfl⟩
def m41 : Fun := Go.Lib.M93 Go.Proofs.Ytnbmmnjihipahaa.sa.F0
theorem v41 : IsFun Try.prog 41 m41 := ⟨_, Try.func41, by kernel_rfl, by kernel_rfl⟩
def m42 : Fun := Go.Lib.M92 Go.Proofs.Ytnbmmnjihipahaa.sa.F0
theorem v42 : IsFun Try.prog 42 m42 := ⟨_, Try.func42, by kernel_rfl, by kernel_rfl⟩
def m43 : Fun := Go.Lib.M88 Go.Proofs.Ytnbmmnjihipahaa.sa.F0
theorem v43 : IsFun Try.prog 43 m43 := ⟨_, Try.func43, by kernel_rfl, by kernel_rfl⟩
def m52 : Fun := Go.Lib.M36 Go.Proofs.Ytnbmmnjihipahaa.sa.F0
theorem v52 : IsFun Try.prog 52 m52 := ⟨_, Try.func52, by kernel_rfl, by kernel_rfl⟩
def m53 : Fun := Go.Lib.M37 Go.Proofs.Ytnbmmnjihipahaa.sa.F0
theorem v53 : IsFun Try.prog 53 m53 := ⟨_, Try.func53, by kernel_rfl, by kernel_rfl⟩
def m54 : Fun := Go.Lib.M26 Go.Proofs.Ytnbmmnjihipahaa.sa.F0
theorem v54 : IsFun Try.prog 54 m54 := ⟨_, Try.func54, by kernel_rfl, by kernel_rfl⟩
def m55 : Fun := Go.Lib.M38 Go.Proofs.Ytnbmmnjihipahaa.sa.F0
theorem v55 : IsFun Try.prog 55 m55 := ⟨_, Try.func55, by kernel_rfl, by kernel_rfl⟩
def m56 : Fun := Go.Lib.M1 Go.Proofs.Ytnbmmnjihipahaa.sa.F0
theorem v56 : IsFun Try.prog 56 m56 := ⟨_, Try.func56, by kernel_rfl, by kernel_rfl⟩
end Go.Proofs.Ytnbmmnjihipahaa
end

section
set_option maxRecDepth 100000
namespace Go.Proofs.Ytnbmmnjihipahaa
open Go.Vm
def m57 : Fun := Go.Lib.M3 Go.Proofs.Ytnbmmnjihipahaa.sa.F0
theorem v57 : IsFun Try.prog 57 m57 := ⟨_, Try.func57, by kernel_rfl, by kernel_rfl⟩
def m58 : Fun := Go.Lib.M39 Go.Proofs.Ytnbmmnjihipahaa.sa.F0
theorem v58 : IsFun Try.prog 58 m58 := ⟨_, Try.func58, by kernel_rfl, by kernel_rfl⟩
def m60 : Fun := Go.Lib.M2 Go.Proofs.Ytnbmmnjihipahaa.sa.F0
theorem v60 : IsFun Try.prog 60 m60 := ⟨_, Try.func60, by kernel_rfl, by kernel_rfl⟩
def m61 : Fun := Go.Lib.M4 Go.Proofs.Ytnbmmnjihipahaa.sa.F0
theorem v61 : IsFun Try.prog 61 m61 := ⟨_, Try.func61, by kernel_rfl, by kernel_rfl⟩
def m62 : Fun := Go.Lib.M5 Go.Proofs.Ytnbmmnjihipahaa.sa.F0
theorem v62 : IsFun Try.prog 62 m62 := ⟨_, Try.func62, by kernel_rfl, by kernel_rfl⟩
def m63 : Fun := Go.Lib.M40 Go.Proofs.Ytnbmmnjihipahaa.sa.F0
theorem v63 : IsFun Try.prog 63 m63 := ⟨_, Try.func63, by kernel_rfl, by kernel_rfl⟩
def m64 : Fun := Go.Lib.M47 Go.Proofs.Ytnbmmnjihipahaa.sa.F0
theorem v64 : IsFun Try.prog 64 m64 := ⟨_, Try.func64, by kernel_rfl, by kernel_rfl⟩
def m65 : Fun := Go.Lib.M57 Go.Proofs.Ytnbmmnjihipahaa.sa.F0
theorem v65 : IsFun Try.prog 65 m65 := ⟨_, Try.func65, by kernel_rfl, by kernel_rfl⟩
def m66 : Fun := Go.Lib.M58 Go.Proofs.Ytnbmmnjihipahaa.sa.F0
theorem v66 : IsFun Try.prog 66 m66 := ⟨_, Try.func66, by kernel_rfl, by kernel_rfl⟩
def m67 : Fun := Go.Lib.M50 Go.Proofs.Ytnbmmnjihipahaa.sa.F0
theorem v67 : IsFun Try.prog 67 m67 := ⟨_, Try.func67, by kernel_rfl, by kernel_rfl⟩
def m68 : Fun := Go.Lib.M59 Go.Proofs.Ytnbmmnjihipahaa.sa.F0
theorem v68 : IsFun Try.prog 68 m68 := ⟨_, Try.func68, by kernel_rfl, by kernel_rfl⟩
def m69 : Fun := Go.Lib.M72 Go.Proofs.Ytnbmmnjihipahaa.sa.F0
theorem v69 : IsFun Try.prog 69 m69 := ⟨_, Try.func69, by kernel_rfl, by kernel_rfl⟩
def m70 : Fun := Go.Lib.M73 Go.Proofs.Ytnbmmnjihipahaa.sa.F0
theorem v70 : IsFun Try.prog 70 m70 := ⟨_, Try.func70, by kernel_rfl, by kernel_rfl⟩
def m71 : Fun := Go.Lib.M65 Go.Proofs.Ytnbmmnjihipahaa.sa.F0
theorem v71 : IsFun Try.prog 71 m71 := ⟨_, Try.func71, by kernel_rfl, by kernel_rfl⟩
def m72 : Fun := Go.Lib.M74 Go.Proofs.Ytnbmmnjihipahaa.sa.F0
theorem v72 : IsFun Try.prog 72 m72 := ⟨_, Try.func72, by kernel_rfl, by kernel_rfl⟩
def m73 : Fun := Go.Lib.M75 Go.Proofs.Ytnbmmnjihipahaa.sa.F0
theorem v73 : IsFun Try.prog 73 m73 := ⟨_, Try.func73, by kernel_rfl, by kernel_rfl⟩
def m74 : Fun := Go.Lib.M76 Go.Proofs.Ytnbmmnjihipahaa.sa.F0
theorem v74 : IsFun Try.prog 74 m74 := ⟨_, Try.func74, by kernel_rfl, by kernel_rfl⟩
def m75 : Fun := ⟨5,1,.seq (.region [⟨some 2,.a (.new [.bool false,.int .i64 (.ofNat 0),.int .i64 (.ofNat 0),.nilslice]),none⟩])
 (.seq (.region [⟨some 3,.p (.mov (.tmp 0)),none⟩,⟨some 4,.p (.build [.bool false,.int .i64 (.ofNat 0),.int .i64 (.ofNat 0),.nilslice] [(1,1,(.val (.int .i64 (.ofNat 1)))),(2,1,(.tmp 3))]),none⟩,⟨none,.e (.store 4 (.tmp 2) (.tmp 4)),none⟩])
 (.ret)),[.celln 4 2]⟩
theorem v75 : IsFun Try.prog 75 m75 := ⟨_, Try.func75, by kernel_rfl, by kernel_rfl⟩
def m76 : Fun := Go.Lib.M99 Go.Proofs.Ytnbmmnjihipahaa.sa.F0
theorem v76 : IsFun Try.prog 76 m76 := ⟨_, Try.func76, by kernel_rfl, by kernel_rfl⟩
def m77 : Fun := Go.Lib.M77 Go.Proofs.Ytnbmmnjihipahaa.sa.F0
theorem v77 : IsFun Try.prog 77 m77 := ⟨_, Try.func77, by kernel_rfl, by kernel_rfl⟩
def m78 : Fun := Go.Lib.M95 Go.Proofs.Ytnbmmnjihipahaa.sa.F0
theorem v78 : IsFun Try.prog 78 m78 := ⟨_, Try.func78, by kernel_rfl, by kernel_rfl⟩
def m79 : Fun := Go.Lib.M96 Go.Proofs.Ytnbmmnjihipahaa.sa.F0
theorem v79 : IsFun Try.prog 79 m79 := ⟨_, Try.func79, by kernel_rfl, by kernel_rfl⟩
def m80 : Fun := Go.Lib.M91 Go.Proofs.Ytnbmmnjihipahaa.sa.F0
theorem v80 : IsFun Try.prog 80 m80 := ⟨_, Try.func80, by kernel_rfl, by kernel_rfl⟩
def m84 : Fun := Go.Lib.M41 Go.Proofs.Ytnbmmnjihipahaa.sa.F0
theorem v84 : IsFun Try.prog 84 m84 := ⟨_, Try.func84, by kernel_rfl, by kernel_rfl⟩
def m85 : Fun := Go.Lib.M13 Go.Proofs.Ytnbmmnjihipahaa.sa.F0
theorem v85 : IsFun Try.prog 85 m85 := ⟨_, Try.func85, by kernel_rfl, by kernel_rfl⟩
def m86 : Fun := Go.Lib.M27 Go.Proofs.Ytnbmmnjihipahaa.sa.F0
theorem v86 : IsFun Try.prog 86 m86 := ⟨_, Try.func86, by kernel_rfl, by kernel_rfl⟩
def m87 : Fun := Go.Lib.M9 Go.Proofs.Ytnbmmnjihipahaa.sa.F0
theorem v87 : IsFun Try.prog 87 m87 := ⟨_, Try.func87, by kernel_rfl, by kernel_rfl⟩
def m88 : Fun := Go.Lib.M8 Go.Proofs.Ytnbmmnjihipahaa.sa.F0
theorem v88 : IsFun Try.prog 88 m88 := ⟨_, Try.func88, by kernel_rfl, by kernel_rfl⟩
def m89 : Fun := Go.Lib.M10 Go.Proofs.Ytnbmmnjihipahaa.sa.F0
theorem v89 : IsFun Try.prog 89 m89 := ⟨_, Try.func89, by kernel_rfl, by kernel_rfl⟩
def m90 : Fun := Go.Lib.M11 Go.Proofs.Ytnbmmnjihipahaa.sa.F0
theorem v90 : IsFun Try.prog 90 m90 := ⟨_, Try.func90, by kernel_rfl, by kernel_rfl⟩
def m91 : Fun := Go.Lib.M12 Go.Proofs.Ytnbmmnjihipahaa.sa.F0
theorem v91 : IsFun Try.prog 91 m91 := ⟨_, Try.func91, by kernel_rfl, by kernel_rfl⟩
def m92 : Fun := Go.Lib.M14 Go.Proofs.Ytnbmmnjihipahaa.sa.F0
theorem v92 : IsFun Try.prog 92 m92 := ⟨_, Try.func92, by kernel_rfl, by kernel_rfl⟩
def m93 : Fun := Go.Lib.M42 Go.Proofs.Ytnbmmnjihipahaa.sa.F0
theorem v93 : IsFun Try.prog 93 m93 := ⟨_, Try.func93, by kernel_rfl, by kernel_rfl⟩
def m94 : Fun := Go.Lib.M60 Go.Proofs.Ytnbmmnjihipahaa.sa.F0
theorem v94 : IsFun Try.prog 94 m94 := ⟨_, Try.func94, by kernel_rfl, by kernel_rfl⟩
def m95 : Fun := Go.Lib.M67 Go.Proofs.Ytnbmmnjihipahaa.sa.F0
theorem v95 : IsFun Try.prog 95 m95 := ⟨_, Try.func95, by kernel_rfl, by kernel_rfl⟩
def m96 : Fun := Go.Lib.M66 Go.Proofs.Ytnbmmnjihipahaa.sa.F0
theorem v96 : IsFun Try.prog 96 m96 := ⟨_, Try.func96, by kernel_rfl, by kernel_rfl⟩
def m97 : Fun := Go.Lib.M68 Go.Proofs.Ytnbmmnjihipahaa.sa.F0
theorem v97 : IsFun Try.prog 97 m97 := ⟨_, Try.func97, by kernel_rfl, by kernel_rfl⟩
def m98 : Fun := Go.Lib.M69 Go.Proofs.Ytnbmmnjihipahaa.sa.F0
theorem v98 : IsFun Try.prog 98 m98 := ⟨_, Try.func98, by kernel_rfl, by kernel_rfl⟩
def m99 : Fun := Go.Lib.M79 Go.Proofs.Ytnbmmnjihipahaa.sa.F0
theorem v99 : IsFun Try.prog 99 m99 := ⟨_, Try.func99, by kernel_rfl, by kernel_rfl⟩
def m100 : Fun := Go.Lib.M78 Go.Proofs.Ytnbmmnjihipahaa.sa.F0
theorem v100 : IsFun Try.prog 100 m100 := ⟨_, Try.func100, by kernel_rfl, by kernel_rfl⟩
def m101 : Fun := Go.Lib.M80 Go.Proofs.Ytnbmmnjihipahaa.sa.F0
theorem v101 : IsFun Try.prog 101 m101 := ⟨_, Try.func101, by kernel_rfl, by kernel_rfl⟩
def m102 : Fun := Go.Lib.M81 Go.Proofs.Ytnbmmnjihipahaa.sa.F0
theorem v102 : IsFun Try.prog 102 m102 := ⟨_, Try.func102, by kernel_rfl, by kernel_rfl⟩
def m103 : Fun := Go.Lib.M82 Go.Proofs.Ytnbmmnjihipahaa.sa.F0
theorem v103 : IsFun Try.prog 103 m103 := ⟨_, Try.func103, by kernel_rfl, by kernel_rfl⟩
def m104 : Fun := Go.Lib.M87 Go.Proofs.Ytnbmmnjihipahaa.sa.F0
theorem v104 : IsFun Try.prog 104 m104 := ⟨_, Try.func104, by kernel_rfl, by kernel_rfl⟩
def m112 : Fun := Go.Lib.M43 Go.Proofs.Ytnbmmnjihipahaa.sa.F0
theorem v112 : IsFun Try.prog 112 m112 := ⟨_, Try.func112, by kernel_rfl, by kernel_rfl⟩
def m113 : Fun := Go.Lib.M44 Go.Proofs.Ytnbmmnjihipahaa.sa.F0
theorem v113 : IsFun Try.prog 113 m113 := ⟨_, Try.func113, by kernel_rfl, by kernel_rfl⟩
def m114 : Fun := Go.Lib.M28 Go.Proofs.Ytnbmmnjihipahaa.sa.F0
theorem v114 : IsFun Try.prog 114 m114 := ⟨_, Try.func114, by kernel_rfl, by kernel_rfl⟩
def m115 : Fun := Go.Lib.M29 Go.Proofs.Ytnbmmnjihipahaa.sa.F0
theorem v115 : IsFun Try.prog 115 m115 := ⟨_, Try.func115, by kernel_rfl, by kernel_rfl⟩
def m116 : Fun := Go.Lib.M18 Go.Proofs.Ytnbmmnjihipahaa.sa.F0
theorem v116 : IsFun Try.prog 116 m116 := ⟨_, Try.func116, by kernel_rfl, by kernel_rfl⟩
def m117 : Fun := Go.Lib.M19 Go.Proofs.Ytnbmmnjihipahaa.sa.F0
theorem v117 : IsFun Try.prog 117 m117 := ⟨_, Try.func117, by kernel_rfl, by kernel_rfl⟩
def m121 : Fun := Go.Lib.M84 Go.Proofs.Ytnbmmnjihipahaa.sa.F0
theorem v121 : IsFun Try.prog 121 m121 := ⟨_, Try.func121, by kernel_rfl, by kernel_rfl⟩
def m122 : Fun := Go.Lib.M90 Go.Proofs.Ytnbmmnjihipahaa.sa.F0
theorem v122 : IsFun Try.prog 122 m122 := ⟨_, Try.func122, by kernel_rfl, by kernel_rfl⟩
def m123 : Fun := Go.Lib.M89 Go.Proofs.Ytnbmmnjihipahaa.sa.F0
theorem v123 : IsFun Try.prog 123 m123 := ⟨_, Try.func123, by kernel_rfl, by kernel_rfl⟩
def m127 : Fun := Go.Lib.M30 Go.Proofs.Ytnbmmnjihipahaa.sa.F0
theorem v127 : IsFun Try.prog 127 m127 := ⟨_, Try.func127, by kernel_rfl, by kernel_rfl⟩
end Go.Proofs.Ytnbmmnjihipahaa
end

section
set_option maxRecDepth 100000
namespace Go.Proofs.Ytnbmmnjihipahaa
open Go.Vm
def m128 : Fun := Go.Lib.M85 Go.Proofs.Ytnbmmnjihipahaa.sa.F0
theorem v128 : IsFun Try.prog 128 m128 := ⟨_, Try.func128, by kernel_rfl, by kernel_rfl⟩
def m131 : Fun := Go.Lib.M7 Go.Proofs.Ytnbmmnjihipahaa.sa.F0
theorem v131 : IsFun Try.prog 131 m131 := ⟨_, Try.func131, by kernel_rfl, by kernel_rfl⟩
def m132 : Fun := Go.Lib.M31 Go.Proofs.Ytnbmmnjihipahaa.sa.F0
theorem v132 : IsFun Try.prog 132 m132 := ⟨_, Try.func132, by kernel_rfl, by kernel_rfl⟩
def m133 : Fun := Go.Lib.M86 Go.Proofs.Ytnbmmnjihipahaa.sa.F0
theorem v133 : IsFun Try.prog 133 m133 := ⟨_, Try.func133, by kernel_rfl, by kernel_rfl⟩
def m135 : Fun := Go.Lib.M16 Go.Proofs.Ytnbmmnjihipahaa.sa.F0
theorem v135 : IsFun Try.prog 135 m135 := ⟨_, Try.func135, by kernel_rfl, by kernel_rfl⟩
def m136 : Fun := Go.Lib.M17 Go.Proofs.Ytnbmmnjihipahaa.sa.F0
theorem v136 : IsFun Try.prog 136 m136 := ⟨_, Try.func136, by kernel_rfl, by kernel_rfl⟩
def m137 : Fun := Go.Lib.M21 Go.Proofs.Ytnbmmnjihipahaa.sa.F0
theorem v137 : IsFun Try.prog 137 m137 := ⟨_, Try.func137, by kernel_rfl, by kernel_rfl⟩
def m138 : Fun := Go.Lib.M6 Go.Proofs.Ytnbmmnjihipahaa.sa.F0
theorem v138 : IsFun Try.prog 138 m138 := ⟨_, Try.func138, by kernel_rfl, by kernel_rfl⟩
def m140 : Fun := Go.Lib.M15 Go.Proofs.Ytnbmmnjihipahaa.sa.F0
theorem v140 : IsFun Try.prog 140 m140 := ⟨_, Try.func140, by kernel_rfl, by kernel_rfl⟩
end Go.Proofs.Ytnbmmnjihipahaa
end

section
set_option maxRecDepth 100000
namespace Go.Proofs.Ytnbmmnjihipahaa
open Go.Vm
def funs : T Fun := (.node (.node (.node (.node (.node (.node (.node (.node .leaf (some m127) .leaf) (some m63) .leaf) (some m31) (.node .leaf (some m95) .leaf)) (some m15) (.node (.node .leaf (some m79) .leaf) none .leaf)) none (.node (.node (.node (.node .leaf (some m135) .leaf) (some m71) .leaf) none (.node .leaf (some m103) .leaf)) (some m23) (.node (.node .leaf (some m87) .leaf) (some m55) .leaf))) none (.node (.node (.node (.node (.node .leaf (some m131) .leaf) (some m67) .leaf) none (.node .leaf (some m99) .leaf)) (some m19) (.node .leaf none (.node .leaf (some m115) .leaf))) none (.node (.node (.node .leaf (some m75) .leaf) (some m43) .leaf) (some m27) (.node (.node .leaf (some m91) .leaf) none (.node .leaf (some m123) .leaf))))) none (.node (.node (.node (.node (.node .leaf (some m65) .leaf) (some m33) (.node .leaf (some m97) .leaf)) (some m17) (.node .leaf none (.node .leaf (some m113) .leaf))) none (.node (.node (.node (.node .leaf (some m137) .leaf) (some m73) .leaf) (some m41) .leaf) (some m25) (.node (.node .leaf (some m89) .leaf) (some m57) (.node .leaf (some m121) .leaf)))) none (.node (.node (.node (.node (.node .leaf (some m133) .leaf) (some m69) .leaf) (some m37) (.node .leaf (some m101) .leaf)) (some m21) (.node (.node .leaf (some m85) .leaf) (some m53) (.node .leaf (some m117) .leaf))) none (.node (.node (.node .leaf (some m77) .leaf) none .leaf) (some m29) (.node (.node .leaf (some m93) .leaf) (some m61) .leaf))))) none (.node (.node (.node (.node (.node (.node (.node .leaf (some m128) .leaf) (some m64) .leaf) none (.node .leaf (some m96) .leaf)) none (.node (.node .leaf (some m80) .leaf) none (.node .leaf (some m112) .leaf))) none (.node (.node (.node (.node .leaf (some m136) .leaf) (some m72) .leaf) (some m40) (.node .leaf (some m104) .leaf)) (some m24) (.node (.node .leaf (some m88) .leaf) (some m56) .leaf))) none (.node (.node (.node (.node (.node .leaf (some m132) .leaf) (some m68) .leaf) (some m36) (.node .leaf (some m100) .leaf)) none (.node (.node .leaf (some m84) .leaf) (some m52) (.node .leaf (some m116) .leaf))) (some m12) (.node (.node (.node (.node .leaf (some m140) .leaf) (some m76) .leaf) none .leaf) (some m28) (.node (.node .leaf (some m92) .leaf) (some m60) .leaf)))) none (.node (.node (.node (.node (.node .leaf (some m66) .leaf) (some m34) (.node .leaf (some m98) .leaf)) (some m18) (.node .leaf none (.node .leaf (some m114) .leaf))) none (.node (.node (.node (.node .leaf (some m138) .leaf) (some m74) .leaf) (some m42) .leaf) (some m26) (.node (.node .leaf (some m90) .leaf) (some m58) (.node .leaf (some m122) .leaf)))) none (.node (.node (.node (.node .leaf (some m70) .leaf) (some m38) (.node .leaf (some m102) .leaf)) (some m22) (.node (.node .leaf (some m86) .leaf) (some m54) .leaf)) none (.node (.node (.node .leaf (some m78) .leaf) none .leaf) (some m30) (.node (.node .leaf (some m94) .leaf) (some m62) .leaf))))))
def ints : List Nat := [2,3,5,6,12,21,56,72,147,191,192,193,196,197]
theorem intsOk : IntsOk Try.prog ints := ints_of (by kernel_rfl)
def mach (tab : Tab) : Vm.Prog := ⟨funs, ⟨tab, ints⟩⟩
theorem valid (tab : Tab) : Valid Try.prog (mach tab) := valid_of (show AllT (IsFun Try.prog) 1 0 funs from ⟨trivial, ⟨trivial, ⟨trivial, ⟨trivial, ⟨v15, ⟨v31, ⟨v63, ⟨v127, trivial, trivial⟩, trivial⟩, ⟨v95, trivial, trivial⟩⟩, ⟨trivial, ⟨v79, trivial, trivial⟩, trivial⟩⟩, ⟨v23, ⟨trivial, ⟨v71, ⟨v135, trivial, trivial⟩, trivial⟩, ⟨v103, trivial, trivial⟩⟩, ⟨v55, ⟨v87, trivial, trivial⟩, trivial⟩⟩⟩, ⟨trivial, ⟨v19, ⟨trivial, ⟨v67, ⟨v131, trivial, trivial⟩, trivial⟩, ⟨v99, trivial, trivial⟩⟩, ⟨trivial, trivial, ⟨v115, trivial, trivial⟩⟩⟩, ⟨v27, ⟨v43, ⟨v75, trivial, trivial⟩, trivial⟩, ⟨trivial, ⟨v91, trivial, trivial⟩, ⟨v123, trivial, trivial⟩⟩⟩⟩⟩, ⟨trivial, ⟨trivial, ⟨v17, ⟨v33, ⟨v65, trivial, trivial⟩, ⟨v97, trivial, trivial⟩⟩, ⟨trivial, trivial, ⟨v113, trivial, trivial⟩⟩⟩, ⟨v25, ⟨v41, ⟨v73, ⟨v137, trivial, trivial⟩, trivial⟩, trivial⟩, ⟨v57, ⟨v89, trivial, trivial⟩, ⟨v121, trivial, trivial⟩⟩⟩⟩, ⟨trivial, ⟨v21, ⟨v37, ⟨v69, ⟨v133, trivial, trivial⟩, trivial⟩, ⟨v101, trivial, trivial⟩⟩, ⟨v53, ⟨v85, trivial, trivial⟩, ⟨v117, trivial, trivial⟩⟩⟩, ⟨v29, ⟨trivial, ⟨v77, trivial, trivial⟩, trivial⟩, ⟨v61, ⟨v93, trivial, trivial⟩, trivial⟩⟩⟩⟩⟩, ⟨trivial, ⟨trivial, ⟨trivial, ⟨trivial, ⟨trivial, ⟨v64, ⟨v128, trivial, trivial⟩, trivial⟩, ⟨v96, trivial, trivial⟩⟩, ⟨trivial, ⟨v80, trivial, trivial⟩, ⟨v112, trivial, trivial⟩⟩⟩, ⟨v24, ⟨v40, ⟨v72, ⟨v136, trivial, trivial⟩, trivial⟩, ⟨v104, trivial, trivial⟩⟩, ⟨v56, ⟨v88, trivial, trivial⟩, trivial⟩⟩⟩, ⟨v12, ⟨trivial, ⟨v36, ⟨v68, ⟨v132, trivial, trivial⟩, trivial⟩, ⟨v100, trivial, trivial⟩⟩, ⟨v52, ⟨v84, trivial, trivial⟩, ⟨v116, trivial, trivial⟩⟩⟩, ⟨v28, ⟨trivial, ⟨v76, ⟨v140, trivial, trivial⟩, trivial⟩, trivial⟩, ⟨v60, ⟨v92, trivial, trivial⟩, trivial⟩⟩⟩⟩, ⟨trivial, ⟨trivial, ⟨v18, ⟨v34, ⟨v66, trivial, trivial⟩, ⟨v98, trivial, trivial⟩⟩, ⟨trivial, trivial, ⟨v114, trivial, trivial⟩⟩⟩, ⟨v26, ⟨v42, ⟨v74, ⟨v138, trivial, trivial⟩, trivial⟩, trivial⟩, ⟨v58, ⟨v90, trivial, trivial⟩, ⟨v122, trivial, trivial⟩⟩⟩⟩, ⟨trivial, ⟨v22, ⟨v38, ⟨v70, trivial, trivial⟩, ⟨v102, trivial, trivial⟩⟩, ⟨v54, ⟨v86, trivial, trivial⟩, trivial⟩⟩, ⟨v30, ⟨trivial, ⟨v78, trivial, trivial⟩, trivial⟩, ⟨v62, ⟨v94, trivial, trivial⟩, trivial⟩⟩⟩⟩⟩⟩)
end Go.Proofs.Ytnbmmnjihipahaa
end

section
set_option maxRecDepth 100000
namespace Go.Proofs.Ytnbmmnjihipahaa
open Go.Vm
theorem x118 : IsExt Try.prog (118, .cmp) := ⟨_, Try.func118, by kernel_rfl, by kernel_rfl, by kernel_rfl, by kernel_rfl⟩
theorem x119 : IsExt Try.prog (119, .add64) := ⟨_, Try.func119, by kernel_rfl, by kernel_rfl, by kernel_rfl, by kernel_rfl⟩
def exts : List (Nat × Ek) := [(118, .cmp), (119, .add64)]
theorem extsOk : ∀ x, x ∈ exts → IsExt Try.prog x := by
  intro x hx;unfold exts at hx;rcases List.mem_cons.1 hx with rfl | hx
  · exact x118
  rcases List.mem_cons.1 hx with rfl | hx
  · exact x119
  cases hx
end Go.Proofs.Ytnbmmnjihipahaa
end

section
set_option maxRecDepth 100000
namespace Go.Proofs.Ytnbmmnjihipahaa.sa
open Go.Vm Go.Dv Go.Lib
def pr : Vm.Prog := mach []
def xt : Ext := orX (constX [34]) (extBy exts)
theorem has1 : Go.Dv.Has pr xt F0 1 Go.Lib.M1 := ⟨by kernel_rfl, fun _ _ => rfl⟩
theorem has2 : Go.Dv.Has pr xt F0 2 Go.Lib.M2 := ⟨by kernel_rfl, fun _ _ => rfl⟩
theorem has3 : Go.Dv.Has pr xt F0 3 Go.Lib.M3 := ⟨by kernel_rfl, fun _ _ => rfl⟩
theorem has4 : Go.Dv.Has pr xt F0 4 Go.Lib.M4 := ⟨by kernel_rfl, fun _ _ => rfl⟩
theorem has5 : Go.Dv.Has pr xt F0 5 Go.Lib.M5 := ⟨by kernel_rfl, fun _ _ => rfl⟩
theorem has6 : Go.Dv.Has pr xt F0 6 Go.Lib.M6 := ⟨by kernel_rfl, fun _ _ => rfl⟩
theorem has7 : Go.Dv.Has pr xt F0 7 Go.Lib.M7 := ⟨by kernel_rfl, fun _ _ => rfl⟩
theorem has8 : Go.Dv.Has pr xt F0 8 Go.Lib.M8 := ⟨by kernel_rfl, fun _ _ => rfl⟩
theorem has9 : Go.Dv.Has pr xt F0 9 Go.Lib.M9 := ⟨by kernel_rfl, fun _ _ => rfl⟩
theorem has10 : Go.Dv.Has pr xt F0 10 Go.Lib.M10 := ⟨by kernel_rfl, fun _ _ => rfl⟩
theorem has11 : Go.Dv.Has pr xt F0 11 Go.Lib.M11 := ⟨by kernel_rfl, fun _ _ => rfl⟩
theorem has12 : Go.Dv.Has pr xt F0 12 Go.Lib.M12 := ⟨by kernel_rfl, fun _ _ => rfl⟩
theorem has13 : Go.Dv.Has pr xt F0 13 Go.Lib.M13 := ⟨by kernel_rfl, fun _ _ => rfl⟩
theorem has14 : Go.Dv.Has pr xt F0 14 Go.Lib.M14 := ⟨by kernel_rfl, fun _ _ => rfl⟩
theorem has15 : Go.Dv.Has pr xt F0 15 Go.Lib.M15 := ⟨by kernel_rfl, fun _ _ => rfl⟩
theorem has16 : Go.Dv.Has pr xt F0 16 Go.Lib.M16 := ⟨by kernel_rfl, fun _ _ => rfl⟩
theorem has17 : Go.Dv.Has pr xt F0 17 Go.Lib.M17 := ⟨by kernel_rfl, fun _ _ => rfl⟩
theorem has18 : Go.Dv.Has pr xt F0 18 Go.Lib.M18 := ⟨by kernel_rfl, fun _ _ => rfl⟩
theorem has19 : Go.Dv.Has pr xt F0 19 Go.Lib.M19 := ⟨by kernel_rfl, fun _ _ => rfl⟩
theorem has21 : Go.Dv.Has pr xt F0 21 Go.Lib.M21 := ⟨by kernel_rfl, fun _ _ => rfl⟩
theorem has22 : Go.Dv.Has pr xt F0 22 Go.Lib.M22 := ⟨by kernel_rfl, fun _ _ => rfl⟩
theorem has23 : Go.Dv.Has pr xt F0 23 Go.Lib.M23 := ⟨by kernel_rfl, fun _ _ => rfl⟩
theorem has24 : Go.Dv.Has pr xt F0 24 Go.Lib.M24 := ⟨by kernel_rfl, fun _ _ => rfl⟩
theorem has25 : Go.Dv.Has pr xt F0 25 Go.Lib.M25 := ⟨by kernel_rfl, fun _ _ => rfl⟩
theorem has26 : Go.Dv.Has pr xt F0 26 Go.Lib.M26 := ⟨by kernel_rfl, fun _ _ => rfl⟩
theorem has27 : Go.Dv.Has pr xt F0 27 Go.Lib.M27 := ⟨by kernel_rfl, fun _ _ => rfl⟩
theorem has28 : Go.Dv.Has pr xt F0 28 Go.Lib.M28 := ⟨by kernel_rfl, fun _ _ => rfl⟩
theorem has29 : Go.Dv.Has pr xt F0 29 Go.Lib.M29 := ⟨by kernel_rfl, fun _ _ => rfl⟩
theorem has30 : Go.Dv.Has pr xt F0 30 Go.Lib.M30 := ⟨by kernel_rfl, fun _ _ => rfl⟩
theorem has31 : Go.Dv.Has pr xt F0 31 Go.Lib.M31 := ⟨by kernel_rfl, fun _ _ => rfl⟩
theorem has32 : Go.Dv.Has pr xt F0 32 Go.Lib.M32 := ⟨by kernel_rfl, fun _ _ => rfl⟩
theorem has33 : Go.Dv.Has pr xt F0 33 Go.Lib.M33 := ⟨by kernel_rfl, fun _ _ => rfl⟩
theorem has34 : Go.Dv.Has pr xt F0 34 Go.Lib.M34 := ⟨by kernel_rfl, fun _ _ => rfl⟩
theorem has35 : Go.Dv.Has pr xt F0 35 Go.Lib.M35 := ⟨by kernel_rfl, fun _ _ => rfl⟩
theorem has36 : Go.Dv.Has pr xt F0 36 Go.Lib.M36 := ⟨by kernel_rfl, fun _ _ => rfl⟩
theorem has37 : Go.Dv.Has pr xt F0 37 Go.Lib.M37 := ⟨by kernel_rfl, fun _ _ => rfl⟩
theorem has38 : Go.Dv.Has pr xt F0 38 Go.Lib.M38 := ⟨by kernel_rfl, fun _ _ => rfl⟩
theorem has39 : Go.Dv.Has pr xt F0 39 Go.Lib.M39 := ⟨by kernel_rfl, fun _ _ => rfl⟩
theorem has40 : Go.Dv.Has pr xt F0 40 Go.Lib.M40 := ⟨by kernel_rfl, fun _ _ => rfl⟩
theorem has41 : Go.Dv.Has pr xt F0 41 Go.Lib.M41 := ⟨by kernel_rfl, fun _ _ => rfl⟩
theorem has42 : Go.Dv.Has pr xt F0 42 Go.Lib.M42 := ⟨by kernel_rfl, fun _ _ => rfl⟩
theorem has43 : Go.Dv.Has pr xt F0 43 Go.Lib.M43 := ⟨by kernel_rfl, fun _ _ => rfl⟩
theorem has44 : Go.Dv.Has pr xt F0 44 Go.Lib.M44 := ⟨by kernel_rfl, fun _ _ => rfl⟩
theorem has46 : Go.Dv.Has pr xt F0 46 Go.Lib.M46 := ⟨by kernel_rfl, fun _ _ => rfl⟩
theorem has47 : Go.Dv.Has pr xt F0 47 Go.Lib.M47 := ⟨by kernel_rfl, fun _ _ => rfl⟩
theorem has48 : Go.Dv.Has pr xt F0 48 Go.Lib.M48 := ⟨by kernel_rfl, fun _ _ => rfl⟩
theorem has49 : Go.Dv.Has pr xt F0 49 Go.Lib.M49 := ⟨by kernel_rfl, fun _ _ => rfl⟩
theorem has50 : Go.Dv.Has pr xt F0 50 Go.Lib.M50 := ⟨by kernel_rfl, fun _ _ => rfl⟩
theorem has53 : Go.Dv.Has pr xt F0 53 Go.Lib.M53 := ⟨by kernel_rfl, fun _ _ => rfl⟩
theorem has54 : Go.Dv.Has pr xt F0 54 Go.Lib.M54 := ⟨by kernel_rfl, fun _ _ => rfl⟩
theorem has55 : Go.Dv.Has pr xt F0 55 Go.Lib.M55 := ⟨by kernel_rfl, fun _ _ => rfl⟩
theorem has56 : Go.Dv.Has pr xt F0 56 Go.Lib.M56 := ⟨by kernel_rfl, fun _ _ => rfl⟩
theorem has57 : Go.Dv.Has pr xt F0 57 Go.Lib.M57 := ⟨by kernel_rfl, fun _ _ => rfl⟩
theorem has58 : Go.Dv.Has pr xt F0 58 Go.Lib.M58 := ⟨by kernel_rfl, fun _ _ => rfl⟩
theorem has59 : Go.Dv.Has pr xt F0 59 Go.Lib.M59 := ⟨by kernel_rfl, fun _ _ => rfl⟩
theorem has60 : Go.Dv.Has pr xt F0 60 Go.Lib.M60 := ⟨by kernel_rfl, fun _ _ => rfl⟩
theorem has65 : Go.Dv.Has pr xt F0 65 Go.Lib.M65 := ⟨by kernel_rfl, fun _ _ => rfl⟩
theorem has66 : Go.Dv.Has pr xt F0 66 Go.Lib.M66 := ⟨by kernel_rfl, fun _ _ => rfl⟩
theorem has67 : Go.Dv.Has pr xt F0 67 Go.Lib.M67 := ⟨by kernel_rfl, fun _ _ => rfl⟩
theorem has68 : Go.Dv.Has pr xt F0 68 Go.Lib.M68 := ⟨by kernel_rfl, fun _ _ => rfl⟩
theorem has69 : Go.Dv.Has pr xt F0 69 Go.Lib.M69 := ⟨by kernel_rfl, fun _ _ => rfl⟩
theorem has70 : Go.Dv.Has pr xt F0 70 Go.Lib.M70 := ⟨by kernel_rfl, fun _ _ => rfl⟩
theorem has71 : Go.Dv.Has pr xt F0 71 Go.Lib.M71 := ⟨by kernel_rfl, fun _ _ => rfl⟩
theorem has72 : Go.Dv.Has pr xt F0 72 Go.Lib.M72 := ⟨by kernel_rfl, fun _ _ => rfl⟩
theorem has73 : Go.Dv.Has pr xt F0 73 Go.Lib.M73 := ⟨by kernel_rfl, fun _ _ => rfl⟩
theorem has74 : Go.Dv.Has pr xt F0 74 Go.Lib.M74 := ⟨by kernel_rfl, fun _ _ => rfl⟩
theorem has75 : Go.Dv.Has pr xt F0 75 Go.Lib.M75 := ⟨by kernel_rfl, fun _ _ => rfl⟩
theorem has76 : Go.Dv.Has pr xt F0 76 Go.Lib.M76 := ⟨by kernel_rfl, fun _ _ => rfl⟩
theorem has77 : Go.Dv.Has pr xt F0 77 Go.Lib.M77 := ⟨by kernel_rfl, fun _ _ => rfl⟩
theorem has78 : Go.Dv.Has pr xt F0 78 Go.Lib.M78 := ⟨by kernel_rfl, fun _ _ => rfl⟩
theorem has79 : Go.Dv.Has pr xt F0 79 Go.Lib.M79 := ⟨by kernel_rfl, fun _ _ => rfl⟩
theorem has80 : Go.Dv.Has pr xt F0 80 Go.Lib.M80 := ⟨by kernel_rfl, fun _ _ => rfl⟩
theorem has81 : Go.Dv.Has pr xt F0 81 Go.Lib.M81 := ⟨by kernel_rfl, fun _ _ => rfl⟩
theorem has82 : Go.Dv.Has pr xt F0 82 Go.Lib.M82 := ⟨by kernel_rfl, fun _ _ => rfl⟩
theorem has87 : Go.Dv.Has pr xt F0 87 Go.Lib.M87 := ⟨by kernel_rfl, fun _ _ => rfl⟩
theorem has88 : Go.Dv.Has pr xt F0 88 Go.Lib.M88 := ⟨by kernel_rfl, fun _ _ => rfl⟩
theorem has89 : Go.Dv.Has pr xt F0 89 Go.Lib.M89 := ⟨by kernel_rfl, fun _ _ => rfl⟩
theorem has90 : Go.Dv.Has pr xt F0 90 Go.Lib.M90 := ⟨by kernel_rfl, fun _ _ => rfl⟩
theorem has91 : Go.Dv.Has pr xt F0 91 Go.Lib.M91 := ⟨by kernel_rfl, fun _ _ => rfl⟩
theorem has92 : Go.Dv.Has pr xt F0 92 Go.Lib.M92 := ⟨by kernel_rfl, fun _ _ => rfl⟩
theorem has93 : Go.Dv.Has pr xt F0 93 Go.Lib.M93 := ⟨by kernel_rfl, fun _ _ => rfl⟩
theorem has94 : Go.Dv.Has pr xt F0 94 Go.Lib.M94 := ⟨by kernel_rfl, fun _ _ => rfl⟩
theorem has95 : Go.Dv.Has pr xt F0 95 Go.Lib.M95 := ⟨by kernel_rfl, fun _ _ => rfl⟩
theorem has96 : Go.Dv.Has pr xt F0 96 Go.Lib.M96 := ⟨by kernel_rfl, fun _ _ => rfl⟩
theorem has97 : Go.Dv.Has pr xt F0 97 Go.Lib.M97 := ⟨by kernel_rfl, fun _ _ => rfl⟩
theorem has98 : Go.Dv.Has pr xt F0 98 Go.Lib.M98 := ⟨by kernel_rfl, fun _ _ => rfl⟩
theorem has99 : Go.Dv.Has pr xt F0 99 Go.Lib.M99 := ⟨by kernel_rfl, fun _ _ => rfl⟩
theorem has100 : Go.Dv.Has pr xt F0 100 Go.Lib.M100 := ⟨by kernel_rfl, fun _ _ => rfl⟩
end Go.Proofs.Ytnbmmnjihipahaa.sa
end

section
set_option maxRecDepth 100000
namespace Go.Proofs.Ytnbmmnjihipahaa.sa
open Go.Vm
theorem awakeR : runs (mach []) (extBy exts) 1000000 34 [] Try.prog.globals.size = true := by decide +kernel
end Go.Proofs.Ytnbmmnjihipahaa.sa
end

section
set_option maxRecDepth 100000
namespace Go.Proofs.Ytnbmmnjihipahaa.sa
open Go.Vm Go.Dv Go.Lib
theorem hawake : FnD pr xt (F0 107) [] (.lit (.bool true)) := by
  intro H ψ S h vs s k;simp only [VDl] at k;subst k;refine wpc_ext (v := .bool true) (h' := h) rfl ⟨ψ, S, _, H, .refl, s, ?_, rfl, rfl⟩;simp [VD, atomV]
theorem x20 : ∀ args h, xt (F0 20) args h = extV .cmp args h := fun _ _ => rfl
theorem x45 : ∀ args h, xt (F0 45) args h = extV .add64 args h := fun _ _ => rfl
theorem hschm : HSchm pr xt F0 := ⟨has1, has2, has3, has4, has5, has6, has7, has8, has9, has10, has11, has12, has13, has14, has15, has16, has17, has18, has19, has21, x20⟩
theorem hlaw6 : HLaw6 pr xt F0 := ⟨has22, has23, has24, has25⟩
theorem hsrt : HSrt pr xt F0 := ⟨has26, has27, has28, has29, has30, has31⟩
theorem haggr : HAggr pr xt F0 := ⟨hsrt, hschm, has32, has33, has34, has35, has36, has37, has38, has39, has40, has41, has42, has43, has44⟩
theorem href6 : HRef6 pr xt F0 := ⟨has46, has47, has48, has49, has50⟩
theorem hpred : HPred pr xt F0 := ⟨hschm, has65, has66, has67, has68, has69⟩
theorem hmodl : HModl pr xt F0 := ⟨haggr, hpred, x45, has70, has71, has72, has73, has74, has75, has76, has77, has78, has79, has80, has81, has82⟩
theorem hpredl : HPredL pr xt F0 := ⟨hlaw6, has99⟩
theorem hlaw15 : HLaw15 pr xt F0 := ⟨hpredl, has97⟩
theorem hprog : HProg pr xt F0 := ⟨hlaw15, has98⟩
theorem href15 : HRef15 pr xt F0 := ⟨href6, has53, has54, has55, has56, has57, has58, has59, has60⟩
theorem href6e : HRef6e pr xt F0 := ⟨href6, has87, has88, has89, has90, has91⟩
theorem hdo15 : HDo15 pr xt F0 := ⟨href15, href6e, has92, has95, has96⟩
theorem hrun15 : HRun15 pr xt F0 := ⟨hdo15, has93, has94⟩
theorem hlaw : HPlays pr xt F0 := ⟨hmodl, hprog, hrun15, hawake, has100⟩
theorem mixed : Try.prog.follows .mixedOrders = true := by kernel_rfl
theorem xt_ok {env : Env} : CallOk Try.prog env xt := orX_ok (constX_ok mixed (valid []) (extBy_rises _) (extBy_ok extsOk) rfl intsOk (n := 1000000) fun f hf => by
  rcases List.mem_cons.1 hf with rfl | hf
  · exact ⟨by kernel_rfl, awakeR⟩
  · cases hf) (extBy_ok extsOk)
theorem xt_rises : Rises xt := orX_rises (constX_rises _) (extBy_rises _)
end Go.Proofs.Ytnbmmnjihipahaa.sa
end
