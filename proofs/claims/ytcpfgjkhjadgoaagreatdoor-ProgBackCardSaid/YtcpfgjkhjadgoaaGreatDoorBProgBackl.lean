/-
 Texts that the claim's last one rests on, joined.
-/
import Derived.Test.YtcpfgjkhjadgoaaGreatDoorBProgBackk
import Derived.Test.YtcpfgjkhjadgoaaGreatDoorBProgBackh
import Derived.Test.YtcpfgjkhjadgoaaGreatDoorRows
import Derived.Test.YtcpfgjkhjadgoaaGreatDoorBProgBackg
import Derived.Test.YtcpfgjkhjadgoaaGreatDoorBProgBacki
import Derived.Test.YtcpfgjkhjadgoaaGreatDoorBProgBackc
import Derived.Shelf.LaysM
import Derived.Shelf.LaysC
import Derived.Shelf.Strings.Prefix
import Derived.Shelf.Small.Wraps
import Derived.Shelf.Small.Strs
import Derived.Shelf.Strings.Cut
import Derived.Shelf.Strings.SplitShaped
import Derived.Shelf.Strings.OnBuilder
import Derived.Shelf.Strconv.Itoa4
import Derived.Shelf.Strconv.ParseIntPublic10
import Derived.Shelf.Strconv.AtoiAll
import Derived.Test.YtcpfgjkhjadgoaaGreatDoorBProgBackf
import Derived.Stop.LaidErr
import Derived.Lay
import Derived.MakeChecks
import Derived.LaidOnce
import Derived.SevenTiedAt
import Derived.LaidSub
import Derived.Lib.LaidTab
import Derived.Shelf.Vars
import Derived.WalkKit
import Derived.ProofKit

section
set_option maxRecDepth 10000
namespace Go.Lib
open Go.Vm Go.Dv Go.Srt
theorem schF_ok {n : Int} : OkS (schF n) := by
 have key : ∀ i : Fin 6, NameOk ((([107, 101, 121] :: colNames)[i.val]?).getD []) := (by unfold NameOk; decide);refine ⟨fun c hc => ?_, schF_names.inj, fun c hc => ?_, ?_, ⟨keyC, rfl, rfl, rfl⟩⟩
 ·obtain ⟨i, hi⟩ := List.getElem?_of_mem hc;obtain ⟨h1, h2, _⟩ := schF_at hi;rw [h2];exact key ⟨i, h1⟩
 ·obtain ⟨i, hi⟩ := List.getElem?_of_mem hc;exact (schF_at hi).2.2
 ·have := (more_le (n := n)).1;rw [schF_len]; omega
theorem schF_now {n : Int} : NoW (schF n) := fun c hc => by
 have key : ∀ i : Fin 6, (([107, 101, 121] :: colNames)[i.val]?).getD [] ≠ whereW := (by decide);obtain ⟨i, hi⟩ := List.getElem?_of_mem hc;obtain ⟨h1, h2, _⟩ := schF_at hi;rw [h2];exact key ⟨i, h1⟩
theorem fit_holds {c : Cl} {v : Vl} (h : FitV c v) : holdsB c v = true := by
 obtain ⟨g, hk, hs, hn⟩ := h;refine holdsB_iff.2 ⟨?_, hk, ?_⟩
 ·unfold isB;rw [decide_eq_true_iff];refine ⟨by rcases g.kd with h | h <;> omega, ?_⟩;split
  ·rename_i e; exact g.nul e
  ·rcases g.kd with ⟨h1, h2⟩ | ⟨h1, h2⟩
   ·rw [if_pos h1]; exact h2
   ·rw [if_neg (by omega)]; exact ⟨h2, hs⟩
 ·cases e : v.null with
  | true => exact .inl (hn e)
  | false => exact .inr rfl
theorem fitR_B : ∀ {s : Sch} {r : Row}, FitR s r → fitsB s r = true
 | [], [], _ => rfl
 | [], v :: r, h => by have := h.1; simp at this
 | c :: s, [], h => by have := h.1; simp at this
 | c :: s, v :: r, h => by
  unfold fitsB;rw [Bool.and_eq_true];exact ⟨fit_holds (h.2 0 c v rfl rfl), fitR_B ⟨by have := h.1; simpa using this, fun i c v hc hv => h.2 (i + 1) c v (by simpa using hc) (by simpa using hv)⟩⟩
theorem predO_right {n : Int} {l : List Int} {a : Nat} : PrL (schF n) 5 (predO (schF n) l a) ∧ cntP (predO (schF n) l a) ≤ 64 := by
 unfold predO;split
 ·obtain ⟨q, hq, hq1⟩ := andI_small (a := shrI .i64 (numO l a) 5) (m := 15) (by simp);have hq' : andI (shrI .i64 (numO l a) 5) 15 = q := hq;have hsl := (schF_ok (n := n)).len;refine ⟨⟨.inr (.inl ⟨rfl, ⟨by show (0 : Int) ≤ 0; omega, by show (0 : Int) < _; omega⟩, ⟨by show (1 : Int) ≤ 1; omega, by show (1 : Int) ≤ 6; omega⟩, rfl, by simp [prK, Pr.v, isB, nV], ⟨keyC, rfl, rfl⟩, rfl, ?_⟩), fun x hx => by simp [prK, Pr.l] at hx⟩, by simp [prK, cntP, cntPs]⟩;show In64 (andI (shrI .i64 (numO l a) 5) 15);rw [hq']; unfold In64; omega
 ·have h := predF_few (n := n) (l := l) (d := 3) (a := a % 7);have := Nat.le_trans h.2 (show capT 3 ≤ 64 by decide);exact ⟨h.1.more, this⟩
theorem inB_nat {s : Sch} {c : Nat} (h : c < s.length) : inB s (c : Int) = true := inB_iff.2 ⟨by omega, by omega⟩
theorem colK_nat {s : Sch} {c : Nat} {cl : Cl} (h : s[c]? = some cl) : colK s (c : Int) = cl := by unfold colK; rw [show ((c : Int)).toNat = c by omega, h]; rfl
theorem opG_right {n x : Int} {k c : Nat} {q : Pr} (_hk : k ≤ 7) (hc : c < (schF n).length) (hq : PrL (schF n) 5 q ∧ cntP q ≤ 64) : OpR (schF n) (opG (schF n) x k c q) := by
 have hs := schF_ok (n := n);have ok := look_ok hq.1 hq.2;have hin := inB_nat hc;have h0 : inB (schF n) 0 = true := inB_iff.2 ⟨by omega, by have := hs.len; omega⟩;unfold opG;split
 ·have hf := rowF_fit (n := n) (x := shrI .i64 x 5);refine ⟨⟨by simp [insO], by simp [insO], by simp [insO], by simp [insO]⟩, ?_, by simp [insO], by simp [insO], by simp [insO], fun v hv => ?_, by simp [insO]⟩
  ·unfold exprB;rw [if_pos (show (insO (rowF (schF n) (shrI .i64 x 5))).kind = 1 from rfl), Bool.and_eq_true];exact ⟨by simp [insO, pr0, Pr.kind], fitR_B hf⟩
  ·obtain ⟨i, hi⟩ := List.getElem?_of_mem hv;have hv' : (rowF (schF n) (shrI .i64 x 5))[i]? = some v := hi;have hil : i < (schF n).length := (by rw [← hf.1]; exact (List.getElem?_eq_some_iff.1 hv').1);exact (hf.2 i _ v (List.getElem?_eq_getElem hil) hv').good.int
 ·split
  ·split
   ·rename_i hc0;obtain ⟨cl, hcl⟩ : ∃ cl, (schF n)[c]? = some cl := ⟨_, List.getElem?_eq_getElem hc⟩;rw [show ((c : Int)).toNat = c by omega, hcl];simp only;have hfit := valF_fit (c := cl) (hs.kinds cl (List.mem_of_getElem? hcl)) (x := shrI .i64 x 17);refine ⟨⟨by simp [setO], by simp [setO], by simp [setO], by simp [setO]⟩, ?_, by simp [setO], fun _ _ => hq, by simp [setO], by simp [setO], fun y hy => ?_⟩
    ·have hset : setB (schF n) (sxO c cl x) = true := by
      unfold setB;have e1 : (sxO (c : Int) cl x).col = c := rfl;have e2 : (sxO (c : Int) cl x).v = valF cl (shrI .i64 x 17) := rfl;have e3 : (sxO (c : Int) cl x).add = addO cl x := rfl;rw [e1, e2, e3, hin, colK_nat hcl, fit_holds hfit];have hz : ¬ (c : Int) = 0 := (by omega);have hz2 : ¬ c = 0 := (by omega);unfold addO;cases h1 : decide (cl.kind = 1) <;> cases h2 : (valF cl (shrI .i64 x 17)).null <;> simp [hz2]
     unfold exprB;rw [if_neg (by simp [setO]), if_pos (by simp [setO]), Bool.and_eq_true];refine ⟨ok, ?_⟩;show setsB (schF n) [sxO c cl x] = true;unfold setsB setsGo setsGo;rw [hset]; rfl
    ·simp [setO] at hy; subst hy;exact hfit.good.int
   ·refine ⟨⟨by simp [delO], by simp [delO], by simp [delO], by simp [delO]⟩, ?_, by simp [delO], fun _ _ => hq, by simp [delO], by simp [delO], by simp [delO]⟩;unfold exprB;rw [if_neg (by simp [delO]), if_neg (by simp [delO]), if_pos (by simp [delO])];exact ok
  ·split
   ·refine ⟨⟨by simp [scanO], by simp [scanO], by simp [scanO], by simp [scanO]⟩, ?_, by simp [scanO], fun _ _ => hq, by simp [scanO], by simp [scanO], by simp [scanO]⟩;unfold exprB;rw [if_neg (by simp [scanO]), if_neg (by simp [scanO]), if_neg (by simp [scanO]), if_pos (by simp [scanO]), Bool.and_eq_true];refine ⟨ok, ?_⟩;show colsB (schF n) [(c : Int), 0] = true;unfold colsB;simp [hin, h0]
   ·split
    ·obtain ⟨b, hb, hb1⟩ := andI_small (a := shrI .i64 x 14) (m := 1) (by simp);have hb' : andI (shrI .i64 x 14) 1 = b := hb;obtain ⟨d, hd, hd1⟩ := andI_small (a := shrI .i64 x 15) (m := 1) (by simp);have hd' : andI (shrI .i64 x 15) 1 = d := hd;have hcs := (schF_small (n := n)).1
     have w1 : wr .i64 ((c : Int) + 1) = (c : Int) + 1 := by rw [wr_of] <;> omega
     have hg : wr .i64 ((c : Int) - wr .i64 (andI (shrI .i64 x 14) 1 * wr .i64 ((c : Int) + 1))) = -1 ∨ inB (schF n) (wr .i64 ((c : Int) - wr .i64 (andI (shrI .i64 x 14) 1 * wr .i64 ((c : Int) + 1)))) = true := by
      rw [hb', w1];rcases (show b = 0 ∨ b = 1 by omega) with rfl | rfl
      ·right;rw [show ((0 : Nat) : Int) * ((c : Int) + 1) = 0 by simp, show wr .i64 0 = 0 from rfl, wr_of (by omega) (by omega), show (c : Int) - 0 = c by omega]; exact hin
      ·left;rw [show ((1 : Nat) : Int) * ((c : Int) + 1) = (c : Int) + 1 by simp, w1, wr_of (by omega) (by omega)]; omega
     have hk3 : wr .i64 (3 + andI (shrI .i64 x 15) 1) = 3 ∨ wr .i64 (3 + andI (shrI .i64 x 15) 1) = 4 := by
      rw [hd', wr_of (by omega) (by omega)]; omega
     refine ⟨⟨by simp [aggO], by simp [aggO], by simp [aggO], by simp [aggO]⟩, ?_, by simp [aggO], fun _ _ => hq, by simp [aggO], by simp [aggO], by simp [aggO]⟩;unfold exprB;rw [if_neg (by simp [aggO]), if_neg (by simp [aggO]), if_neg (by simp [aggO]), if_neg (by simp [aggO]), if_pos (by simp [aggO]), Bool.and_eq_true, Bool.and_eq_true];refine ⟨⟨ok, ?_⟩, ?_⟩
     ·simp only [Bool.or_eq_true, decide_eq_true_eq]; exact hg
     ·show aggsB (schF n) [⟨1, 0⟩, ⟨wr .i64 (3 + andI (shrI .i64 x 15) 1), c⟩, ⟨2, 0⟩] = true
      have a2 : aggB (schF n) ⟨wr .i64 (3 + andI (shrI .i64 x 15) 1), c⟩ = true := by
       unfold aggB;simp only;rw [if_neg (by omega), if_neg (by omega), if_pos (by omega)]; exact hin
      have a3 : aggB (schF n) ⟨2, 0⟩ = true := by
       unfold aggB;simp only;rw [if_neg (by omega), if_pos trivial, h0];have : colK (schF n) 0 = keyC := rfl;rw [this]; rfl
      have a1 : aggB (schF n) ⟨1, 0⟩ = true := rfl;unfold aggsB;simp [a1, a2, a3]
    ·split
     ·exact ⟨⟨by simp [rollO], by simp [rollO], by simp [rollO], by simp [rollO]⟩, rfl, by simp [rollO], by simp [rollO], by simp [rollO], by simp [rollO], by simp [rollO]⟩
     ·refine ⟨⟨by simp [delO], by simp [delO], by simp [delO], by simp [delO]⟩, ?_, by simp [delO], fun _ _ => hq, by simp [delO], by simp [delO], by simp [delO]⟩;unfold exprB;rw [if_neg (by simp [delO]), if_neg (by simp [delO]), if_pos (by simp [delO])];exact ok
theorem opF_right {n : Int} {l : List Int} {a : Nat} : OpR (schF n) (opF (schF n) l a) := by
 obtain ⟨c, hc, hcl⟩ := colO_at (s := schF n) (n := numO l a) (schF_small (n := n)).2;obtain ⟨k, hk, hk7⟩ := andI_small (a := numO l a) (m := 7) (by simp);have hk' : andI (numO l a) 7 = k := hk;unfold opF;rw [hc, hk'];exact opG_right hk7 hcl predO_right
theorem progF_right {n : Int} {l : List Int} {x : Int} : ∀ o, o ∈ progF (schF n) l x → OpR (schF n) o := fun o ho => by
 unfold progF at ho;obtain ⟨i, _, rfl⟩ := List.mem_map.1 ho;exact opF_right
theorem OpR.opP {s : Sch} {o : Op} (h : OpR s o) (hs : s.length < 1000) : OpP s o := by
 have hk := h.kind;have he := h.expr;refine ⟨h.shp, ?_, h.row, h.sets, ?_⟩
 ·by_cases k : 2 ≤ o.kind ∧ o.kind ≤ 5
  ·exact .inr (h.pred k.1 k.2)
  ·exact .inl (h.prz (by omega))
 ·unfold exprB at he;have e1 := h.shp.row;have e2 := h.shp.sets;have e3 := h.shp.cols;have e4 := h.shp.aggs;refine ⟨?_, ?_, ?_, ?_⟩
  ·by_cases k : o.kind = 1
   ·rw [if_pos k, Bool.and_eq_true] at he;have := fitsB_len he.2; omega
   ·rw [e1 k]; simp
  ·by_cases k : o.kind = 2
   ·rw [if_neg (by omega), if_pos k, Bool.and_eq_true] at he;have := he.2;unfold setsB at this;simp only [Bool.and_eq_true, decide_eq_true_eq] at this; omega
   ·rw [e2 k]; simp
  ·by_cases k : o.kind = 4
   ·rw [if_neg (by omega), if_neg (by omega), if_neg (by omega), if_pos k, Bool.and_eq_true] at he;have := he.2;unfold colsB at this;simp only [Bool.and_eq_true, decide_eq_true_eq] at this; omega
   ·rw [e3 k]; simp
  ·by_cases k : o.kind = 5
   ·rw [if_neg (by omega), if_neg (by omega), if_neg (by omega), if_neg (by omega), if_pos k, Bool.and_eq_true] at he;have := he.2;unfold aggsB at this;simp only [Bool.and_eq_true, decide_eq_true_eq] at this; omega
   ·rw [(e4 k).2]; simp
end Go.Lib
end

section
set_option maxRecDepth 10000
namespace Go.Lib
open Go.Vm Go.Dv Go.Srt
variable {p : Prog} {ext : Ext} {F : Nat → Nat}
attribute [-simp] bin_and bin_xor
structure HLaw26 (p : Prog) (ext : Ext) (F : Nat → Nat) (g : SG) : Prop where
 prog : HProgP p ext F g
 law15 : HProg p ext F
 samp : HSamP p ext F
 awake : FnD p ext (F 302) [] (.lit (.bool true))
 h299 : Has p ext F 299 M299
 h300 : Has p ext F 300 M300
 h301 : Has p ext F 301 M301
theorem same_pr0 (L : HSamP p ext F) : FnD p ext (F 229) [.agg pr0.c, .agg pr0.c] (.lit (.bool true)) := by
 refine fn_of L.h229 (M := M229) rfl ok229 rfl fun H => sem_run 9000 _ ?_;have e5 : pr0.l = [] := rfl;simp;refine sf (ref6_sameVal L.ref6 (a := pr0.v) (b := pr0.v)) ?_;simp [e5];refine sem_loop (SamI H pr0 pr0) ?_ (k := 0) ⟨0, by simp [e5], by simp, rfl, rfl, sR⟩;rintro w fr H' ⟨i, hw, hi, ht, rfl, sb⟩;rw [e5] at hi;have : i = 0 := (by simpa using hi);subst this;refine sem_run 9000 _ ?_;simp;simp [e5];refine sem_exit (sem_run 9000 _ ?_);simp;refine sem_ret ?_;simp [M229];exact .le sb (D.le_refl _) (by simp)
theorem same_pred (L : HSamP p ext F) {s : Sch} {q : Pr} (h : q = pr0 ∨ PrL s 5 q) : FnD p ext (F 229) [.agg q.c, .agg q.c] (.lit (.bool true)) := by
 rcases h with rfl | h
 ·exact same_pr0 L
 ·obtain ⟨r, hr, fr⟩ := ref6_samePred L 5 q q h h;rw [hr.2 rfl] at fr;exact fr
theorem ieq_dec {a b : Int} : ieq a b = decide (a = b) := by rw [Bool.eq_iff_iff, ieq_iff, decide_eq_true_iff]
theorem beqB_dec : ∀ {a b : Bool}, beqB a b = decide (a = b) := by decide
theorem isEq_ag {a : Ag} : isEq (.struct [(0, none, .int), (1, none, .int)]) (.agg a.c) (.agg a.c) = some true := by
 simp [isEq, toV, toVs, Ag.c, eqV, eqVs, fieldOf, show keq .i64 .i64 = true from rfl, ieq_dec]
theorem cl_ext {a b : Cl} (h1 : a.name = b.name) (h2 : a.kind = b.kind) (h3 : a.null = b.null) : a = b := by
 cases a; cases b; simp only at h1 h2 h3; subst h1 h2 h3; rfl
theorem cl_iff {a b : Cl} : a = b ↔ a.name = b.name ∧ a.kind = b.kind ∧ a.null = b.null := ⟨fun h => by subst h; exact ⟨rfl, rfl, rfl⟩, fun h => cl_ext h.1 h.2.1 h.2.2⟩
instance : DecidableEq Cl := fun a b => decidable_of_iff (a.name = b.name ∧ a.kind = b.kind ∧ a.null = b.null) cl_iff.symm
theorem isEq_cl {x y : Cl} : isEq (.struct [(0, none, .str), (1, none, .int), (2, none, .bool)]) (.agg x.c) (.agg y.c) = some (decide (x = y)) := by
 have e : decide (x = y) = (decide (x.name = y.name) && (decide (x.kind = y.kind) && decide (x.null = y.null))) := by
  rw [Bool.eq_iff_iff]; simp [cl_iff]
 rw [e];simp [isEq, toV, toVs, Cl.c, eqV, eqVs, fieldOf, neqs_dec, show keq .i64 .i64 = true from rfl, ieq_dec, beqB_dec]
 by_cases h1 : x.name = y.name
 ·by_cases h2 : x.kind = y.kind
  ·by_cases h3 : x.null = y.null
   ·simp [h1, h2, h3]
   ·simp [h1, h2, h3]
  ·simp [h1, h2]
 ·simp [h1]
def SoI (a b : Nat) (o : Op) (n : Nat) (H0 : HpD) (w : Nat) (fr : FrD) (H : HpD) : Prop :=
 ∃ i : Nat, w = n - i ∧ i ≤ n ∧ fr = [(2, .rptr o.c 0), (3, .rptr o.c 0), (a, .lit (.int .i64 (n : Int))), (b, .lit (.int .i64 (i : Int)))] ∧ Sub H0 H
theorem same_op {g : SG} (L : HLaw26 p ext F g) {s : Sch} {o : Op} (hp : o.pred = pr0 ∨ PrL s 5 o.pred) (h1 : o.row.length < 1000000) (h2 : o.sets.length < 1000000) (h3 : o.cols.length < 1000000) (h4 : o.aggs.length < 1000000) : FnD p ext (F 300) [.agg o.c, .agg o.c] (.lit (.bool true)) := by
 refine fn_of L.h300 (M := M300) rfl ok300 rfl fun H => sem_run 9000 _ ?_;simp;refine sf (ref6_sameRow L.samp.ref6 (x := o.row) (y := o.row) h1) ?_;simp;refine sf (same_pred L.samp hp) ?_;simp;refine sem_loop (SoI 65 66 o o.sets.length H) ?_ (k := o.sets.length) ⟨0, by simp, by simp, rfl, sR⟩;rintro w fr H' ⟨i, rfl, hi, rfl, sb⟩
 by_cases c : i < o.sets.length
 ·obtain ⟨x, hx⟩ : ∃ x, o.sets[i] = x := ⟨_, rfl⟩;have hw : wr .i64 ((i : Int) + 1) = ((i + 1 : Nat) : Int) := (by rw [wr_of] <;> omega);refine sem_run 9000 _ ?_;simp;simp [c, hx];refine sem_dfn (ref6_sameVal L.samp.ref6 (a := x.v) (b := x.v)) (by first | exact D.les_refl _ | simp) (sem_run 9000 _ ?_);simp;refine sem_ok ?_;exact ⟨_, by omega, i + 1, rfl, by omega, by rw [hw], (sB sb)⟩
 ·have : i = o.sets.length := (by omega);subst this;refine sem_run 9000 _ ?_;simp;refine sem_exit (sem_run 9000 _ ?_);simp;refine sem_loop (SoI 116 117 o o.cols.length H) ?_ (k := o.cols.length) ⟨0, by simp, by simp, rfl, sb⟩;rintro w fr H2 ⟨i, rfl, hi, rfl, sb⟩
  by_cases c : i < o.cols.length
  ·obtain ⟨x, hx⟩ : ∃ x, o.cols[i] = x := ⟨_, rfl⟩;have hw : wr .i64 ((i : Int) + 1) = ((i + 1 : Nat) : Int) := (by rw [wr_of] <;> omega);refine sem_run 9000 _ ?_;simp;simp [c, hx];refine sem_ok ?_;exact ⟨_, by omega, i + 1, rfl, by omega, by rw [hw], (sB sb)⟩
  ·have : i = o.cols.length := (by omega);subst this;refine sem_run 9000 _ ?_;simp;refine sem_exit (sem_run 9000 _ ?_);simp;refine sem_loop (SoI 134 135 o o.aggs.length H) ?_ (k := o.aggs.length) ⟨0, by simp, by simp, rfl, sb⟩;rintro w fr H3 ⟨i, rfl, hi, rfl, sb⟩
   by_cases c : i < o.aggs.length
   ·obtain ⟨x, hx⟩ : ∃ x, o.aggs[i] = x := ⟨_, rfl⟩;have hw : wr .i64 ((i : Int) + 1) = ((i + 1 : Nat) : Int) := (by rw [wr_of] <;> omega);refine sem_run 9000 _ ?_;simp;simp [c, hx, isEq_ag];refine sem_ok ?_;exact ⟨_, by omega, i + 1, rfl, by omega, by rw [hw], (sB sb)⟩
   ·have : i = o.aggs.length := (by omega);subst this;refine sem_run 9000 _ ?_;simp;refine sem_exit (sem_run 9000 _ ?_);simp;refine sem_ret ?_;simp [M300];exact .le sb (D.le_refl _) (by simp)
def AlI (s t : Sch) (H0 : HpD) (w : Nat) (fr : FrD) (H : HpD) : Prop :=
 ∃ i : Nat, w = s.length - i ∧ i ≤ s.length ∧ s.take i = t.take i ∧ fr = [(2, .rptr [schR s] 0), (3, .rptr [schR t] 0), (15, .lit (.int .i64 (s.length : Int))), (16, .lit (.int .i64 (i : Int)))] ∧ Sub H0 H
theorem law_alike {g : SG} (L : HLaw26 p ext F g) {s t : Sch} (hs : s.length < 1000) (ht : t.length < 1000) : FnD p ext (F 301) [schD s, schD t] (.lit (.bool (decide (s = t)))) := by
 refine fn_of L.h301 (M := M301) rfl ok301 rfl fun H => sem_run 9000 _ ?_
 by_cases hl : s.length = t.length
 ·have hl' : (s.length : Int) = (t.length : Int) := (by omega);simp [hl'];refine sem_loop (AlI s t H) ?_ (k := s.length) ⟨0, by simp, by simp, by simp, by simp [hl], sR⟩;rintro w fr H' ⟨i, rfl, hi, hta, rfl, sb⟩
  by_cases c : i < s.length
  ·have c2 : i < t.length := (by omega);obtain ⟨x, hx⟩ : ∃ x, s[i] = x := ⟨_, rfl⟩;obtain ⟨y, hy⟩ : ∃ y, t[i] = y := ⟨_, rfl⟩;have hw : wr .i64 ((i : Int) + 1) = ((i + 1 : Nat) : Int) := (by rw [wr_of] <;> omega);refine sem_run 9000 _ ?_;simp;simp [c, c2, hx, hy, isEq_cl]
   by_cases e : x = y
   ·simp [e];refine sem_ok ?_;exact ⟨_, by omega, i + 1, rfl, by omega, by rw [List.take_succ_eq_append_getElem c, List.take_succ_eq_append_getElem c2, hta, hx, hy, e], by rw [hw], (sB sb)⟩
   ·simp [e];refine sem_ret ?_;simp [M301];refine sem_ret ?_;simp;rw [show decide (s = t) = false from decide_eq_false fun h => e (by subst h; rw [← hx, ← hy])];exact .le (sB sb) (D.le_refl _) (by simp)
  ·have : i = s.length := (by omega);subst this;rw [List.take_length, hl, List.take_length] at hta;refine sem_run 9000 _ ?_;simp;refine sem_exit (sem_run 9000 _ ?_);simp;refine sem_ret ?_;simp [M301];rw [show decide (s = t) = true from decide_eq_true hta];exact .le sb (D.le_refl _) (by simp)
 ·have hl' : ¬ (s.length : Int) = (t.length : Int) := (by omega);simp [hl'];refine sem_ret ?_;simp [M301];rw [show decide (s = t) = false from decide_eq_false fun e => hl (by rw [e])];exact .le sR (D.le_refl _) (by simp)
end Go.Lib
end

section
set_option maxRecDepth 10000
namespace Go.Lib
open Go.Vm Go.Dv Go.Srt
variable {p : Prog} {ext : Ext} {F : Nat → Nat}
attribute [-simp] bin_and bin_xor
theorem toldF_opP {s : Sch} {t : List Nat} (hl : t.length < 100000) {k : Option Nat} (h : (toldF s t k).2 = true) : OpP s (toldF s t k).1 := by
 have e := (toldF_right h).2.2;rw [e] at h ⊢;exact full_opP hl h
theorem tryF_opP {s : Sch} {t : List Nat} (hl : t.length < 100000) : ∀ {n fm : Nat}, (tryF s t n fm).2 = true → OpP s (tryF s t n fm).1
 | 0, _, h => toldF_opP hl h
 | n + 1, fm, h => by
  unfold tryF at h ⊢;split at h
  ·exact toldF_opP hl h
  ·split at h
   ·rename_i e2; rw [if_pos e2]; exact toldF_opP hl e2
   ·rename_i e2; rw [if_neg e2]; exact tryF_opP hl h
def PbI (s t : Sch) (P : List Op) (H0 : HpD) (w : Nat) (fr : FrD) (H : HpD) : Prop :=
 ∃ i : Nat, w = P.length - i ∧ i ≤ P.length ∧ fr = [(9, .rptr [schR s] 0), (10, .rptr [schR t] 0), (27, opsD P), (28, .lit (.int .i64 (P.length : Int))), (29, .lit (.int .i64 (i : Int)))] ∧ Sub H0 H
theorem progBack {g : SG} (L : HLaw26 p ext F g) {n m prg : Int} {md : Md} {l : List Int} : FnD p ext (F 299) [.lit (.int .i64 n), .lit (.int .i64 m), intsD md l, .lit (.int .i64 prg)] (.lit (.bool true)) := by
 refine fn_of L.h299 (M := M299) rfl ok299 rfl fun H => sem_run 9000 _ ?_;have hs := schF_ok (n := n);have ht := schF_ok (n := m);have hs1 := schF_small (n := n);have ht1 := schF_small (n := m);simp;refine sf (schema L.law15.op.law6 (n := n)) ?_;simp;refine sem_fn (schema L.law15.op.law6 (n := m)) (by first | exact D.les_refl _ | simp) (sem_run 6 _ ?_);have hprog := law15_program L.law15 (m := md) (l := l) (n := prg) hs1.2 hs1.1;have hP := progF_right (n := n) (l := l) (x := prg);have hPl := progF_len (s := schF n) (l := l) (n := prg);have hPl2 := lenG_le (x := prg);have hback : ∀ o, o ∈ progF (schF n) l prg → parseO (schF n) (opT (schF n) o) = (o, true) := fun o ho => parse_back hs schF_now (hP o ho)
 generalize schF n = s at hs hs1 hprog hP hPl hback ⊢;generalize schF m = t at ht ht1 ⊢;generalize progF s l prg = P at hprog hP hPl hback;have hPs : P.length ≤ 6 := (by omega);clear hPl hPl2;simp;refine sem_box (ro := false) (b := H.next) (cs := [schR s]) 9 (by simp) (by simp) ?_;refine sem_box (ro := false) (b := H.next + 1) (cs := [schR t]) 10 (by simp) (by simp) ?_;refine sem_run 9000 _ ?_;simp;refine sem_fn hprog (by first | exact D.les_refl _ | simp [schD, D.les_refl]) (sem_run 9000 _ ?_);simp;refine sem_loop (PbI s t P H) ?_ (k := P.length) ⟨0, by simp, by simp, by simp [opsD], sR⟩
 rintro w fr H' ⟨i, rfl, hi, rfl, sb⟩
 by_cases c : i < P.length
 ·obtain ⟨o, ho⟩ : ∃ o, P[i]? = some o := ⟨_, List.getElem?_eq_getElem c⟩;have hoi : P[i] = o := (by rw [List.getElem?_eq_getElem c] at ho; exact Option.some.inj ho);have hom : o ∈ P := List.mem_of_getElem? ho;have hw : wr .i64 ((i : Int) + 1) = ((i + 1 : Nat) : Int) := (by rw [wr_of] <;> omega);have hR := hP o hom;have hop := hR.opP hs1.1;have hx : opTx s o = opT s o := (by unfold opTx; rw [if_pos hR.expr]);obtain ⟨b1, b2⟩ := opT_small hs hR;have f1 := prog_op L.prog.txt hs hop;have f2 := prog_parseOp L.prog hs b1 b2;have f3 := prog_parseOp L.prog ht b1 b2;rw [hback o hom] at f2;rw [hx] at f1
  have f4 : FnD p ext (F 300) [.agg o.c, .agg o.c] (.lit (.bool true)) := by
   obtain ⟨n1, n2, n3, n4⟩ := hop.len;refine same_op L (s := s) ?_ n1 n2 n3 n4;rcases hop.pred with h | h
   ·exact .inl h
   ·exact .inr h.1
  obtain ⟨q, hq⟩ : ∃ q, (parseO t (opT s o)).1 = q := ⟨_, rfl⟩
  have hqo : (parseO t (opT s o)).2 = true → opTx t q = opT s o ∧ OpP t q := fun h => by
   rw [← hq]; exact ⟨tryF_right h, tryF_opP b1 h⟩
  rw [hq] at f3;refine sem_run 9000 _ ?_;simp;simp [c, hoi];refine sem_fn f1 (by first | exact D.les_refl _ | simp [schD, D.les_refl]) (sem_run 9000 _ ?_);simp;refine sem_fn f2 (by first | exact D.les_refl _ | simp [schD, D.les_refl]) (sem_run 9000 _ ?_);simp;refine sem_fn f3 (by first | exact D.les_refl _ | simp [schD, D.les_refl]) (sem_run 9000 _ ?_);simp;refine sem_fn f4 (by first | exact D.les_refl _ | simp [schD, D.les_refl]) (sem_run 9000 _ ?_)
  cases is : (parseO t (opT s o)).2 with
  | false =>
   simp;refine sem_ok ?_;exact ⟨_, by omega, i + 1, rfl, by omega, by rw [hw], (sB sb)⟩
  | true =>
   obtain ⟨q1, q2⟩ := hqo is;have f5 := prog_op L.prog.txt ht q2;rw [q1] at f5;simp;refine sem_fn f5 (by first | exact D.les_refl _ | simp [schD, D.les_refl]) (sem_run 9000 _ ?_);simp [neqs_dec];refine sem_ok ?_;exact ⟨_, by omega, i + 1, rfl, by omega, by rw [hw], (sB sb)⟩
 ·have : i = P.length := (by omega);subst this;have g1 := prog_schema L.prog.txt hs;have g2 := prog_schema L.prog.txt ht;have g3 := prog_parseSchema L.prog hs;have g4 := law_alike L hs1.1 ht1.1
  have hst : decide (schT s = schT t) = decide (s = t) := by
   by_cases e : s = t
   ·subst e; simp
   ·rw [decide_eq_false e, decide_eq_false fun h => e (schT_inj hs ht h)]
  refine sem_run 9000 _ ?_;simp;refine sem_exit (sem_run 9000 _ ?_);simp;refine sem_fn g1 (by first | exact D.les_refl _ | simp [schD, D.les_refl]) (sem_run 9000 _ ?_);simp;refine sem_fn g3 (by first | exact D.les_refl _ | simp [schD, D.les_refl]) (sem_run 8 _ ?_);simp;refine sem_box (ro := false) (b := H'.next) (cs := [schR s]) 18 (by simp) (by simp) ?_;refine sem_run 9000 _ ?_;simp;refine sem_dfn g1 (by first | exact D.les_refl _ | simp [schD, D.les_refl]) (sem_run 9000 _ ?_);simp;refine sem_dfn g1 (by first | exact D.les_refl _ | simp [schD, D.les_refl]) (sem_run 9000 _ ?_);simp [neqs_dec]
  refine sem_dfn g1 (by first | exact D.les_refl _ | simp [schD, D.les_refl]) (sem_run 9000 _ ?_);simp;refine sem_dfn g2 (by first | exact D.les_refl _ | simp [schD, D.les_refl]) (sem_run 9000 _ ?_);simp;refine sem_dfn g4 (by first | exact D.les_refl _ | simp [schD, D.les_refl]) (sem_run 9000 _ ?_);simp [neqs_dec, hst, beqB_dec];refine sem_dfn L.awake (by first | exact D.les_refl _ | simp) (sem_run 9000 _ ?_);simp;refine sem_ret ?_;simp [M299];exact .le (sB sb) (D.le_refl _) (by simp)
end Go.Lib
end

section
namespace Go.Proofs.YtcpfgjkhjadgoaaGreatDoor.sa
def F0 (i : Nat) : Nat := ([0, 0, 0, 0, 0, 0, 168, 0, 0, 0, 0, 0, 0, 0, 0, 175, 0, 0, 0, 0, 0, 0, 0, 7, 60, 11, 0, 0, 0, 0, 0, 0, 0, 0, 0, 0, 0, 0, 0, 0, 0, 0, 0, 0, 0, 0, 0, 0, 0, 53, 15, 0, 0, 0, 0, 0, 0, 0, 0, 0, 0, 0, 0, 0, 0, 0, 0, 0, 0, 0, 0, 0, 0, 0, 0, 0, 0, 0, 0, 0, 0, 0, 0, 0, 0, 0, 0, 0, 67, 0, 0, 16, 0, 0, 0, 0, 0, 28, 20, 8, 0, 0, 0, 0, 0, 0, 0, 0, 0, 0, 0, 0, 0, 0, 0, 0, 0, 0, 0, 0, 0, 0, 0, 0, 0, 0, 0, 0, 0, 0, 0, 0, 0, 0, 0, 0, 0, 0, 0, 0, 0, 0, 0, 0, 0, 0, 0, 0, 0, 0, 0, 0, 0, 0, 0, 0, 0, 0, 0, 0, 0, 0, 0, 0, 0, 0, 0, 0, 0, 0, 0, 0, 0, 0, 0, 0, 0, 0, 0, 0, 0, 0, 0, 0, 0, 0, 0, 0, 0, 0, 0, 0, 0, 0, 0, 0, 0, 0, 0, 0, 55, 51, 54, 56, 36, 162, 74, 59, 152, 40, 37, 0, 9, 14, 32, 33, 71, 72, 106, 145, 38, 146, 0, 0, 0, 0, 0, 0, 0, 18, 6, 17, 41, 80, 57, 81, 118, 12, 158, 119, 35, 73, 10, 13, 19, 34, 39, 42, 43, 78, 82, 21, 22, 25, 24, 44, 45, 46, 47, 48, 49, 50, 52, 58, 83, 84, 85, 86, 87, 88, 89, 91, 92, 94, 90, 95, 96, 98, 120, 121, 123, 122, 124, 125, 93, 126, 131, 130, 133, 132, 136, 135, 138, 137, 159, 160, 134, 139, 172, 4, 23, 26, 27] : List Nat).getD i 0
end Go.Proofs.YtcpfgjkhjadgoaaGreatDoor.sa
end

section
set_option maxRecDepth 100000
namespace Go.Proofs.YtcpfgjkhjadgoaaGreatDoor
open Go.Vm
def m4 : Fun := Go.Lib.M299 Go.Proofs.YtcpfgjkhjadgoaaGreatDoor.sa.F0
theorem v4 : IsFun Tryz.prog 4 m4 := ⟨_, Tryz.func4, by kernel_rfl, by kernel_rfl⟩
def m7 : Fun := Go.Lib.M23 Go.Proofs.YtcpfgjkhjadgoaaGreatDoor.sa.F0
theorem v7 : IsFun Tryz.prog 7 m7 := ⟨_, Tryz.func7, by kernel_rfl, by kernel_rfl⟩
def m8 : Fun := Go.Lib.M99 Go.Proofs.YtcpfgjkhjadgoaaGreatDoor.sa.F0
theorem v8 : IsFun Tryz.prog 8 m8 := ⟨_, Tryz.func8, by kernel_rfl, by kernel_rfl⟩
def m9 : Fun := Go.Lib.M212 Go.Proofs.YtcpfgjkhjadgoaaGreatDoor.sa.F0
theorem v9 : IsFun Tryz.prog 9 m9 := ⟨_, Tryz.func9, by kernel_rfl, by kernel_rfl⟩
def m11 : Fun := Go.Lib.M25 Go.Proofs.YtcpfgjkhjadgoaaGreatDoor.sa.F0
theorem v11 : IsFun Tryz.prog 11 m11 := ⟨_, Tryz.func11, by kernel_rfl, by kernel_rfl⟩
def m12 : Fun := Go.Lib.M237 Go.Proofs.YtcpfgjkhjadgoaaGreatDoor.sa.F0
theorem v12 : IsFun Tryz.prog 12 m12 := ⟨_, Tryz.func12, by kernel_rfl, by kernel_rfl⟩
def m14 : Fun := Go.Lib.M213 Go.Proofs.YtcpfgjkhjadgoaaGreatDoor.sa.F0
theorem v14 : IsFun Tryz.prog 14 m14 := ⟨_, Tryz.func14, by kernel_rfl, by kernel_rfl⟩
def m15 : Fun := Go.Lib.M50 Go.Proofs.YtcpfgjkhjadgoaaGreatDoor.sa.F0
theorem v15 : IsFun Tryz.prog 15 m15 := ⟨_, Tryz.func15, by kernel_rfl, by kernel_rfl⟩
def m17 : Fun := Go.Lib.M231 Go.Proofs.YtcpfgjkhjadgoaaGreatDoor.sa.F0
theorem v17 : IsFun Tryz.prog 17 m17 := ⟨_, Tryz.func17, by kernel_rfl, by kernel_rfl⟩
def m18 : Fun := Go.Lib.M229 Go.Proofs.YtcpfgjkhjadgoaaGreatDoor.sa.F0
theorem v18 : IsFun Tryz.prog 18 m18 := ⟨_, Tryz.func18, by kernel_rfl, by kernel_rfl⟩
def m20 : Fun := Go.Lib.M98 Go.Proofs.YtcpfgjkhjadgoaaGreatDoor.sa.F0
theorem v20 : IsFun Tryz.prog 20 m20 := ⟨_, Tryz.func20, by kernel_rfl, by kernel_rfl⟩
def m21 : Fun := Go.Lib.M251 Go.Proofs.YtcpfgjkhjadgoaaGreatDoor.sa.F0
theorem v21 : IsFun Tryz.prog 21 m21 := ⟨_, Tryz.func21, by kernel_rfl, by kernel_rfl⟩
def m22 : Fun := Go.Lib.M252 Go.Proofs.YtcpfgjkhjadgoaaGreatDoor.sa.F0
theorem v22 : IsFun Tryz.prog 22 m22 := ⟨_, Tryz.func22, by kernel_rfl, by kernel_rfl⟩
def m23 : Fun := Go.Lib.M300 Go.Proofs.YtcpfgjkhjadgoaaGreatDoor.sa.F0
theorem v23 : IsFun Tryz.prog 23 m23 := ⟨_, Tryz.func23, by kernel_rfl, by kernel_rfl⟩
def m24 : Fun := Go.Lib.M254 Go.Proofs.YtcpfgjkhjadgoaaGreatDoor.sa.F0
theorem v24 : IsFun Tryz.prog 24 m24 := ⟨_, Tryz.func24, by kernel_rfl, by kernel_rfl⟩
def m25 : Fun := Go.Lib.M253 Go.Proofs.YtcpfgjkhjadgoaaGreatDoor.sa.F0
theorem v25 : IsFun Tryz.prog 25 m25 := ⟨_, Tryz.func25, by kernel_rfl, by kernel_rfl⟩
def m26 : Fun := Go.Lib.M301 Go.Proofs.YtcpfgjkhjadgoaaGreatDoor.sa.F0
theorem v26 : IsFun Tryz.prog 26 m26 := ⟨_, Tryz.func26, by kernel_rfl, by kernel_rfl⟩
def m27 : Fun := ⟨101,0,.seq (.region [⟨some 0,.p (.mov (.val (.bool false))),none⟩])
 (.seq (.region [⟨some 12,.e (.call 24 [(.val (.str [107,101,121,58,105,110,116,44,97,58,98,121,116,101,115,63]))]),none⟩,⟨some 11,.p (.mov (.tmp 12)),none⟩,⟨some 13,.p (.ext (.tmp 11) 0),none⟩,⟨some 14,.p (.ext (.tmp 11) 1),none⟩,⟨some 1,.a (.new [.nilslice]),none⟩,⟨none,.e (.store 1 (.tmp 1) (.tmp 13)),none⟩,⟨some 2,.p (.mov (.tmp 14)),none⟩])
 (.seq (.region [⟨some 16,.e (.call 24 [(.val (.str [107,101,121,58,105,110,116,63]))]),none⟩,⟨some 15,.p (.mov (.tmp 16)),none⟩,⟨some 17,.p (.ext (.tmp 15) 0),none⟩,⟨some 18,.p (.ext (.tmp 15) 1),none⟩,⟨some 3,.a (.new [.nilslice]),none⟩,⟨none,.e (.store 1 (.tmp 3) (.tmp 17)),none⟩,⟨some 4,.p (.mov (.tmp 18)),none⟩])
 (.seq (.region [⟨some 20,.loadn 1 (.tmp 1),none⟩,⟨some 21,.e (.call 22 [(.tmp 20),(.val (.str [117,112,100,97,116,101,32,97,61,120,54,49,54,50,32,119,104,101,114,101,32,107,101,121,32,61,32,53]))]),none⟩,⟨some 19,.p (.mov (.tmp 21)),none⟩,⟨some 22,.p (.ext (.tmp 19) 0),none⟩,⟨some 23,.p (.ext (.tmp 19) 1),none⟩,⟨some 5,.a (.new [.int .i64 (.ofNat 0),.nilslice,.int .i64 (.ofNat 0),.int .i64 (.ofNat 0),.int .i64 (.ofNat 0),.bool false,.int .i64 (.ofNat 0),.int .i64 (.ofNat 0),.nilslice,.nilslice,.nilslice,.nilslice,.int .i64 (.ofNat 0),.nilslice]),none⟩,⟨none,.e (.store 14 (.tmp 5) (.tmp 22)),none⟩,⟨some 6,.p (.mov (.tmp 23)),none⟩])
 (.seq (.region [⟨some 25,.loadn 1 (.tmp 1),none⟩,⟨some 26,.e (.call 22 [(.tmp 25),(.val (.str [97,103,103,32,45,32,99,111,117,110,116,44,109,97,120,40,97,41,32,119,104,101,114,101,32,116,114,117,101]))]),none⟩,⟨some 24,.p (.mov (.tmp 26)),none⟩,⟨some 27,.p (.ext (.tmp 24) 0),none⟩,⟨some 28,.p (.ext (.tmp 24) 1),none⟩,⟨some 7,.a (.new [.int .i64 (.ofNat 0),.nilslice,.int .i64 (.ofNat 0),.int .i64 (.ofNat 0),.int .i64 (.ofNat 0),.bool false,.int .i64 (.ofNat 0),.int .i64 (.ofNat 0),.nilslice,.nilslice,.nilslice,.nilslice,.int .i64 (.ofNat 0),.nilslice]),none⟩,⟨none,.e (.store 14 (.tmp 7) (.tmp 27)),none⟩,⟨some 8,.p (.mov (.tmp 28)),none⟩])
 (.seq (.region [⟨some 30,.loadn 1 (.tmp 1),none⟩,⟨some 31,.e (.call 22 [(.tmp 30),(.val (.str [117,112,100,97,116,101,32,107,101,121,61,53,32,119,104,101,114,101,32,116,114,117,101]))]),none⟩,⟨some 29,.p (.mov (.tmp 31)),none⟩,⟨some 32,.p (.ext (.tmp 29) 0),none⟩,⟨some 33,.p (.ext (.tmp 29) 1),none⟩,⟨some 9,.a (.new [.int .i64 (.ofNat 0),.nilslice,.int .i64 (.ofNat 0),.int .i64 (.ofNat 0),.int .i64 (.ofNat 0),.bool false,.int .i64 (.ofNat 0),.int .i64 (.ofNat 0),.nilslice,.nilslice,.nilslice,.nilslice,.int .i64 (.ofNat 0),.nilslice]),none⟩,⟨none,.e (.store 14 (.tmp 9) (.tmp 32)),none⟩,⟨some 10,.p (.mov (.tmp 33)),none⟩])
 (.seq (.region [⟨some 34,.p (.mov (.tmp 2)),none⟩,⟨some 35,.p (.mov (.tmp 34)),none⟩,⟨some 36,.p (.faddr 0 (.tmp 1)),(some (35,true))⟩,⟨some 37,.load1 (.tmp 36),(some (35,true))⟩,⟨some 38,.p (.lenb (.tmp 37)),(some (35,true))⟩,⟨some 39,.p (.bin .eql (.tmp 38) (.val (.int .i64 (.ofNat 2)))),(some (35,true))⟩,⟨some 40,.p (.pick (.tmp 35) (.tmp 39) (.val (.bool false))),none⟩,⟨some 41,.p (.mov (.tmp 40)),none⟩,⟨some 42,.p (.faddr 0 (.tmp 1)),(some (41,true))⟩,⟨some 43,.load1 (.tmp 42),(some (41,true))⟩,⟨some 44,.p (.iaddr 3 (.tmp 43) (.val (.int .i64 (.ofNat 1)))),(some (41,true))⟩,⟨some 45,.p (.faddr 2 (.tmp 44)),(some (41,true))⟩,⟨some 46,.load1 (.tmp 45),(some (41,true))⟩,⟨some 47,.p (.pick (.tmp 41) (.tmp 46) (.val (.bool false))),none⟩,⟨some 48,.p (.mov (.tmp 47)),none⟩,⟨some 49,.p (.mov (.tmp 4)),(some (48,true))⟩,⟨some 50,.p (.not (.tmp 49)),(some (48,true))⟩,⟨some 51,.p (.pick (.tmp 48) (.tmp 50) (.val (.bool false))),none⟩,⟨some 52,.p (.mov (.tmp 51)),none⟩,⟨some 53,.p (.mov (.tmp 6)),(some (52,true))⟩,⟨some 54,.p (.pick (.tmp 52) (.tmp 53) (.val (.bool false))),none⟩,⟨some 55,.p (.mov (.tmp 54)),none⟩,⟨some 56,.p (.faddr 0 (.tmp 5)),(some (55,true))⟩,⟨some 57,.load1 (.tmp 56),(some (55,true))⟩,⟨some 58,.p (.bin .eql (.tmp 57) (.val (.int .i64 (.ofNat 2)))),(some (55,true))⟩,⟨some 59,.p (.pick (.tmp 55) (.tmp 58) (.val (.bool false))),none⟩,⟨some 60,.p (.mov (.tmp 59)),none⟩,⟨some 61,.p (.faddr 10 (.tmp 5)),(some (60,true))⟩,⟨some 62,.load1 (.tmp 61),(some (60,true))⟩,⟨some 63,.p (.lenb (.tmp 62)),(some (60,true))⟩,⟨some 64,.p (.bin .eql (.tmp 63) (.val (.int .i64 (.ofNat 1)))),(some (60,true))⟩,⟨some 65,.p (.pick (.tmp 60) (.tmp 64) (.val (.bool false))),none⟩,⟨some 66,.p (.mov (.tmp 65)),none⟩,⟨some 67,.p (.mov (.tmp 8)),(some (66,true))⟩,⟨some 68,.p (.pick (.tmp 66) (.tmp 67) (.val (.bool false))),none⟩,⟨some 69,.p (.mov (.tmp 68)),none⟩,⟨some 70,.p (.faddr 12 (.tmp 7)),(some (69,true))⟩,⟨some 71,.load1 (.tmp 70),(some (69,true))⟩,⟨some 72,.p (.bin .eql (.tmp 71) (.val (.int .i64 (.negSucc 0)))),(some (69,true))⟩,⟨some 73,.p (.pick (.tmp 69) (.tmp 72) (.val (.bool false))),none⟩,⟨some 74,.p (.mov (.tmp 73)),none⟩,⟨some 75,.p (.faddr 13 (.tmp 7)),(some (74,true))⟩,⟨some 76,.load1 (.tmp 75),(some (74,true))⟩,⟨some 77,.p (.lenb (.tmp 76)),(some (74,true))⟩,⟨some 78,.p (.bin .eql (.tmp 77) (.val (.int .i64 (.ofNat 2)))),(some (74,true))⟩,⟨some 79,.p (.pick (.tmp 74) (.tmp 78) (.val (.bool false))),none⟩,⟨some 80,.p (.mov (.tmp 79)),none⟩,⟨some 81,.p (.mov (.tmp 10)),(some (80,true))⟩,⟨some 82,.p (.not (.tmp 81)),(some (80,true))⟩,⟨some 83,.p (.pick (.tmp 80) (.tmp 82) (.val (.bool false))),none⟩,⟨some 84,.p (.mov (.tmp 83)),none⟩,⟨some 85,.loadn 1 (.tmp 1),(some (84,true))⟩,⟨some 86,.loadn 14 (.tmp 7),(some (84,true))⟩,⟨some 87,.e (.call 21 [(.tmp 85),(.tmp 86)]),(some (84,true))⟩,⟨some 88,.p (.bin .eql (.tmp 87) (.val (.str [97,103,103,32,45,32,99,111,117,110,116,44,109,97,120,40,97,41,32,119,104,101,114,101,32,116,114,117,101]))),(some (84,true))⟩,⟨some 89,.p (.pick (.tmp 84) (.tmp 88) (.val (.bool false))),none⟩,⟨some 90,.p (.mov (.tmp 89)),none⟩,⟨some 91,.loadn 1 (.tmp 1),(some (90,true))⟩,⟨some 92,.e (.call 25 [(.tmp 91)]),(some (90,true))⟩,⟨some 93,.p (.bin .eql (.tmp 92) (.val (.str [107,101,121,58,105,110,116,44,97,58,98,121,116,101,115,63]))),(some (90,true))⟩,⟨some 94,.p (.pick (.tmp 90) (.tmp 93) (.val (.bool false))),none⟩,⟨some 95,.p (.mov (.tmp 94)),none⟩,⟨some 96,.loadn 1 (.tmp 1),(some (95,true))⟩,⟨some 97,.p (.build [.int .i64 (.ofNat 0),.nilslice,.int .i64 (.ofNat 0),.int .i64 (.ofNat 0),.int .i64 (.ofNat 0),.bool false,.int .i64 (.ofNat 0),.int .i64 (.ofNat 0),.nilslice,.nilslice,.nilslice,.nilslice,.int .i64 (.ofNat 0),.nilslice] []),(some (95,true))⟩,⟨some 98,.e (.call 21 [(.tmp 96),(.tmp 97)]),(some (95,true))⟩,⟨some 99,.p (.bin .eql (.tmp 98) (.val (.str []))),(some (95,true))⟩,⟨some 100,.p (.pick (.tmp 95) (.tmp 99) (.val (.bool false))),none⟩,⟨some 0,.p (.mov (.tmp 100)),none⟩])
 (.ret))))))),[.tmp 0]⟩
theorem v27 : IsFun Tryz.prog 27 m27 := ⟨_, Tryz.func27, by kernel_rfl, by kernel_rfl⟩
def m28 : Fun := Go.Lib.M97 Go.Proofs.YtcpfgjkhjadgoaaGreatDoor.sa.F0
theorem v28 : IsFun Tryz.prog 28 m28 := ⟨_, Tryz.func28, by kernel_rfl, by kernel_rfl⟩
def m32 : Fun := Go.Lib.M214 Go.Proofs.YtcpfgjkhjadgoaaGreatDoor.sa.F0
theorem v32 : IsFun Tryz.prog 32 m32 := ⟨_, Tryz.func32, by kernel_rfl, by kernel_rfl⟩
def m33 : Fun := Go.Lib.M215 Go.Proofs.YtcpfgjkhjadgoaaGreatDoor.sa.F0
theorem v33 : IsFun Tryz.prog 33 m33 := ⟨_, Tryz.func33, by kernel_rfl, by kernel_rfl⟩
def m35 : Fun := Go.Lib.M240 Go.Proofs.YtcpfgjkhjadgoaaGreatDoor.sa.F0
theorem v35 : IsFun Tryz.prog 35 m35 := ⟨_, Tryz.func35, by kernel_rfl, by kernel_rfl⟩
def m38 : Fun := Go.Lib.M220 Go.Proofs.YtcpfgjkhjadgoaaGreatDoor.sa.F0
theorem v38 : IsFun Tryz.prog 38 m38 := ⟨_, Tryz.func38, by kernel_rfl, by kernel_rfl⟩
def m41 : Fun := Go.Lib.M232 Go.Proofs.YtcpfgjkhjadgoaaGreatDoor.sa.F0
theorem v41 : IsFun Tryz.prog 41 m41 := ⟨_, Tryz.func41, by kernel_rfl, by kernel_rfl⟩
def m44 : Fun := Go.Lib.M255 Go.Proofs.YtcpfgjkhjadgoaaGreatDoor.sa.F0
theorem v44 : IsFun Tryz.prog 44 m44 := ⟨_, Tryz.func44, by kernel_rfl, by kernel_rfl⟩
def m45 : Fun := Go.Lib.M256 Go.Proofs.YtcpfgjkhjadgoaaGreatDoor.sa.F0
theorem v45 : IsFun Tryz.prog 45 m45 := ⟨_, Tryz.func45, by kernel_rfl, by kernel_rfl⟩
def m46 : Fun := Go.Lib.M257 Go.Proofs.YtcpfgjkhjadgoaaGreatDoor.sa.F0
theorem v46 : IsFun Tryz.prog 46 m46 := ⟨_, Tryz.func46, by kernel_rfl, by kernel_rfl⟩
def m47 : Fun := Go.Lib.M258 Go.Proofs.YtcpfgjkhjadgoaaGreatDoor.sa.F0
theorem v47 : IsFun Tryz.prog 47 m47 := ⟨_, Tryz.func47, by kernel_rfl, by kernel_rfl⟩
end Go.Proofs.YtcpfgjkhjadgoaaGreatDoor
end

section
set_option maxRecDepth 100000
namespace Go.Proofs.YtcpfgjkhjadgoaaGreatDoor
open Go.Vm
def m48 : Fun := Go.Lib.M259 Go.Proofs.YtcpfgjkhjadgoaaGreatDoor.sa.F0
theorem v48 : IsFun Tryz.prog 48 m48 := ⟨_, Tryz.func48, by kernel_rfl, by kernel_rfl⟩
def m49 : Fun := Go.Lib.M260 Go.Proofs.YtcpfgjkhjadgoaaGreatDoor.sa.F0
theorem v49 : IsFun Tryz.prog 49 m49 := ⟨_, Tryz.func49, by kernel_rfl, by kernel_rfl⟩
def m50 : Fun := Go.Lib.M261 Go.Proofs.YtcpfgjkhjadgoaaGreatDoor.sa.F0
theorem v50 : IsFun Tryz.prog 50 m50 := ⟨_, Tryz.func50, by kernel_rfl, by kernel_rfl⟩
def m52 : Fun := Go.Lib.M262 Go.Proofs.YtcpfgjkhjadgoaaGreatDoor.sa.F0
theorem v52 : IsFun Tryz.prog 52 m52 := ⟨_, Tryz.func52, by kernel_rfl, by kernel_rfl⟩
def m53 : Fun := Go.Lib.M49 Go.Proofs.YtcpfgjkhjadgoaaGreatDoor.sa.F0
theorem v53 : IsFun Tryz.prog 53 m53 := ⟨_, Tryz.func53, by kernel_rfl, by kernel_rfl⟩
def m57 : Fun := Go.Lib.M234 Go.Proofs.YtcpfgjkhjadgoaaGreatDoor.sa.F0
theorem v57 : IsFun Tryz.prog 57 m57 := ⟨_, Tryz.func57, by kernel_rfl, by kernel_rfl⟩
def m58 : Fun := Go.Lib.M263 Go.Proofs.YtcpfgjkhjadgoaaGreatDoor.sa.F0
theorem v58 : IsFun Tryz.prog 58 m58 := ⟨_, Tryz.func58, by kernel_rfl, by kernel_rfl⟩
def m60 : Fun := Go.Lib.M24 Go.Proofs.YtcpfgjkhjadgoaaGreatDoor.sa.F0
theorem v60 : IsFun Tryz.prog 60 m60 := ⟨_, Tryz.func60, by kernel_rfl, by kernel_rfl⟩
def m71 : Fun := Go.Lib.M216 Go.Proofs.YtcpfgjkhjadgoaaGreatDoor.sa.F0
theorem v71 : IsFun Tryz.prog 71 m71 := ⟨_, Tryz.func71, by kernel_rfl, by kernel_rfl⟩
def m72 : Fun := Go.Lib.M217 Go.Proofs.YtcpfgjkhjadgoaaGreatDoor.sa.F0
theorem v72 : IsFun Tryz.prog 72 m72 := ⟨_, Tryz.func72, by kernel_rfl, by kernel_rfl⟩
def m73 : Fun := Go.Lib.M241 Go.Proofs.YtcpfgjkhjadgoaaGreatDoor.sa.F0
theorem v73 : IsFun Tryz.prog 73 m73 := ⟨_, Tryz.func73, by kernel_rfl, by kernel_rfl⟩
def m80 : Fun := Go.Lib.M233 Go.Proofs.YtcpfgjkhjadgoaaGreatDoor.sa.F0
theorem v80 : IsFun Tryz.prog 80 m80 := ⟨_, Tryz.func80, by kernel_rfl, by kernel_rfl⟩
def m81 : Fun := Go.Lib.M235 Go.Proofs.YtcpfgjkhjadgoaaGreatDoor.sa.F0
theorem v81 : IsFun Tryz.prog 81 m81 := ⟨_, Tryz.func81, by kernel_rfl, by kernel_rfl⟩
def m83 : Fun := Go.Lib.M264 Go.Proofs.YtcpfgjkhjadgoaaGreatDoor.sa.F0
theorem v83 : IsFun Tryz.prog 83 m83 := ⟨_, Tryz.func83, by kernel_rfl, by kernel_rfl⟩
def m84 : Fun := Go.Lib.M265 Go.Proofs.YtcpfgjkhjadgoaaGreatDoor.sa.F0
theorem v84 : IsFun Tryz.prog 84 m84 := ⟨_, Tryz.func84, by kernel_rfl, by kernel_rfl⟩
def m85 : Fun := Go.Lib.M266 Go.Proofs.YtcpfgjkhjadgoaaGreatDoor.sa.F0
theorem v85 : IsFun Tryz.prog 85 m85 := ⟨_, Tryz.func85, by kernel_rfl, by kernel_rfl⟩
def m86 : Fun := Go.Lib.M267 Go.Proofs.YtcpfgjkhjadgoaaGreatDoor.sa.F0
theorem v86 : IsFun Tryz.prog 86 m86 := ⟨_, Tryz.func86, by kernel_rfl, by kernel_rfl⟩
def m87 : Fun := Go.Lib.M268 Go.Proofs.YtcpfgjkhjadgoaaGreatDoor.sa.F0
theorem v87 : IsFun Tryz.prog 87 m87 := ⟨_, Tryz.func87, by kernel_rfl, by kernel_rfl⟩
def m88 : Fun := Go.Lib.M269 Go.Proofs.YtcpfgjkhjadgoaaGreatDoor.sa.F0
theorem v88 : IsFun Tryz.prog 88 m88 := ⟨_, Tryz.func88, by kernel_rfl, by kernel_rfl⟩
def m89 : Fun := Go.Lib.M270 Go.Proofs.YtcpfgjkhjadgoaaGreatDoor.sa.F0
theorem v89 : IsFun Tryz.prog 89 m89 := ⟨_, Tryz.func89, by kernel_rfl, by kernel_rfl⟩
def m90 : Fun := Go.Lib.M274 Go.Proofs.YtcpfgjkhjadgoaaGreatDoor.sa.F0
theorem v90 : IsFun Tryz.prog 90 m90 := ⟨_, Tryz.func90, by kernel_rfl, by kernel_rfl⟩
def m91 : Fun := Go.Lib.M271 Go.Proofs.YtcpfgjkhjadgoaaGreatDoor.sa.F0
theorem v91 : IsFun Tryz.prog 91 m91 := ⟨_, Tryz.func91, by kernel_rfl, by kernel_rfl⟩
def m92 : Fun := Go.Lib.M272 Go.Proofs.YtcpfgjkhjadgoaaGreatDoor.sa.F0
theorem v92 : IsFun Tryz.prog 92 m92 := ⟨_, Tryz.func92, by kernel_rfl, by kernel_rfl⟩
def m93 : Fun := Go.Lib.M284 Go.Proofs.YtcpfgjkhjadgoaaGreatDoor.sa.F0
theorem v93 : IsFun Tryz.prog 93 m93 := ⟨_, Tryz.func93, by kernel_rfl, by kernel_rfl⟩
def m94 : Fun := Go.Lib.M273 Go.Proofs.YtcpfgjkhjadgoaaGreatDoor.sa.F0
theorem v94 : IsFun Tryz.prog 94 m94 := ⟨_, Tryz.func94, by kernel_rfl, by kernel_rfl⟩
def m95 : Fun := Go.Lib.M275 Go.Proofs.YtcpfgjkhjadgoaaGreatDoor.sa.F0
theorem v95 : IsFun Tryz.prog 95 m95 := ⟨_, Tryz.func95, by kernel_rfl, by kernel_rfl⟩
def m96 : Fun := Go.Lib.M276 Go.Proofs.YtcpfgjkhjadgoaaGreatDoor.sa.F0
theorem v96 : IsFun Tryz.prog 96 m96 := ⟨_, Tryz.func96, by kernel_rfl, by kernel_rfl⟩
def m98 : Fun := Go.Lib.M277 Go.Proofs.YtcpfgjkhjadgoaaGreatDoor.sa.F0
theorem v98 : IsFun Tryz.prog 98 m98 := ⟨_, Tryz.func98, by kernel_rfl, by kernel_rfl⟩
def m106 : Fun := Go.Lib.M218 Go.Proofs.YtcpfgjkhjadgoaaGreatDoor.sa.F0
theorem v106 : IsFun Tryz.prog 106 m106 := ⟨_, Tryz.func106, by kernel_rfl, by kernel_rfl⟩
def m118 : Fun := Go.Lib.M236 Go.Proofs.YtcpfgjkhjadgoaaGreatDoor.sa.F0
theorem v118 : IsFun Tryz.prog 118 m118 := ⟨_, Tryz.func118, by kernel_rfl, by kernel_rfl⟩
def m119 : Fun := Go.Lib.M239 Go.Proofs.YtcpfgjkhjadgoaaGreatDoor.sa.F0
theorem v119 : IsFun Tryz.prog 119 m119 := ⟨_, Tryz.func119, by kernel_rfl, by kernel_rfl⟩
def m120 : Fun := Go.Lib.M278 Go.Proofs.YtcpfgjkhjadgoaaGreatDoor.sa.F0
theorem v120 : IsFun Tryz.prog 120 m120 := ⟨_, Tryz.func120, by kernel_rfl, by kernel_rfl⟩
def m121 : Fun := Go.Lib.M279 Go.Proofs.YtcpfgjkhjadgoaaGreatDoor.sa.F0
theorem v121 : IsFun Tryz.prog 121 m121 := ⟨_, Tryz.func121, by kernel_rfl, by kernel_rfl⟩
def m122 : Fun := Go.Lib.M281 Go.Proofs.YtcpfgjkhjadgoaaGreatDoor.sa.F0
theorem v122 : IsFun Tryz.prog 122 m122 := ⟨_, Tryz.func122, by kernel_rfl, by kernel_rfl⟩
def m123 : Fun := Go.Lib.M280 Go.Proofs.YtcpfgjkhjadgoaaGreatDoor.sa.F0
theorem v123 : IsFun Tryz.prog 123 m123 := ⟨_, Tryz.func123, by kernel_rfl, by kernel_rfl⟩
def m124 : Fun := Go.Lib.M282 Go.Proofs.YtcpfgjkhjadgoaaGreatDoor.sa.F0
theorem v124 : IsFun Tryz.prog 124 m124 := ⟨_, Tryz.func124, by kernel_rfl, by kernel_rfl⟩
def m125 : Fun := Go.Lib.M283 Go.Proofs.YtcpfgjkhjadgoaaGreatDoor.sa.F0
theorem v125 : IsFun Tryz.prog 125 m125 := ⟨_, Tryz.func125, by kernel_rfl, by kernel_rfl⟩
def m126 : Fun := Go.Lib.M285 Go.Proofs.YtcpfgjkhjadgoaaGreatDoor.sa.F0
theorem v126 : IsFun Tryz.prog 126 m126 := ⟨_, Tryz.func126, by kernel_rfl, by kernel_rfl⟩
def m130 : Fun := Go.Lib.M287 Go.Proofs.YtcpfgjkhjadgoaaGreatDoor.sa.F0
theorem v130 : IsFun Tryz.prog 130 m130 := ⟨_, Tryz.func130, by kernel_rfl, by kernel_rfl⟩
def m131 : Fun := Go.Lib.M286 Go.Proofs.YtcpfgjkhjadgoaaGreatDoor.sa.F0
theorem v131 : IsFun Tryz.prog 131 m131 := ⟨_, Tryz.func131, by kernel_rfl, by kernel_rfl⟩
def m132 : Fun := Go.Lib.M289 Go.Proofs.YtcpfgjkhjadgoaaGreatDoor.sa.F0
theorem v132 : IsFun Tryz.prog 132 m132 := ⟨_, Tryz.func132, by kernel_rfl, by kernel_rfl⟩
def m133 : Fun := Go.Lib.M288 Go.Proofs.YtcpfgjkhjadgoaaGreatDoor.sa.F0
theorem v133 : IsFun Tryz.prog 133 m133 := ⟨_, Tryz.func133, by kernel_rfl, by kernel_rfl⟩
def m134 : Fun := Go.Lib.M296 Go.Proofs.YtcpfgjkhjadgoaaGreatDoor.sa.F0
theorem v134 : IsFun Tryz.prog 134 m134 := ⟨_, Tryz.func134, by kernel_rfl, by kernel_rfl⟩
def m135 : Fun := Go.Lib.M291 Go.Proofs.YtcpfgjkhjadgoaaGreatDoor.sa.F0
theorem v135 : IsFun Tryz.prog 135 m135 := ⟨_, Tryz.func135, by kernel_rfl, by kernel_rfl⟩
def m136 : Fun := Go.Lib.M290 Go.Proofs.YtcpfgjkhjadgoaaGreatDoor.sa.F0
theorem v136 : IsFun Tryz.prog 136 m136 := ⟨_, Tryz.func136, by kernel_rfl, by kernel_rfl⟩
def m137 : Fun := Go.Lib.M293 Go.Proofs.YtcpfgjkhjadgoaaGreatDoor.sa.F0
theorem v137 : IsFun Tryz.prog 137 m137 := ⟨_, Tryz.func137, by kernel_rfl, by kernel_rfl⟩
def m138 : Fun := Go.Lib.M292 Go.Proofs.YtcpfgjkhjadgoaaGreatDoor.sa.F0
theorem v138 : IsFun Tryz.prog 138 m138 := ⟨_, Tryz.func138, by kernel_rfl, by kernel_rfl⟩
def m139 : Fun := Go.Lib.M297 Go.Proofs.YtcpfgjkhjadgoaaGreatDoor.sa.F0
theorem v139 : IsFun Tryz.prog 139 m139 := ⟨_, Tryz.func139, by kernel_rfl, by kernel_rfl⟩
def m145 : Fun := Go.Lib.M219 Go.Proofs.YtcpfgjkhjadgoaaGreatDoor.sa.F0
theorem v145 : IsFun Tryz.prog 145 m145 := ⟨_, Tryz.func145, by kernel_rfl, by kernel_rfl⟩
def m146 : Fun := Go.Lib.M221 Go.Proofs.YtcpfgjkhjadgoaaGreatDoor.sa.F0
theorem v146 : IsFun Tryz.prog 146 m146 := ⟨_, Tryz.func146, by kernel_rfl, by kernel_rfl⟩
def m158 : Fun := Go.Lib.M238 Go.Proofs.YtcpfgjkhjadgoaaGreatDoor.sa.F0
theorem v158 : IsFun Tryz.prog 158 m158 := ⟨_, Tryz.func158, by kernel_rfl, by kernel_rfl⟩
def m159 : Fun := Go.Lib.M294 Go.Proofs.YtcpfgjkhjadgoaaGreatDoor.sa.F0
theorem v159 : IsFun Tryz.prog 159 m159 := ⟨_, Tryz.func159, by kernel_rfl, by kernel_rfl⟩
def m160 : Fun := Go.Lib.M295 Go.Proofs.YtcpfgjkhjadgoaaGreatDoor.sa.F0
theorem v160 : IsFun Tryz.prog 160 m160 := ⟨_, Tryz.func160, by kernel_rfl, by kernel_rfl⟩
def m168 : Fun := Go.Lib.M6 Go.Proofs.YtcpfgjkhjadgoaaGreatDoor.sa.F0
theorem v168 : IsFun Tryz.prog 168 m168 := ⟨_, Tryz.func168, by kernel_rfl, by kernel_rfl⟩
def m172 : Fun := Go.Lib.M298 Go.Proofs.YtcpfgjkhjadgoaaGreatDoor.sa.F0
theorem v172 : IsFun Tryz.prog 172 m172 := ⟨_, Tryz.func172, by kernel_rfl, by kernel_rfl⟩
def m175 : Fun := Go.Lib.M15 Go.Proofs.YtcpfgjkhjadgoaaGreatDoor.sa.F0
theorem v175 : IsFun Tryz.prog 175 m175 := ⟨_, Tryz.func175, by kernel_rfl, by kernel_rfl⟩
end Go.Proofs.YtcpfgjkhjadgoaaGreatDoor
end

section
set_option maxRecDepth 100000
namespace Go.Proofs.YtcpfgjkhjadgoaaGreatDoor
open Go.Vm
def funs : T Fun := (.node (.node (.node (.node (.node (.node .leaf none (.node (.node .leaf (some m159) .leaf) (some m95) .leaf)) (some m15) (.node .leaf (some m47) (.node (.node .leaf (some m175) .leaf) none .leaf))) (some m7) (.node (.node (.node (.node .leaf (some m135) .leaf) (some m71) .leaf) none .leaf) (some m23) (.node (.node .leaf (some m87) .leaf) none (.node .leaf (some m119) .leaf)))) none (.node (.node (.node (.node (.node .leaf (some m131) .leaf) none .leaf) (some m35) .leaf) none (.node (.node .leaf (some m83) .leaf) none .leaf)) (some m11) (.node (.node (.node (.node .leaf (some m139) .leaf) none .leaf) none .leaf) (some m27) (.node (.node .leaf (some m91) .leaf) none (.node .leaf (some m123) .leaf))))) none (.node (.node (.node (.node .leaf (some m33) .leaf) (some m17) (.node (.node (.node .leaf (some m145) .leaf) (some m81) .leaf) (some m49) .leaf)) (some m9) (.node (.node (.node (.node .leaf (some m137) .leaf) (some m73) .leaf) (some m41) .leaf) (some m25) (.node (.node .leaf (some m89) .leaf) (some m57) (.node .leaf (some m121) .leaf)))) none (.node (.node (.node (.node (.node .leaf (some m133) .leaf) none .leaf) none .leaf) (some m21) (.node (.node .leaf (some m85) .leaf) (some m53) .leaf)) none (.node (.node .leaf (some m45) .leaf) none (.node (.node .leaf (some m93) .leaf) none (.node .leaf (some m125) .leaf)))))) none (.node (.node (.node (.node (.node .leaf (some m32) (.node (.node .leaf (some m160) .leaf) (some m96) .leaf)) none (.node (.node .leaf (some m80) .leaf) (some m48) .leaf)) (some m8) (.node (.node (.node (.node .leaf (some m136) .leaf) (some m72) .leaf) none (.node (.node .leaf (some m168) .leaf) none .leaf)) (some m24) (.node (.node .leaf (some m88) .leaf) none (.node .leaf (some m120) .leaf)))) (some m4) (.node (.node (.node (.node (.node .leaf (some m132) .leaf) none .leaf) none .leaf) (some m20) (.node (.node .leaf (some m84) .leaf) (some m52) .leaf)) (some m12) (.node (.node .leaf (some m44) (.node (.node .leaf (some m172) .leaf) none .leaf)) (some m28) (.node (.node .leaf (some m92) .leaf) (some m60) (.node .leaf (some m124) .leaf))))) none (.node (.node (.node (.node (.node (.node .leaf (some m130) .leaf) none .leaf) none (.node .leaf (some m98) .leaf)) (some m18) (.node (.node (.node .leaf (some m146) .leaf) none .leaf) (some m50) .leaf)) none (.node (.node (.node (.node .leaf (some m138) .leaf) none .leaf) none (.node .leaf (some m106) .leaf)) (some m26) (.node (.node .leaf (some m90) .leaf) (some m58) (.node .leaf (some m122) .leaf)))) none (.node (.node (.node (.node (.node .leaf (some m134) .leaf) none .leaf) (some m38) .leaf) (some m22) (.node (.node .leaf (some m86) .leaf) none (.node .leaf (some m118) .leaf))) (some m14) (.node (.node .leaf (some m46) .leaf) none (.node (.node (.node .leaf (some m158) .leaf) (some m94) .leaf) none (.node .leaf (some m126) .leaf)))))))
def ints : List Nat := [2,3,5,6,12,21,39,116,135,181,211,212,214,215]
theorem intsOk : IntsOk Tryz.prog ints := ints_of (by kernel_rfl)
def mach (tab : Tab) : Vm.Prog := { funs := funs, env := ⟨tab, ints⟩ }
theorem valid (tab : Tab) : Valid Tryz.prog (mach tab) := valid_of (show AllT (IsFun Tryz.prog) 1 0 funs from ⟨trivial, ⟨trivial, ⟨trivial, ⟨v7, ⟨v15, ⟨trivial, trivial, ⟨v95, ⟨v159, trivial, trivial⟩, trivial⟩⟩, ⟨v47, trivial, ⟨trivial, ⟨v175, trivial, trivial⟩, trivial⟩⟩⟩, ⟨v23, ⟨trivial, ⟨v71, ⟨v135, trivial, trivial⟩, trivial⟩, trivial⟩, ⟨trivial, ⟨v87, trivial, trivial⟩, ⟨v119, trivial, trivial⟩⟩⟩⟩, ⟨v11, ⟨trivial, ⟨v35, ⟨trivial, ⟨v131, trivial, trivial⟩, trivial⟩, trivial⟩, ⟨trivial, ⟨v83, trivial, trivial⟩, trivial⟩⟩, ⟨v27, ⟨trivial, ⟨trivial, ⟨v139, trivial, trivial⟩, trivial⟩, trivial⟩, ⟨trivial, ⟨v91, trivial, trivial⟩, ⟨v123, trivial, trivial⟩⟩⟩⟩⟩, ⟨trivial, ⟨v9, ⟨v17, ⟨v33, trivial, trivial⟩, ⟨v49, ⟨v81, ⟨v145, trivial, trivial⟩, trivial⟩, trivial⟩⟩, ⟨v25, ⟨v41, ⟨v73, ⟨v137, trivial, trivial⟩, trivial⟩, trivial⟩, ⟨v57, ⟨v89, trivial, trivial⟩, ⟨v121, trivial, trivial⟩⟩⟩⟩, ⟨trivial, ⟨v21, ⟨trivial, ⟨trivial, ⟨v133, trivial, trivial⟩, trivial⟩, trivial⟩, ⟨v53, ⟨v85, trivial, trivial⟩, trivial⟩⟩, ⟨trivial, ⟨v45, trivial, trivial⟩, ⟨trivial, ⟨v93, trivial, trivial⟩, ⟨v125, trivial, trivial⟩⟩⟩⟩⟩⟩, ⟨trivial, ⟨v4, ⟨v8, ⟨trivial, ⟨v32, trivial, ⟨v96, ⟨v160, trivial, trivial⟩, trivial⟩⟩, ⟨v48, ⟨v80, trivial, trivial⟩, trivial⟩⟩, ⟨v24, ⟨trivial, ⟨v72, ⟨v136, trivial, trivial⟩, trivial⟩, ⟨trivial, ⟨v168, trivial, trivial⟩, trivial⟩⟩, ⟨trivial, ⟨v88, trivial, trivial⟩, ⟨v120, trivial, trivial⟩⟩⟩⟩, ⟨v12, ⟨v20, ⟨trivial, ⟨trivial, ⟨v132, trivial, trivial⟩, trivial⟩, trivial⟩, ⟨v52, ⟨v84, trivial, trivial⟩, trivial⟩⟩, ⟨v28, ⟨v44, trivial, ⟨trivial, ⟨v172, trivial, trivial⟩, trivial⟩⟩, ⟨v60, ⟨v92, trivial, trivial⟩, ⟨v124, trivial, trivial⟩⟩⟩⟩⟩, ⟨trivial, ⟨trivial, ⟨v18, ⟨trivial, ⟨trivial, ⟨v130, trivial, trivial⟩, trivial⟩, ⟨v98, trivial, trivial⟩⟩, ⟨v50, ⟨trivial, ⟨v146, trivial, trivial⟩, trivial⟩, trivial⟩⟩, ⟨v26, ⟨trivial, ⟨trivial, ⟨v138, trivial, trivial⟩, trivial⟩, ⟨v106, trivial, trivial⟩⟩, ⟨v58, ⟨v90, trivial, trivial⟩, ⟨v122, trivial, trivial⟩⟩⟩⟩, ⟨v14, ⟨v22, ⟨v38, ⟨trivial, ⟨v134, trivial, trivial⟩, trivial⟩, trivial⟩, ⟨trivial, ⟨v86, trivial, trivial⟩, ⟨v118, trivial, trivial⟩⟩⟩, ⟨trivial, ⟨v46, trivial, trivial⟩, ⟨trivial, ⟨v94, ⟨v158, trivial, trivial⟩, trivial⟩, ⟨v126, trivial, trivial⟩⟩⟩⟩⟩⟩⟩)
end Go.Proofs.YtcpfgjkhjadgoaaGreatDoor
end

section
set_option maxRecDepth 100000
namespace Go.Proofs.YtcpfgjkhjadgoaaGreatDoor
open Go.Vm
def exts : List (Nat × Ek) := []
theorem extsOk : ∀ x, x ∈ exts → IsExt Tryz.prog x := by
 intro x hx;unfold exts at hx;cases hx
end Go.Proofs.YtcpfgjkhjadgoaaGreatDoor
end

section
set_option maxRecDepth 100000
namespace Go.Proofs.YtcpfgjkhjadgoaaGreatDoor
open Go.RowKit Go.Shelf Go.Vm Go.Lib
def ren : Go.Shelf.Ren := ⟨fun x => match x with | 101 => 36 | 102 => 162 | 104 => 56 | 129 => 154 | 137 => 74 | 138 => 141 | 143 => 51 | 145 => 55 | 146 => 54 | 156 => 59 | 165 => 102 | 166 => 103 | 169 => 104 | 171 => 152 | 173 => 40 | 174 => 37 | 195 => 163 | 197 => 164 | 205 => 151 | 206 => 108 | 207 => 142 | 208 => 75 | 209 => 173 | 211 => 101 | 217 => 107 | 218 => 165 | 219 => 97 | 220 => 100 | 221 => 99 | 224 => 128 | 225 => 127 | 240 => 143 | 241 => 144 | 243 => 169 | 245 => 77 | 246 => 79 | 247 => 76 | 260 => 174 | 266 => 147 | 267 => 129 | 268 => 140 | 276 => 166 | 277 => 167 | 279 => 110 | 280 => 111 | 281 => 112 | 282 => 113 | 283 => 114 | 284 => 115 | 285 => 116 | 286 => 117 | 287 => 109 | 314 => 161 | 316 => 150 | 317 => 153 | 318 => 155 | 319 => 156 | 320 => 157 | 321 => 148 | 322 => 149 | 337 => 170 | 338 => 171 | n => n, fun x => match x with | 0 => 0 | 2 => 2 | 3 => 3 | 4 => 4 | 5 => 5 | 9 => 9 | 20 => 20 | 21 => 21 | 24 => 99 | 31 => 44 | 37 => 23 | 46 => 39 | 51 => 181 | 53 => 116 | 59 => 97 | 70 => 127 | 72 => 129 | 75 => 74 | 76 => 131 | 80 => 133 | 85 => 75 | 105 => 188 | 119 => 201 | 127 => 174 | 138 => 203 | 139 => 204 | 143 => 193 | 145 => 195 | 146 => 185 | 164 => 190 | 167 => 135 | 168 => 138 | 171 => 142 | 173 => 145 | 175 => 136 | 210 => 177 | 212 => 180 | 213 => 182 | 232 => 199 | 233 => 200 | n => n, fun x => match x with | 1 => 0 | 3 => 6 | 4 => 7 | 15 => 1 | 16 => 2 | 17 => 3 | 18 => 4 | 19 => 5 | n => n⟩
theorem L145 : Lays.n145 Tryz.prog ren := by constructor <;> first | kernel_rfl | (intro w; kernel_rfl) | decide | (constructor <;> first | kernel_rfl | (intro w; kernel_rfl) | decide | (constructor <;> first | kernel_rfl | (intro w; kernel_rfl) | decide | (constructor <;> first | kernel_rfl | (intro w; kernel_rfl) | decide)))
theorem L143 : Lays.n143 Tryz.prog ren := by constructor <;> first | kernel_rfl | (intro w; kernel_rfl) | decide | (constructor <;> first | kernel_rfl | (intro w; kernel_rfl) | decide | (constructor <;> first | kernel_rfl | (intro w; kernel_rfl) | decide | (constructor <;> first | kernel_rfl | (intro w; kernel_rfl) | decide)))
theorem L146 : Lays.n146 Tryz.prog ren := by constructor <;> first | kernel_rfl | (intro w; kernel_rfl) | decide | (constructor <;> first | kernel_rfl | (intro w; kernel_rfl) | decide | (constructor <;> first | kernel_rfl | (intro w; kernel_rfl) | decide | (constructor <;> first | kernel_rfl | (intro w; kernel_rfl) | decide)))
theorem L104 : Lays.n104 Tryz.prog ren := by constructor <;> first | kernel_rfl | (intro w; kernel_rfl) | decide | (constructor <;> first | kernel_rfl | (intro w; kernel_rfl) | decide | (constructor <;> first | kernel_rfl | (intro w; kernel_rfl) | decide | (constructor <;> first | kernel_rfl | (intro w; kernel_rfl) | decide)))
theorem L101 : Lays.n101 Tryz.prog ren := by constructor <;> first | kernel_rfl | (intro w; kernel_rfl) | decide | (constructor <;> first | kernel_rfl | (intro w; kernel_rfl) | decide | (constructor <;> first | kernel_rfl | (intro w; kernel_rfl) | decide | (constructor <;> first | kernel_rfl | (intro w; kernel_rfl) | decide)))
theorem L102 : Lays.n102 Tryz.prog ren := by constructor <;> first | kernel_rfl | (intro w; kernel_rfl) | decide | (constructor <;> first | kernel_rfl | (intro w; kernel_rfl) | decide | (constructor <;> first | kernel_rfl | (intro w; kernel_rfl) | decide | (constructor <;> first | kernel_rfl | (intro w; kernel_rfl) | decide)))
theorem L137 : Lays.n137 Tryz.prog ren := by constructor <;> first | kernel_rfl | (intro w; kernel_rfl) | decide | (constructor <;> first | kernel_rfl | (intro w; kernel_rfl) | decide | (constructor <;> first | kernel_rfl | (intro w; kernel_rfl) | decide | (constructor <;> first | kernel_rfl | (intro w; kernel_rfl) | decide)))
theorem L156 : Lays.n156 Tryz.prog ren := by constructor <;> first | kernel_rfl | (intro w; kernel_rfl) | decide | (constructor <;> first | kernel_rfl | (intro w; kernel_rfl) | decide | (constructor <;> first | kernel_rfl | (intro w; kernel_rfl) | decide | (constructor <;> first | kernel_rfl | (intro w; kernel_rfl) | decide)))
theorem X156 : Builder.Extra Tryz.prog ren := by constructor <;> first | kernel_rfl | (intro w; kernel_rfl) | decide | (constructor <;> first | kernel_rfl | (intro w; kernel_rfl) | decide | (constructor <;> first | kernel_rfl | (intro w; kernel_rfl) | decide | (constructor <;> first | kernel_rfl | (intro w; kernel_rfl) | decide)))
theorem L171 : LaysM.n171 Tryz.prog ren := by constructor <;> first | kernel_rfl | (intro w; kernel_rfl) | decide | (constructor <;> first | kernel_rfl | (intro w; kernel_rfl) | decide | (constructor <;> first | kernel_rfl | (intro w; kernel_rfl) | decide | (constructor <;> first | kernel_rfl | (intro w; kernel_rfl) | decide)))
theorem L173 : LaysM.n173 Tryz.prog ren := by constructor <;> first | kernel_rfl | (intro w; kernel_rfl) | decide | (constructor <;> first | kernel_rfl | (intro w; kernel_rfl) | decide | (constructor <;> first | kernel_rfl | (intro w; kernel_rfl) | decide | (constructor <;> first | kernel_rfl | (intro w; kernel_rfl) | decide)))
theorem L174 : LaysC.n174 Tryz.prog ren := by constructor <;> first | kernel_rfl | (intro w; kernel_rfl) | decide | (constructor <;> first | kernel_rfl | (intro w; kernel_rfl) | decide | (constructor <;> first | kernel_rfl | (intro w; kernel_rfl) | decide | (constructor <;> first | kernel_rfl | (intro w; kernel_rfl) | decide)))
def sg : SG := ⟨0, 1, 2, 3, 138⟩
theorem sg_ok : sg.ok Tryz.prog := ⟨of_decide_eq_true (by kernel_rfl), of_decide_eq_true (by kernel_rfl), of_decide_eq_true (by kernel_rfl), of_decide_eq_true (by kernel_rfl)⟩
theorem tab_is (w : World) (h : PowIs w sg.pow) : Lib.TabIs Tryz.prog w "internal/strconv.uint64pow10" .u64 Lib.pow10Tab := by
 obtain ⟨e, fz, h⟩ := h;have hg : Tryz.prog.globalNamed "internal/strconv.uint64pow10" = some sg.pow := (by kernel_rfl);simp only [Lib.TabIs, World.var?, hg, h, Option.bind_some]
theorem is_cut : IsStr Tryz.prog sg (55, .cut) := ⟨by kernel_rfl, fun s sep m w h1 h2 => Any.strings_Cut L145 s sep m w h1 h2⟩
theorem is_idx : IsStr Tryz.prog sg (51, .idx) := ⟨by kernel_rfl, fun s sep m w h1 h2 => Any.strings_Index L143 s sep m w h1 h2⟩
theorem is_split : IsStr Tryz.prog sg (54, .split) := ⟨by kernel_rfl, ⟨_, fun s sep m w h1 h2 h3 => Any.strings_Split L146 (by kernel_rfl) s sep m w h1 h2 h3⟩⟩
theorem is_cutS : IsStr Tryz.prog sg (56, .cutS) := ⟨by kernel_rfl, fun s p w h => Any.strings_CutSuffix L104 s p w h⟩
theorem is_trimP : IsStr Tryz.prog sg (36, .trimP) := ⟨by kernel_rfl, fun s p w => Any.strings_TrimPrefix L101 s p w⟩
theorem is_trimS : IsStr Tryz.prog sg (162, .trimS) := ⟨by kernel_rfl, fun s p w h => Any.strings_TrimSuffix L102 s p w h⟩
theorem is_idxB : IsStr Tryz.prog sg (74, .idxB) := ⟨by kernel_rfl, fun s c w => Any.strings_IndexByte L137 s c w⟩
theorem is_join : IsStr Tryz.prog sg (59, .join) := ⟨by kernel_rfl, ⟨fun a c sep w => Any.strings_Join_none L156 X156 a c sep w, fun bk o c xs sep w h1 h2 h3 h4 h5 => Any.strings_Join L156 X156 bk o c xs sep w h1 h2 h3 h4 h5⟩⟩
theorem is_itoa : IsStr Tryz.prog sg (152, .itoa) := ⟨by kernel_rfl, fun n w h0 h1 h2 => Any.strconv_Itoa L171 n h0 h1 w (tab_is w h2)⟩
theorem is_fmt : IsStr Tryz.prog sg (40, .fmt) := ⟨by kernel_rfl, fun n w h0 h1 h2 => Any.strconv_FormatInt_10 L173 n h0 h1 w (tab_is w h2)⟩
theorem is_parse : IsStr Tryz.prog sg (37, .parse) := ⟨by kernel_rfl, ⟨fun s v w h1 h2 => (Any.strconv_ParseInt_10_at64_ok L174 s (by omega) v h2 w).mono fun e w' ⟨he, hb⟩ => ⟨he, by rcases hb with rfl | ⟨t, rfl⟩ <;> first | exact Below.refl _ _ | exact Lib.bytesWorld_below _ _ _⟩,
  fun s te pe w h1 h2 h3 => (Any.strconv_ParseInt_10_at64_syntax L174 s h1 (by revert h2; cases Lib.parseIntB 64 s.data.toList <;> intro h2 <;> first | rfl | cases h2) _ w h3 (Or.inr ⟨_, _, rfl⟩)).mono fun e w' ⟨N, he, h4, _, h5⟩ => ⟨N, he, h4, h5⟩,
  fun s te pe w h1 h2 h3 => (Any.strconv_ParseInt_10_at64_range L174 s h1 h2 _ w h3 (Or.inr ⟨_, _, rfl⟩)).mono fun e w' ⟨N, he, h4, _, h5⟩ => ⟨N, he, h4, h5⟩⟩⟩
def strs : List (Nat × Sk) := [(55, .cut), (51, .idx), (54, .split), (56, .cutS), (36, .trimP), (162, .trimS), (74, .idxB), (59, .join), (152, .itoa), (40, .fmt), (37, .parse)]
theorem strs_ok : ∀ x, x ∈ strs → IsStr Tryz.prog sg x := by
 intro x hx;simp only [strs, List.mem_cons, List.not_mem_nil, or_false] at hx;rcases hx with rfl | rfl | rfl | rfl | rfl | rfl | rfl | rfl | rfl | rfl | rfl
 ·exact is_cut
 ·exact is_idx
 ·exact is_split
 ·exact is_cutS
 ·exact is_trimP
 ·exact is_trimS
 ·exact is_idxB
 ·exact is_join
 ·exact is_itoa
 ·exact is_fmt
 ·exact is_parse
end Go.Proofs.YtcpfgjkhjadgoaaGreatDoor
end

section
set_option maxRecDepth 100000
namespace Go.Proofs.YtcpfgjkhjadgoaaGreatDoor.progBack
open Go.RowKit Go.Vm Go.ChangeShapes
def laidL : List (String × DataW Unit) := [("math/bits.deBruijn32tab", Rows.laid_math_bits_deBruijn32tab), ("math/bits.deBruijn64tab", Rows.laid_math_bits_deBruijn64tab), ("internal/strconv.uint64pow10", Rows.laid_internal_strconv_uint64pow10), ("unicode/utf8.acceptRanges", Rows.laid_unicode_utf8_acceptRanges), ("strconv.ErrRange", Rows.laid_strconv_ErrRange), ("strconv.ErrSyntax", Rows.laid_strconv_ErrSyntax), ("unicode/utf8.first", Rows.laid_unicode_utf8_first)]
def tbl (m : Int) : List (Nat × Blk) := [(3, .whole (powL 20 1)), (1, .cells [.iface 193 (.ptr 8 0)] true), (2, .cells [.iface 193 (.ptr 9 0)] true), (0, .cells [.int .i64 m] true)]
theorem star : "*" ++ "errors.errorString" = "*errors.errorString" := by decide
theorem rowE (u : TypeId) (h : Tryz.prog.typeName? 3 u = some "*errors.errorString") : u = 193 :=
 typeName_ptr_named (nm := "errors.errorString") (by rw [star]; kernel_rfl) (by kernel_rfl) (by decide) u (by rw [star]; exact h)
theorem laid_w {W : World} (hL : laidMetH Tryz.prog laidL W) (hS : W.ShapedOpen Tryz.prog) : ∃ m pls, pls.length = 2 ∧ ∀ σ, LaidW Tryz.prog (laidE Tryz.prog (tbl m) pls σ) W (tbl m) := by
 have h : laidMet Tryz.prog laidL W := (laidMetH_iff.1 hL).1;obtain ⟨a0, s0, hv0, hc0, -, -⟩ := laid_sentinel (n := "strconv.ErrSyntax") h.tail.tail.tail.tail.tail (g := 1) (ti := 74) (tp := 193) (te := 195) (ts := 9) (by kernel_rfl) (by kernel_rfl) Tryz.underlying74 rowE Tryz.underlying193 Tryz.underlying195 rfl rfl Tryz.underlying9 (by kernel_rfl) (by kernel_rfl);obtain ⟨a1, s1, hv1, hc1, -, -⟩ := laid_sentinel (n := "strconv.ErrRange") h.tail.tail.tail.tail (g := 2) (ti := 74) (tp := 193) (te := 195) (ts := 9) (by kernel_rfl) (by kernel_rfl) Tryz.underlying74 rowE Tryz.underlying193 Tryz.underlying195 rfl rfl Tryz.underlying9 (by kernel_rfl) (by kernel_rfl)
 obtain ⟨m, hm⟩ : ∃ m, W.cell? ⟨0, 0, none⟩ = some (.int .i64 m) := cell_of_shapedOpen_int (zero := #[.int .i64 0]) (t := 3) hS (of_decide_eq_true (by kernel_rfl)) (by kernel_rfl) rfl (by kernel_rfl) (by kernel_rfl) Tryz.underlying3;have ht := Lib.tabIs_of_head (name := "internal/strconv.uint64pow10") (k := .u64) (zs := Lib.pow10Tab) (P := Tryz.prog) (W := W) (g := 3) (t := 180) (e := 116) (n := 20) (by kernel_rfl) (by kernel_rfl) (by show Program.underlying _ _ = _; kernel_rfl) (by show Program.underlying _ _ = _; kernel_rfl) (by kernel_rfl) (by kernel_rfl) h.tail.tail;obtain ⟨e, fz, hh⟩ := var_heap (g := 3) (by kernel_rfl) ht
 refine ⟨m, [⟨a0.block, a0.off, 0⟩, ⟨a1.block, a1.off, 0⟩], rfl, fun σ g x hx => ?_⟩;simp only [tbl, tblAt, nbeq_d] at hx
 by_cases h1 : 3 = g
 ·subst h1;simp at hx;subst hx;exact ⟨of_decide_eq_true (by kernel_rfl), rfl, _, e, fz, hh, by simpa using powL_vr⟩
 ·rw [show decide (3 = g) = false from decide_eq_false h1] at hx
  by_cases h2 : 1 = g
  ·subst h2;simp at hx;subst hx;exact ⟨of_decide_eq_true (by kernel_rfl), rfl, laid_err (by kernel_rfl) hv0 hc0 rfl⟩
  ·rw [show decide (1 = g) = false from decide_eq_false h2] at hx
   by_cases h3 : 2 = g
   ·subst h3;simp at hx;subst hx;exact ⟨of_decide_eq_true (by kernel_rfl), rfl, laid_err (by kernel_rfl) hv1 hc1 rfl⟩
   ·rw [show decide (2 = g) = false from decide_eq_false h3] at hx
    by_cases h4 : 0 = g
    ·subst h4;simp at hx;subst hx;exact ⟨of_decide_eq_true (by kernel_rfl), rfl, laid_int hm⟩
    ·rw [show decide (0 = g) = false from decide_eq_false h4] at hx;simp at hx
theorem door_met (os : Os) (args : Array Value) : laidMetH Tryz.prog laidL ((World.laidAll Tryz.prog os laidL).forCall (fun _ _ => 0) ⟨#[], args, []⟩).memory := by
 rw [MakeChecks.laidMetH_plain _ _ _ (by kernel_rfl)];exact laidMet_laidAll _ (by kernel_rfl) (by kernel_rfl)
end Go.Proofs.YtcpfgjkhjadgoaaGreatDoor.progBack
end

section
set_option maxRecDepth 100000
namespace Go.Proofs.YtcpfgjkhjadgoaaGreatDoor.sa
open Go.Vm Go.Dv Go.Lib
def gl0 : Nat → Option (Blk → Prop) := fun c => if c = sg.pow then some (fun y => powCells y = true) else if c = sg.syn then some (fun y => errCellT 193 y = true) else if c = sg.rng then some (fun y => errCellT 193 y = true) else if c = sg.max then some (fun y => intCell y = true) else none
def pr : Vm.Prog := { mach [] with gl := gl0 }
theorem pow0 : PowGl pr sg := by show gl0 sg.pow = _; unfold gl0; rw [if_pos rfl]
theorem syn0 : pr.gl sg.syn = some (fun y => errCellT 193 y = true) := by show gl0 sg.syn = _; unfold gl0; rw [if_neg (by decide), if_pos rfl]
theorem rng0 : pr.gl sg.rng = some (fun y => errCellT 193 y = true) := by show gl0 sg.rng = _; unfold gl0; rw [if_neg (by decide), if_neg (by decide), if_pos rfl]
theorem max0 : pr.gl sg.max = some (fun y => intCell y = true) := by show gl0 sg.max = _; unfold gl0; rw [if_neg (by decide), if_neg (by decide), if_neg (by decide), if_pos rfl]
def xt0 : Ext := orX (strX sg strs) (extBy exts)
def xt : Ext := orX (constT sg 193 [27]) xt0
theorem has6 : Go.Dv.Has pr xt F0 6 Go.Lib.M6 := ⟨by kernel_rfl, fun _ _ => rfl⟩
theorem has15 : Go.Dv.Has pr xt F0 15 Go.Lib.M15 := ⟨by kernel_rfl, fun _ _ => rfl⟩
theorem has23 : Go.Dv.Has pr xt F0 23 Go.Lib.M23 := ⟨by kernel_rfl, fun _ _ => rfl⟩
theorem has24 : Go.Dv.Has pr xt F0 24 Go.Lib.M24 := ⟨by kernel_rfl, fun _ _ => rfl⟩
theorem has25 : Go.Dv.Has pr xt F0 25 Go.Lib.M25 := ⟨by kernel_rfl, fun _ _ => rfl⟩
theorem has49 : Go.Dv.Has pr xt F0 49 Go.Lib.M49 := ⟨by kernel_rfl, fun _ _ => rfl⟩
theorem has50 : Go.Dv.Has pr xt F0 50 Go.Lib.M50 := ⟨by kernel_rfl, fun _ _ => rfl⟩
theorem has97 : Go.Dv.Has pr xt F0 97 Go.Lib.M97 := ⟨by kernel_rfl, fun _ _ => rfl⟩
theorem has98 : Go.Dv.Has pr xt F0 98 Go.Lib.M98 := ⟨by kernel_rfl, fun _ _ => rfl⟩
theorem has99 : Go.Dv.Has pr xt F0 99 Go.Lib.M99 := ⟨by kernel_rfl, fun _ _ => rfl⟩
theorem has212 : Go.Dv.Has pr xt F0 212 Go.Lib.M212 := ⟨by kernel_rfl, fun _ _ => rfl⟩
theorem has213 : Go.Dv.Has pr xt F0 213 Go.Lib.M213 := ⟨by kernel_rfl, fun _ _ => rfl⟩
theorem has214 : Go.Dv.Has pr xt F0 214 Go.Lib.M214 := ⟨by kernel_rfl, fun _ _ => rfl⟩
theorem has215 : Go.Dv.Has pr xt F0 215 Go.Lib.M215 := ⟨by kernel_rfl, fun _ _ => rfl⟩
theorem has216 : Go.Dv.Has pr xt F0 216 Go.Lib.M216 := ⟨by kernel_rfl, fun _ _ => rfl⟩
theorem has217 : Go.Dv.Has pr xt F0 217 Go.Lib.M217 := ⟨by kernel_rfl, fun _ _ => rfl⟩
theorem has218 : Go.Dv.Has pr xt F0 218 Go.Lib.M218 := ⟨by kernel_rfl, fun _ _ => rfl⟩
theorem has219 : Go.Dv.Has pr xt F0 219 Go.Lib.M219 := ⟨by kernel_rfl, fun _ _ => rfl⟩
theorem has220 : Go.Dv.Has pr xt F0 220 Go.Lib.M220 := ⟨by kernel_rfl, fun _ _ => rfl⟩
theorem has221 : Go.Dv.Has pr xt F0 221 Go.Lib.M221 := ⟨by kernel_rfl, fun _ _ => rfl⟩
theorem has229 : Go.Dv.Has pr xt F0 229 Go.Lib.M229 := ⟨by kernel_rfl, fun _ _ => rfl⟩
theorem has231 : Go.Dv.Has pr xt F0 231 Go.Lib.M231 := ⟨by kernel_rfl, fun _ _ => rfl⟩
theorem has232 : Go.Dv.Has pr xt F0 232 Go.Lib.M232 := ⟨by kernel_rfl, fun _ _ => rfl⟩
theorem has233 : Go.Dv.Has pr xt F0 233 Go.Lib.M233 := ⟨by kernel_rfl, fun _ _ => rfl⟩
theorem has234 : Go.Dv.Has pr xt F0 234 Go.Lib.M234 := ⟨by kernel_rfl, fun _ _ => rfl⟩
theorem has235 : Go.Dv.Has pr xt F0 235 Go.Lib.M235 := ⟨by kernel_rfl, fun _ _ => rfl⟩
theorem has236 : Go.Dv.Has pr xt F0 236 Go.Lib.M236 := ⟨by kernel_rfl, fun _ _ => rfl⟩
theorem has237 : Go.Dv.Has pr xt F0 237 Go.Lib.M237 := ⟨by kernel_rfl, fun _ _ => rfl⟩
theorem has238 : Go.Dv.Has pr xt F0 238 Go.Lib.M238 := ⟨by kernel_rfl, fun _ _ => rfl⟩
theorem has239 : Go.Dv.Has pr xt F0 239 Go.Lib.M239 := ⟨by kernel_rfl, fun _ _ => rfl⟩
theorem has240 : Go.Dv.Has pr xt F0 240 Go.Lib.M240 := ⟨by kernel_rfl, fun _ _ => rfl⟩
theorem has241 : Go.Dv.Has pr xt F0 241 Go.Lib.M241 := ⟨by kernel_rfl, fun _ _ => rfl⟩
theorem has251 : Go.Dv.Has pr xt F0 251 Go.Lib.M251 := ⟨by kernel_rfl, fun _ _ => rfl⟩
theorem has252 : Go.Dv.Has pr xt F0 252 Go.Lib.M252 := ⟨by kernel_rfl, fun _ _ => rfl⟩
theorem has253 : Go.Dv.Has pr xt F0 253 Go.Lib.M253 := ⟨by kernel_rfl, fun _ _ => rfl⟩
theorem has254 : Go.Dv.Has pr xt F0 254 Go.Lib.M254 := ⟨by kernel_rfl, fun _ _ => rfl⟩
theorem has255 : Go.Dv.Has pr xt F0 255 Go.Lib.M255 := ⟨by kernel_rfl, fun _ _ => rfl⟩
theorem has256 : Go.Dv.Has pr xt F0 256 Go.Lib.M256 := ⟨by kernel_rfl, fun _ _ => rfl⟩
theorem has257 : Go.Dv.Has pr xt F0 257 Go.Lib.M257 := ⟨by kernel_rfl, fun _ _ => rfl⟩
theorem has258 : Go.Dv.Has pr xt F0 258 Go.Lib.M258 := ⟨by kernel_rfl, fun _ _ => rfl⟩
theorem has259 : Go.Dv.Has pr xt F0 259 Go.Lib.M259 := ⟨by kernel_rfl, fun _ _ => rfl⟩
theorem has260 : Go.Dv.Has pr xt F0 260 Go.Lib.M260 := ⟨by kernel_rfl, fun _ _ => rfl⟩
theorem has261 : Go.Dv.Has pr xt F0 261 Go.Lib.M261 := ⟨by kernel_rfl, fun _ _ => rfl⟩
theorem has262 : Go.Dv.Has pr xt F0 262 Go.Lib.M262 := ⟨by kernel_rfl, fun _ _ => rfl⟩
theorem has263 : Go.Dv.Has pr xt F0 263 Go.Lib.M263 := ⟨by kernel_rfl, fun _ _ => rfl⟩
theorem has264 : Go.Dv.Has pr xt F0 264 Go.Lib.M264 := ⟨by kernel_rfl, fun _ _ => rfl⟩
theorem has265 : Go.Dv.Has pr xt F0 265 Go.Lib.M265 := ⟨by kernel_rfl, fun _ _ => rfl⟩
theorem has266 : Go.Dv.Has pr xt F0 266 Go.Lib.M266 := ⟨by kernel_rfl, fun _ _ => rfl⟩
theorem has267 : Go.Dv.Has pr xt F0 267 Go.Lib.M267 := ⟨by kernel_rfl, fun _ _ => rfl⟩
theorem has268 : Go.Dv.Has pr xt F0 268 Go.Lib.M268 := ⟨by kernel_rfl, fun _ _ => rfl⟩
theorem has269 : Go.Dv.Has pr xt F0 269 Go.Lib.M269 := ⟨by kernel_rfl, fun _ _ => rfl⟩
theorem has270 : Go.Dv.Has pr xt F0 270 Go.Lib.M270 := ⟨by kernel_rfl, fun _ _ => rfl⟩
theorem has271 : Go.Dv.Has pr xt F0 271 Go.Lib.M271 := ⟨by kernel_rfl, fun _ _ => rfl⟩
theorem has272 : Go.Dv.Has pr xt F0 272 Go.Lib.M272 := ⟨by kernel_rfl, fun _ _ => rfl⟩
theorem has273 : Go.Dv.Has pr xt F0 273 Go.Lib.M273 := ⟨by kernel_rfl, fun _ _ => rfl⟩
theorem has274 : Go.Dv.Has pr xt F0 274 Go.Lib.M274 := ⟨by kernel_rfl, fun _ _ => rfl⟩
theorem has275 : Go.Dv.Has pr xt F0 275 Go.Lib.M275 := ⟨by kernel_rfl, fun _ _ => rfl⟩
theorem has276 : Go.Dv.Has pr xt F0 276 Go.Lib.M276 := ⟨by kernel_rfl, fun _ _ => rfl⟩
theorem has277 : Go.Dv.Has pr xt F0 277 Go.Lib.M277 := ⟨by kernel_rfl, fun _ _ => rfl⟩
theorem has278 : Go.Dv.Has pr xt F0 278 Go.Lib.M278 := ⟨by kernel_rfl, fun _ _ => rfl⟩
theorem has279 : Go.Dv.Has pr xt F0 279 Go.Lib.M279 := ⟨by kernel_rfl, fun _ _ => rfl⟩
theorem has280 : Go.Dv.Has pr xt F0 280 Go.Lib.M280 := ⟨by kernel_rfl, fun _ _ => rfl⟩
theorem has281 : Go.Dv.Has pr xt F0 281 Go.Lib.M281 := ⟨by kernel_rfl, fun _ _ => rfl⟩
theorem has282 : Go.Dv.Has pr xt F0 282 Go.Lib.M282 := ⟨by kernel_rfl, fun _ _ => rfl⟩
theorem has283 : Go.Dv.Has pr xt F0 283 Go.Lib.M283 := ⟨by kernel_rfl, fun _ _ => rfl⟩
theorem has284 : Go.Dv.Has pr xt F0 284 Go.Lib.M284 := ⟨by kernel_rfl, fun _ _ => rfl⟩
theorem has285 : Go.Dv.Has pr xt F0 285 Go.Lib.M285 := ⟨by kernel_rfl, fun _ _ => rfl⟩
theorem has286 : Go.Dv.Has pr xt F0 286 Go.Lib.M286 := ⟨by kernel_rfl, fun _ _ => rfl⟩
theorem has287 : Go.Dv.Has pr xt F0 287 Go.Lib.M287 := ⟨by kernel_rfl, fun _ _ => rfl⟩
theorem has288 : Go.Dv.Has pr xt F0 288 Go.Lib.M288 := ⟨by kernel_rfl, fun _ _ => rfl⟩
theorem has289 : Go.Dv.Has pr xt F0 289 Go.Lib.M289 := ⟨by kernel_rfl, fun _ _ => rfl⟩
theorem has290 : Go.Dv.Has pr xt F0 290 Go.Lib.M290 := ⟨by kernel_rfl, fun _ _ => rfl⟩
theorem has291 : Go.Dv.Has pr xt F0 291 Go.Lib.M291 := ⟨by kernel_rfl, fun _ _ => rfl⟩
theorem has292 : Go.Dv.Has pr xt F0 292 Go.Lib.M292 := ⟨by kernel_rfl, fun _ _ => rfl⟩
theorem has293 : Go.Dv.Has pr xt F0 293 Go.Lib.M293 := ⟨by kernel_rfl, fun _ _ => rfl⟩
theorem has294 : Go.Dv.Has pr xt F0 294 Go.Lib.M294 := ⟨by kernel_rfl, fun _ _ => rfl⟩
theorem has295 : Go.Dv.Has pr xt F0 295 Go.Lib.M295 := ⟨by kernel_rfl, fun _ _ => rfl⟩
theorem has296 : Go.Dv.Has pr xt F0 296 Go.Lib.M296 := ⟨by kernel_rfl, fun _ _ => rfl⟩
theorem has297 : Go.Dv.Has pr xt F0 297 Go.Lib.M297 := ⟨by kernel_rfl, fun _ _ => rfl⟩
theorem has298 : Go.Dv.Has pr xt F0 298 Go.Lib.M298 := ⟨by kernel_rfl, fun _ _ => rfl⟩
theorem has299 : Go.Dv.Has pr xt F0 299 Go.Lib.M299 := ⟨by kernel_rfl, fun _ _ => rfl⟩
theorem has300 : Go.Dv.Has pr xt F0 300 Go.Lib.M300 := ⟨by kernel_rfl, fun _ _ => rfl⟩
theorem has301 : Go.Dv.Has pr xt F0 301 Go.Lib.M301 := ⟨by kernel_rfl, fun _ _ => rfl⟩
end Go.Proofs.YtcpfgjkhjadgoaaGreatDoor.sa
end

section
set_option maxRecDepth 100000
namespace Go.Proofs.YtcpfgjkhjadgoaaGreatDoor.sa
open Go.Vm
theorem awakeR : ∀ m : Int, runsL (mach []) (orX (strX sg strs) (extBy exts)) 1000000 27 [] (laidH Tryz.prog.globals.size 2 (fullT sg 193 Tryz.prog.globals.size m)) = true := fun m => by kernel_rfl
end Go.Proofs.YtcpfgjkhjadgoaaGreatDoor.sa
end

section
set_option maxRecDepth 100000
namespace Go.Proofs.YtcpfgjkhjadgoaaGreatDoor.sa
open Go.Vm Go.Dv Go.Lib
theorem hawake : FnD pr xt (F0 302) [] (.lit (.bool true)) := by
 intro H ψ S h vs s k;simp only [VDl] at k;subst k;have hp : powCells (h.blk sg.pow) = true := (s.gl sg.pow _ pow0).2;have h1 : errCellT 193 (h.blk sg.syn) = true := (s.gl sg.syn _ syn0).2;have h2 : errCellT 193 (h.blk sg.rng) = true := (s.gl sg.rng _ rng0).2;have h3 : intCell (h.blk sg.max) = true := (s.gl sg.max _ max0).2;refine wpc_ext (v := .bool true) (h' := h) ?_ ⟨ψ, S, _, H, .refl, s, ?_, rfl, rfl⟩
 ·show orX (constT sg 193 [_]) xt0 _ [] h = _;unfold orX constT;rw [hp, h1, h2, h3]; rfl
 ·simp [VD, atomV]
theorem orX_none {a b : Ext} {f : Nat} {args : List V} {h : Hp} (hb : b f args h = none) : orX a b f args h = a f args h := by unfold orX; rw [hb]; cases a f args h <;> rfl
theorem orX_snd {a b : Ext} {f : Nat} {args : List V} {h : Hp} (ha : a f args h = none) : orX a b f args h = b f args h := by unfold orX; rw [ha]
theorem x200 : ∀ args h, xt (F0 200) args h = strV sg .cut args h := fun _ _ => (orX_snd rfl).trans ((orX_none rfl).trans rfl)
theorem x201 : ∀ args h, xt (F0 201) args h = strV sg .idx args h := fun _ _ => (orX_snd rfl).trans ((orX_none rfl).trans rfl)
theorem x202 : ∀ args h, xt (F0 202) args h = strV sg .split args h := fun _ _ => (orX_snd rfl).trans ((orX_none rfl).trans rfl)
theorem x203 : ∀ args h, xt (F0 203) args h = strV sg .cutS args h := fun _ _ => (orX_snd rfl).trans ((orX_none rfl).trans rfl)
theorem x204 : ∀ args h, xt (F0 204) args h = strV sg .trimP args h := fun _ _ => (orX_snd rfl).trans ((orX_none rfl).trans rfl)
theorem x205 : ∀ args h, xt (F0 205) args h = strV sg .trimS args h := fun _ _ => (orX_snd rfl).trans ((orX_none rfl).trans rfl)
theorem x206 : ∀ args h, xt (F0 206) args h = strV sg .idxB args h := fun _ _ => (orX_snd rfl).trans ((orX_none rfl).trans rfl)
theorem x207 : ∀ args h, xt (F0 207) args h = strV sg .join args h := fun _ _ => (orX_snd rfl).trans ((orX_none rfl).trans rfl)
theorem x209 : ∀ args h, xt (F0 209) args h = strV sg .fmt args h := fun _ _ => (orX_snd rfl).trans ((orX_none rfl).trans rfl)
theorem x210 : ∀ args h, xt (F0 210) args h = strV sg .parse args h := fun _ _ => (orX_snd rfl).trans ((orX_none rfl).trans rfl)
theorem full0 : FullGl pr sg := ⟨pow0, max0, ⟨_, syn0⟩, ⟨_, rng0⟩⟩
theorem htext : HText pr xt F0 := ⟨⟨has6, has15⟩, has214, has216, has218, has219, has220, has221⟩
theorem hval : HVal pr xt F0 sg := ⟨has213, x209, pow0⟩
theorem htold : HTold pr xt F0 sg := ⟨htext, hval, x207, has212, has215, has217⟩
theorem hidx : HIdx pr xt F0 := ⟨has234, has236, has238, has239⟩
theorem hunhex : HUnhex pr xt F0 sg := ⟨has240, has241, x206⟩
theorem hprsv : HPrsV pr xt F0 sg := ⟨htext, hval, hunhex, full0, x204, x210, has237⟩
theorem hwords : HWords pr xt F0 sg := ⟨hidx, hprsv, text_ops htold, x202, has233⟩
theorem hread : HRead pr xt F0 sg := ⟨hwords, ⟨has235⟩, x200, x203, has232⟩
theorem hparse : HParse pr xt F0 sg := ⟨hread, htold, has231⟩
theorem hexpr : HExpr pr xt F0 := ⟨htext, has239, has255, has256, has264, has265, has266, has267, has268, has269, has270, has271, has272, has273, has274, has278, has279, has280, has281, has282, has283, has284, has285, has294, has295, has298⟩
theorem hprogt : HProgT pr xt F0 sg := ⟨hexpr, htold, has251, has253, has257, has258, has259, has260, has261, has263, has275, has276⟩
theorem hprogp : HProgP pr xt F0 sg := ⟨hprogt, hparse, x201, x205, has252, has254, has262, has277, has286, has287, has288, has289, has290, has291, has292, has293, has296, has297⟩
theorem hprog : HProg pr xt F0 := ⟨⟨⟨⟨has23, has25⟩, has99⟩, ⟨⟨has23, has25⟩, has24⟩, has97⟩, has98⟩
theorem hlaw : HLaw26 pr xt F0 sg := ⟨hprogp, hprog, ⟨⟨has49, has50⟩, has229⟩, hawake, has299, has300, has301⟩
theorem mixed : Tryz.prog.follows .mixedOrders = true := by kernel_rfl
theorem xt0_ok {env : Env} : CallOk Tryz.prog env xt0 := orX_ok (strX_ok sg_ok strs_ok) (extBy_ok extsOk)
theorem xt0_rises : Rises xt0 := orX_rises (strX_rises _ _) (extBy_rises _)
theorem xt_ok {env : Env} : CallOk Tryz.prog env xt := orX_ok (constT_ok mixed (valid []) xt0_rises xt0_ok rfl intsOk (n := 1000000) sg_ok fun f hf => by
 rcases List.mem_cons.1 hf with rfl | hf
 ·exact ⟨by kernel_rfl, awakeR⟩
 ·cases hf) xt0_ok
theorem xt_rises : Rises xt := orX_rises (constT_rises _ _ _) xt0_rises
end Go.Proofs.YtcpfgjkhjadgoaaGreatDoor.sa
end
