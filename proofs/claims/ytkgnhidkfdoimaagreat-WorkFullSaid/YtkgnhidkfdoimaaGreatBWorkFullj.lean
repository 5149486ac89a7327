/-
 Texts that the claim's last one rests on, joined.
-/
import Derived.Test.YtkgnhidkfdoimaaGreatBWorkFulli
import Derived.Test.YtkgnhidkfdoimaaGreatBWorkFullf
import Derived.Test.YtkgnhidkfdoimaaGreatBWorkFullh

section
set_option maxRecDepth 10000
namespace Go.Lib
open Go.Vm Go.Dv
variable {p : Prog} {ext : Ext} {F : Nat → Nat}
theorem put_same {H : HpD} {b : Nat} {x : BD} (h : H.blk b = x) : H.put b x = H := by
 cases H with
 | mk n f =>
  simp only [HpD.put, HpD.mk.injEq, true_and];funext c;show (if c = b then x else f c) = f c;split
  ·rename_i e; rw [e, ← h]
  ·rfl
def Tb.cells (t : Tb) (bd : Nat) : List D := [schR t.s, .ptr bd 0, .lit .nilslice, .lit (.int .i64 t.gmost), .lit (.int .i64 t.last)]
def putT (H : HpD) (bt bd bm : Nat) (t : Tb) : HpD := (H.put bm (.map (some .i64) (stoD t.l))).put bt (.cells (t.cells bd) false)
def Tb.with (t : Tb) (l : Sto) : Tb := ⟨t.s, t.dmost, t.gmost, t.last, l⟩
theorem putT_same {H : HpD} {bt bd bm : Nat} {t : Tb} (h : TabN H bt bd bm t) : putT H bt bd bm t = H := by
 unfold putT;rw [put_same (H := H) h.sto.m];exact put_same h.tb
theorem putT_bm {H : HpD} {bt bd bm : Nat} {t : Tb} {l : Sto} (h : TabN H bt bd bm t) : H.put bm (.map (some .i64) (stoD l)) = putT H bt bd bm (t.with l) := by
 unfold putT;rw [put_same (H := H.put bm (.map (some .i64) (stoD (t.with l).l))) (b := bt)]
 ·rfl
 ·rw [put_blk, if_neg h.ne.1.1]; exact h.tb
theorem putT_next {H : HpD} {bt bd bm : Nat} {t : Tb} : (putT H bt bd bm t).next = H.next := rfl
attribute [simp] putT_next
theorem TabAt.putT {H : HpD} {bt bd bm : Nat} {t t' : Tb} (h : TabN H bt bd bm t) (hd : t'.dmost = t.dmost) : TabN (putT H bt bd bm t') bt bd bm t' := by
 refine ⟨?_, by simpa using h.lt, ⟨?_, ?_, by simpa using h.sto.ld, by simpa using h.sto.lm⟩⟩
 ·simp [Lib.putT, Tb.cells]
 ·unfold Lib.putT;rw [put_blk, if_neg h.ne.2.1.2, put_blk, if_neg h.ne.2.2.1, hd]; exact h.sto.d
 ·unfold Lib.putT;rw [put_blk, if_neg h.ne.1.2, put_blk, if_pos rfl]
theorem putT_neat {H : HpD} {bt bd bm : Nat} {t t' : Tb} (h : TabN H bt bd bm t) : Neat H → Neat (putT H bt bd bm t') := fun n =>
 (n.put h.sto.lm sto_under).put (by simpa using h.lt) (by simp [BD.under, Tb.cells]; exact h.sto.ld)
structure TOk (t : Tb) : Prop where
 last : 0 ≤ t.last ∧ t.last < 1000000
 ids : ∀ v, v ∈ t.l → v.id ≤ t.last ∧ 1 ≤ v.id
 s : t.s.length < 1000000
 most : t.dmost ≤ 1000
 len : t.l.length ≤ 1000
theorem TOk.idsOk {t : Tb} (h : TOk t) : IdsOk t.l := ⟨fun v hv => by
 have h1 := h.ids v hv;have h2 := h.last
 rw [wr_of] <;> omega, by have := h.len; omega⟩
structure Rn where
 ops : List Op
 at_ : Int
 i : Int
 id : Int
 bg : Int
 tm : Int
 res : List Rs
 rds : List (Pr × List Int)
 err : Int
def opsD (l : List Op) : D := .row 14 .p (l.map Op.c)
def resE (l : List Rs) : List (List D) := l.map Rs.c
def rdE (l : List (Pr × List Int)) : List (List D) := l.map fun x => x.1.c ++ [intsD .p x.2]
def Rn.c (r : Rn) (bt bb : Nat) (rs ds : D) : List D := [.ptr bt 0, .ptr bb 0, opsD r.ops, .lit (.int .i64 r.at_), .lit (.int .i64 r.i), .lit (.int .i64 r.id), .lit (.int .i64 r.bg), .lit (.int .i64 r.tm), rs, ds, .lit .nilslice, .lit (.int .i64 r.err)]
def OwnS (H : HpD) (sz : Nat) (s : D) (el : List (List D)) : Prop := (s = .lit .nilslice ∧ el = []) ∨ ∃ b ex, s = .slice b 0 sz el.length el.length ex ∧ b < H.next ∧ H.blk b = .cells el.flatten false
structure RunAt (H : HpD) (br bt bb : Nat) (rs ds : D) (r : Rn) : Prop where
 blk : H.blk br = .cells (r.c bt bb rs ds) false
 lt : br < H.next
 res : OwnS H 3 rs (resE r.res)
 rds : OwnS H 9 ds (rdE r.rds)
structure Wk (H : HpD) (bt bd bm bb br : Nat) (sb rs ds : D) (t : Tb) (k : Bk) (r : Rn) : Prop where
 w : TbAt H bt bd bm bb sb t k
 r : RunAt H br bt bb rs ds r
 sep : (∀ x, rs.hasB x → ¬ ds.hasB x ∧ ¬ sb.hasB x) ∧ ∀ x, ds.hasB x → ¬ sb.hasB x
section
variable {H : HpD} {bt bd bm bb br : Nat} {sb rs ds : D} {t t' : Tb} {k : Bk} {r : Rn}
theorem Wk.f (h : Wk H bt bd bm bb br sb rs ds t k r) : H.blk br = .cells [.ptr bt 0, .ptr bb 0, opsD r.ops, .lit (.int .i64 r.at_), .lit (.int .i64 r.i), .lit (.int .i64 r.id), .lit (.int .i64 r.bg), .lit (.int .i64 r.tm), rs, ds, .lit .nilslice, .lit (.int .i64 r.err)] false ∧
  (br < H.next ∧ br < H.next + 1 ∧ br < H.next + 1 + 1 ∧ br < H.next + 1 + 1 + 1 ∧ br < H.next + 1 + 1 + 1 + 1) ∧ (br ≠ H.next ∧ br ≠ H.next + 1 ∧ br ≠ H.next + 1 + 1 ∧ br ≠ H.next + 1 + 1 + 1 ∧ br ≠ H.next + 1 + 1 + 1 + 1) := ⟨h.r.blk, (ltn h.r.lt).1, (ltn h.r.lt).2.1⟩
theorem OwnS.mono {H' : HpD} {sz : Nat} {s : D} {el : List (List D)} (h : OwnS H sz s el) (hs : Sub H H') : OwnS H' sz s el := by
 rcases h with h | ⟨b, ex, e, h1, h2⟩
 ·exact .inl h
 ·exact .inr ⟨b, ex, e, Nat.lt_of_lt_of_le h1 hs.next, by rw [hs.blk _ h1]; exact h2⟩
theorem Wk.mono {H' : HpD} (h : Wk H bt bd bm bb br sb rs ds t k r) (hs : Sub H H') : Wk H' bt bd bm bb br sb rs ds t k r :=
 ⟨by rw [hs.blk _ h.r.lt]; exact h.r.blk, Nat.lt_of_lt_of_le h.r.lt hs.next, h.r.res.mono hs, h.r.rds.mono hs⟩ |> fun (r : RunAt H' br bt bb rs ds r) => ⟨h.w.mono hs, r, h.sep⟩
theorem TabAt.other {x : Nat} {l : List D} {ro : Bool} (h : TabN H bt bd bm t) (hx : H.blk x = .cells l ro) (h0 : l.head? ≠ some (schR t.s)) : x ≠ bt ∧ x ≠ bm := by
 refine ⟨?_, ?_⟩
 ·rintro rfl;rw [h.tb] at hx;cases hx;exact h0 rfl
 ·rintro rfl;rw [h.sto.m] at hx;cases hx
theorem putT_far {x : Nat} (h : x ≠ bt ∧ x ≠ bm) : (putT H bt bd bm t).blk x = H.blk x := by
 unfold putT;rw [put_blk, if_neg h.1, put_blk, if_neg h.2]
theorem OwnS.putT {sz : Nat} {s : D} {el : List (List D)} (h : OwnS H sz s el) (ht : TabN H bt bd bm t) (h0 : ∀ e, e ∈ el → ∃ v e', e = .lit v :: e') : OwnS (putT H bt bd bm t') sz s el := by
 rcases h with h | ⟨b, ex, e, h1, h2⟩
 ·exact .inl h
 ·refine .inr ⟨b, ex, e, h1, ?_⟩;rw [putT_far (ht.other h2 ?_)]
  ·exact h2
  ·cases el with
   | nil => simp
   | cons x l =>
    obtain ⟨v, e', hx⟩ := h0 x (List.mem_cons_self ..);rw [hx]; simp [schR]
theorem BkAt.own (h : BkAt H bb sb k) : OwnS H 4 sb (txE k.l) := by
 rcases h.at_ with ⟨e1, e2⟩ | ⟨bl, ex, e, h1, h2⟩
 ·exact .inl ⟨e1, by rw [e2]; rfl⟩
 ·exact .inr ⟨bl, ex, by simpa using e, h1, h2⟩
theorem BkAt.of (h1 : H.blk bb = .cells [.lit (.int .i64 k.ticks), sb] false) (h2 : bb < H.next) (h3 : OwnS H 4 sb (txE k.l)) : BkAt H bb sb k := by
 refine ⟨h1, h2, ?_⟩;rcases h3 with ⟨e1, e2⟩ | ⟨bl, ex, e, h1, h2⟩
 ·exact .inl ⟨e1, by simpa [txE] using e2⟩
 ·exact .inr ⟨bl, ex, by simpa using e, h1, h2⟩
theorem Wk.putT (h : Wk H bt bd bm bb br sb rs ds t k r) (hd : t'.dmost = t.dmost) (ht : TOk t') : Wk (putT H bt bd bm t') bt bd bm bb br sb rs ds t' k r := by
 have hT := h.w.tb;refine ⟨⟨hT.putT hd, .of ?_ (by simpa using h.w.b.lt) (h.w.b.own.putT hT ?_), ht.idsOk, h.w.txs⟩, ⟨?_, by simpa using h.r.lt, h.r.res.putT hT ?_, h.r.rds.putT hT ?_⟩, h.sep⟩
 ·rw [putT_far (hT.other h.w.b.b (by simp [schR]))]; exact h.w.b.b
 ·intro e he; simp only [txE, List.mem_map] at he; obtain ⟨x, _, rfl⟩ := he; exact ⟨_, _, rfl⟩
 ·rw [putT_far (hT.other h.r.blk (by simp [schR, Rn.c]))]; exact h.r.blk
 ·intro e he; simp only [resE, List.mem_map] at he; obtain ⟨x, _, rfl⟩ := he; exact ⟨_, _, rfl⟩
 ·intro e he; simp only [rdE, List.mem_map] at he; obtain ⟨⟨⟨_, _, _, _, _⟩, _⟩, _, rfl⟩ := he; exact ⟨_, _, rfl⟩
theorem OwnS.lt {sz : Nat} {s : D} {el : List (List D)} (h : OwnS H sz s el) {x : Nat} (hx : s.hasB x) : x < H.next ∧ H.blk x = .cells el.flatten false := by
 rcases h with ⟨rfl, _⟩ | ⟨b, ex, rfl, h1, h2⟩
 ·simp [D.hasB] at hx
 ·simp only [D.hasB] at hx; subst hx; exact ⟨h1, h2⟩
theorem OwnS.keep {H' : HpD} {sz : Nat} {s : D} {el : List (List D)} (h : OwnS H sz s el) (hn : H.next ≤ H'.next) (hk : ∀ x, s.hasB x → H'.blk x = H.blk x) : OwnS H' sz s el := by
 rcases h with h | ⟨b, ex, rfl, h1, h2⟩
 ·exact .inl h
 ·exact .inr ⟨b, ex, rfl, Nat.lt_of_lt_of_le h1 hn, by rw [hk b (by simp only [D.hasB])]; exact h2⟩
theorem mul_ne {H : HpD} {x y sz : Nat} {el : List (List D)} {l : List D} (hx : H.blk x = .cells el.flatten false) (hl : ∀ e, e ∈ el → e.length = sz ∧ ∃ v e', e = .lit v :: e') (hy : H.blk y = .cells l false) (h : (l.length = 2 ∧ 2 < sz) ∨ ∃ d l', l = d :: l' ∧ ∀ v, d ≠ .lit v) : x ≠ y := by
 rintro rfl;rw [hx] at hy;simp only [BD.cells.injEq, and_true] at hy;have hfl := flatten_len (fun e he => (hl e he).1);rcases h with ⟨h1, h2⟩ | ⟨d, l', rfl, h2⟩
 ·rw [hy, h1] at hfl;rcases Nat.eq_zero_or_pos el.length with h0 | h0
  ·rw [h0] at hfl; omega
  ·have := Nat.mul_le_mul_right sz h0; omega
 ·cases el with
  | nil => simp at hy
  | cons e el =>
   obtain ⟨v, e', rfl⟩ := (hl e (List.mem_cons_self ..)).2;simp at hy;exact h2 v hy.1.symm
theorem txE_lit {l : List Tx} : ∀ e, e ∈ txE l → e.length = 4 ∧ ∃ v e', e = .lit v :: e' := by
 intro e he; simp only [txE, List.mem_map] at he; obtain ⟨x, _, rfl⟩ := he; exact ⟨rfl, _, _, rfl⟩
theorem resE_lit {l : List Rs} : ∀ e, e ∈ resE l → e.length = 3 ∧ ∃ v e', e = .lit v :: e' := by
 intro e he; simp only [resE, List.mem_map] at he; obtain ⟨x, _, rfl⟩ := he; exact ⟨rfl, _, _, rfl⟩
theorem rdE_lit {l : List (Pr × List Int)} : ∀ e, e ∈ rdE l → e.length = 9 ∧ ∃ v e', e = .lit v :: e' := by
 intro e he; simp only [rdE, List.mem_map] at he; obtain ⟨⟨⟨_, _, _, _, _⟩, _⟩, _, rfl⟩ := he; exact ⟨rfl, _, _, rfl⟩
theorem Wk.far (h : Wk H bt bd bm bb br sb rs ds t k r) {x : Nat} (hx : rs.hasB x ∨ ds.hasB x ∨ sb.hasB x) : x ≠ bt ∧ x ≠ bd ∧ x ≠ bm ∧ x ≠ bb ∧ x ≠ br := by
 have key : ∀ {sz : Nat} {s : D} {el : List (List D)}, OwnS H sz s el → (∀ e, e ∈ el → e.length = sz ∧ ∃ v e', e = .lit v :: e') → 2 < sz → s.hasB x → x ≠ bt ∧ x ≠ bd ∧ x ≠ bm ∧ x ≠ bb ∧ x ≠ br := by
  intro sz s el ho hl h2 hx;have hb := (ho.lt hx).2;refine ⟨mul_ne hb hl h.w.tb.tb (.inr ⟨_, _, rfl, fun v e => by simp [schR] at e⟩), mul_ne hb hl h.w.tb.sto.d (.inl ⟨rfl, h2⟩), ?_, mul_ne hb hl h.w.b.b (.inl ⟨rfl, h2⟩), mul_ne hb hl h.r.blk (.inr ⟨_, _, rfl, fun v e => by cases e⟩)⟩;rintro rfl;rw [h.w.tb.sto.m] at hb;cases hb
 rcases hx with hx | hx | hx
 ·exact key h.r.res resE_lit (by omega) hx
 ·exact key h.r.rds rdE_lit (by omega) hx
 ·exact key h.w.b.own txE_lit (by omega) hx
theorem Wk.apart (h : Wk H bt bd bm bb br sb rs ds t k r) : (br ≠ bt ∧ br ≠ bd ∧ br ≠ bm ∧ br ≠ bb) ∧ bb ≠ bt ∧ bb ≠ bd ∧ bb ≠ bm := by
 have e1 := h.r.blk;have e2 := h.w.tb.tb;have e3 := h.w.tb.sto.d;have e4 := h.w.tb.sto.m;have e5 := h.w.b.b;refine ⟨⟨?_, ?_, ?_, ?_⟩, ?_, ?_, ?_⟩
 ·rintro rfl; rw [e1] at e2; simp [Rn.c, schR] at e2
 ·rintro rfl; rw [e1] at e3; simp [Rn.c] at e3
 ·rintro rfl; rw [e1] at e4; cases e4
 ·rintro rfl; rw [e1] at e5; simp [Rn.c] at e5
 ·rintro rfl; rw [e5] at e2; simp [schR] at e2
 ·rintro rfl;rw [e5] at e3;simp at e3;have := h.w.b.rig;rcases h.w.b.at_ with ⟨e, _⟩ | ⟨bl, ex, e, _⟩ <;> rw [e] at e3 <;> simp at e3
 ·rintro rfl; rw [e5] at e4; cases e4
theorem Wk.turn {H' : HpD} {rs' ds' : D} {r' : Rn} (h : Wk H bt bd bm bb br sb rs ds t k r) (hn : H.next ≤ H'.next) (hk : ∀ x, x < H.next → x ≠ br → ¬ rs.hasB x → ¬ ds.hasB x → H'.blk x = H.blk x) (hbr : H'.blk br = .cells (r'.c bt bb rs' ds') false) (hrs : OwnS H' 3 rs' (resE r'.res)) (hds : OwnS H' 9 ds' (rdE r'.rds)) (f1 : ∀ x, rs'.hasB x → rs.hasB x ∨ H.next ≤ x) (f2 : ∀ x, ds'.hasB x → ds.hasB x ∨ H.next ≤ x) (f3 : ∀ x, rs'.hasB x → ¬ ds'.hasB x) : Wk H' bt bd bm bb br sb rs' ds' t k r' := by
 have ha := h.apart;have hT := h.w.tb
 have kb : ∀ x, x < H.next → (x = bt ∨ x = bd ∨ x = bm ∨ x = bb) → H'.blk x = H.blk x := fun x hx e => by
  refine hk x hx ?_ (fun hr => ?_) (fun hr => ?_)
  ·rcases e with rfl | rfl | rfl | rfl
   ·exact fun e => ha.1.1 e.symm
   ·exact fun e => ha.1.2.1 e.symm
   ·exact fun e => ha.1.2.2.1 e.symm
   ·exact fun e => ha.1.2.2.2 e.symm
  ·have := h.far (.inl hr);rcases e with rfl | rfl | rfl | rfl
   ·exact this.1 rfl
   ·exact this.2.1 rfl
   ·exact this.2.2.1 rfl
   ·exact this.2.2.2.1 rfl
  ·have := h.far (.inr (.inl hr));rcases e with rfl | rfl | rfl | rfl
   ·exact this.1 rfl
   ·exact this.2.1 rfl
   ·exact this.2.2.1 rfl
   ·exact this.2.2.2.1 rfl
 have hsb : ∀ x, sb.hasB x → H'.blk x = H.blk x := fun x hx => hk x (h.w.b.own.lt hx).1 (h.far (.inr (.inr hx))).2.2.2.2 (fun e => (h.sep.1 x e).2 hx) (fun e => h.sep.2 x e hx);refine ⟨⟨⟨?_, Nat.lt_of_lt_of_le hT.lt hn, ⟨?_, ?_, Nat.lt_of_lt_of_le hT.sto.ld hn, Nat.lt_of_lt_of_le hT.sto.lm hn⟩⟩, .of ?_ (Nat.lt_of_lt_of_le h.w.b.lt hn) (h.w.b.own.keep hn hsb), h.w.ids, h.w.txs⟩, ⟨hbr, Nat.lt_of_lt_of_le h.r.lt hn, hrs, hds⟩, ?_, ?_⟩
 ·rw [kb bt hT.lt (.inl rfl)]; exact hT.tb
 ·rw [kb bd hT.sto.ld (.inr (.inl rfl))]; exact hT.sto.d
 ·rw [kb bm hT.sto.lm (.inr (.inr (.inl rfl)))]; exact hT.sto.m
 ·rw [kb bb h.w.b.lt (.inr (.inr (.inr rfl)))]; exact h.w.b.b
 ·refine fun x hx => ⟨f3 x hx, fun e => ?_⟩;rcases f1 x hx with h1 | h1
  ·exact (h.sep.1 x h1).2 e
  ·have := (h.w.b.own.lt e).1; omega
 ·intro x hx e;rcases f2 x hx with h1 | h1
  ·exact h.sep.2 x h1 e
  ·have := (h.w.b.own.lt e).1; omega
theorem OwnS.rig {sz : Nat} {s : D} {el : List (List D)} (h : OwnS H sz s el) : rigid s = true ∧ cellsD s = some [s] ∧ flatD s = true ∧ lenbD s = some (.lit (.int .i64 (el.length : Int))) := by
 rcases h with ⟨rfl, rfl⟩ | ⟨b, ex, rfl, _⟩ <;> exact ⟨rfl, rfl, rfl, rfl⟩
end
structure HWork (p : Prog) (ext : Ext) (F : Nat → Nat) : Prop where
 rows : HRows p ext F
 x334 : ∀ {b : Nat} {H : HpD}, H.blk b = .cells [.lit .nilslice] false → WcD p ext (F 334) [.func (F 409) [] [.ptr b 0]] H fun d H' => d = .lit .nilslice ∧ H' = H
 h390 : Has p ext F 390 M390
 h394 : Has p ext F 394 M394
 h400 : Has p ext F 400 M400
 h401 : Has p ext F 401 M401
 h408 : Has p ext F 408 M408
 h404 : Has p ext F 404 M404
 h405 : Has p ext F 405 M405
 h410 : Has p ext F 410 M410
section
variable {H : HpD} {bt bd bm bb br : Nat} {sb rs ds : D} {t : Tb} {k : Bk} {r : Rn}
theorem work_mine (L : HWork p ext F) (h : Wk H bt bd bm bb br sb rs ds t k r) : Td p ext (F 410) [.ptr br 0] H (.agg [.lit (.int .i64 r.id), .lit (.int .i64 0)]) H := by
 refine td_of L.h410 (M := M410) rfl ok410 rfl (Nat.le_refl _) (fun h => h) (sem_run 9000 _ ?_);simp [h.f];refine sem_ret ?_;simp [M410];exact .le sW (D.le_refl _) (by simp)
theorem TOk.free (h : TOk t) : findV t.l (t.last + 1) = none := by
 unfold findV;rw [List.find?_eq_none];intro v hv;have := (h.ids v hv).1;simp; omega
def addW (t : Tb) (row : Row) (id : Int) : Tb × Int :=
 if h : row.length < 1000000 ∧ fitsB t.s row = true ∧ (t.l.length : Int) < t.dmost then (⟨t.s, t.dmost, t.gmost, t.last + 1, putV ⟨t.last + 1, row, ⟨id, 0, 0, 0⟩, h.1⟩ t.l⟩, 0) else (t, 4)
theorem tabl_addW (L : HTabl p ext F) {row : Row} {id : Int} (h : TabN H bt bd bm t) (ht : TOk t) (hr : row.length < 1000000) : Td p ext (F 304) [.ptr bt 0, rowD row, .agg [.lit (.int .i64 id), .lit (.int .i64 0), .lit (.int .i64 0), .lit (.int .i64 0)]] H (.tup [.lit (.int .i64 (if (addW t row id).2 = 0 then t.last + 1 else 0)), .lit (.bool (decide ((addW t row id).2 = 0)))]) (putT H bt bd bm (addW t row id).1) := by
 unfold addW
 by_cases hf : fitsB t.s row = true
 ·by_cases hm : (t.l.length : Int) < t.dmost
  ·rw [dif_pos ⟨hr, hf, hm⟩];have := tabl_add L h (r := row) (sp := ⟨id, 0, 0, 0⟩) hr ht.s hf ⟨ht.last.1, by have := ht.last.2; omega⟩ ht.free hm;simpa [putT, Tb.cells, Sp.c] using this
  ·rw [dif_neg (fun e => hm e.2.2), putT_same h];have := tabl_full L h (r := row) (sp := ⟨id, 0, 0, 0⟩) hr ht.s hf ⟨ht.last.1, by have := ht.last.2; omega⟩ ht.free hm;simpa [Sp.c] using this
 ·rw [dif_neg (fun e => hf e.2.1), putT_same h];have := tabl_unfit L h (r := row) (sp := ⟨id, 0, 0, 0⟩) ht.s (by simpa using hf);simpa [Sp.c] using this
theorem addW_code {t : Tb} {row : Row} {id : Int} : (addW t row id).2 = 0 ∨ (addW t row id).2 = 4 := by
 unfold addW; split <;> simp
theorem work_add (L : HWork p ext F) {row : Row} (h : Wk H bt bd bm bb br sb rs ds t k r) (ht : TOk t) (hr : row.length < 1000000) : Td p ext (F 405) [.ptr br 0, rowD row] H (.lit (.int .i64 (addW t row r.id).2)) (putT H bt bd bm (addW t row r.id).1) := by
 refine td_of L.h405 (M := M405) rfl ok405 rfl ?_ ?_ (sem_run 9000 _ ?_)
 ·simp
 ·exact putT_neat h.w.tb
 simp;refine sem_dtd (work_mine L h) (by first | exact D.les_refl _ | simp) (sem_run 9000 _ ?_);simp [h.f];refine sem_dtd (tabl_addW L.rows.view.pick.tabl h.w.tb ht hr (id := r.id)) (by first | exact D.les_refl _ | simp) (sem_run 9000 _ ?_);simp;rcases addW_code (t := t) (row := row) (id := r.id) with e | e
 ·simp [e];refine sem_ret ?_;simp [M405];exact .le sW (D.le_refl _) (by simp)
 ·simp [e];refine sem_ret ?_;simp [M405];exact .le sW (D.le_refl _) (by simp)
def takenW (k : Bk) (id bg : Int) (v : Ver) : Bool :=
 (if v.sp.bt ≠ 0 ∧ v.sp.bt ≠ id then decide ((stateF k.l v.sp.bt).st = 1) || decide ((stateF k.l v.sp.bt).st = 2) else decide (v.sp.bt = 0) && decide (bg < v.sp.ba)) && (neverF v.sp.et v.sp.ea || !decide (v.sp.et = 0))
theorem caps_nil : capsD (.lit .nilslice) = some (.lit (.int .i64 0)) := rfl
theorem work_taken (L : HWork p ext F) {v : Ver} (h : Wk H bt bd bm bb br sb rs ds t k r) : Td p ext (F 404) [.ptr br 0, .agg v.c, txsD k.l] H (.lit (.bool (takenW k r.id r.bg v))) H := by
 refine td_of L.h404 (M := M404) rfl ok404 rfl (Nat.le_refl _) (fun h => h) (sem_run 9000 _ ?_);simp [Ver.c];have hS := L.rows.view.stam
 by_cases c : v.sp.bt = 0
 ·have hc : (v.sp.bt = 0) = True := eq_true c
  by_cases c1 : r.bg < v.sp.ba
  ·simp [hc, h.f, c1];refine sf (stam_never hS (t := v.sp.et) (a := v.sp.ea)) ?_;simp;have e : takenW k r.id r.bg v = (decide (v.sp.et = 0) && decide (v.sp.ea = 0) || !decide (v.sp.et = 0)) := (by simp [takenW, neverF, hc, c1]);rw [e]
   by_cases c3 : v.sp.et = 0
   ·have c3' : (v.sp.et = 0) = True := eq_true c3
    by_cases c5 : v.sp.ea = 0
    ·have c5' : (v.sp.ea = 0) = True := eq_true c5;simp [c3', c5'];refine sem_ret ?_;simp [M404];exact .le sR (D.le_refl _) (by simp)
    ·simp [c3', c5];refine sem_ret ?_;simp [M404];exact .le sR (D.le_refl _) (by simp)
   ·simp [c3];refine sem_ret ?_;simp [M404];exact .le sR (D.le_refl _) (by simp)
  ·have e : takenW k r.id r.bg v = false := (by simp [takenW, hc, c1]);rw [e];simp [hc, h.f, c1];refine sem_ret ?_;simp [M404];exact .le sR (D.le_refl _) (by simp)
 ·simp [c, h.f]
  by_cases c2 : v.sp.bt = r.id
  ·have e : takenW k r.id r.bg v = false := (by simp [takenW, c2]; intro h; exact absurd h (c2 ▸ c));rw [e];simp [c2];refine sem_ret ?_;simp [M404];exact .le sR (D.le_refl _) (by simp)
  ·simp [c2];refine sf (stam_state hS (id := v.sp.bt) h.w.txs) ?_;simp
   by_cases c4 : (stateF k.l v.sp.bt).st = 1 ∨ (stateF k.l v.sp.bt).st = 2
   ·rcases c4 with c4 | c4
    all_goals
     simp [c4];refine sf (stam_never hS (t := v.sp.et) (a := v.sp.ea)) ?_;simp;have e : takenW k r.id r.bg v = (decide (v.sp.et = 0) && decide (v.sp.ea = 0) || !decide (v.sp.et = 0)) := (by simp [takenW, neverF, c, c2, c4]);rw [e]
     by_cases c3 : v.sp.et = 0
     ·have c3' : (v.sp.et = 0) = True := eq_true c3
      by_cases c5 : v.sp.ea = 0
      ·have c5' : (v.sp.ea = 0) = True := eq_true c5;simp [c3', c5'];refine sem_ret ?_;simp [M404];exact .le sR (D.le_refl _) (by simp)
      ·simp [c3', c5];refine sem_ret ?_;simp [M404];exact .le sR (D.le_refl _) (by simp)
     ·simp [c3];refine sem_ret ?_;simp [M404];exact .le sR (D.le_refl _) (by simp)
   ·rw [not_or] at c4;have e : takenW k r.id r.bg v = false := (by simp [takenW, c, c2, c4]);rw [e];simp [c4];refine sem_ret ?_;simp [M404];exact .le sR (D.le_refl _) (by simp)
theorem grow_nil (L : HWork p ext F) : FnD p ext (F 408) [.lit .nilslice, .lit (.int .i64 0)] (.lit .nilslice) := by
 refine fn_of L.h408 (M := M408) rfl ok408 rfl fun H => sem_run 9000 _ ?_;simp;have w0 : wr .i64 0 = 0 := (by decide);simp [caps_nil, w0];refine sem_ret ?_;simp [M408];exact .le sR (D.le_refl _) (by simp)
def CcI (H : HpD) (m : Md) (w : Nat) (fr : FrD) (H' : HpD) : Prop :=
 ∃ i : Nat, w = 2 - i ∧ i ≤ 2 ∧ fr = [(0, .row 1 m [[.lit .nilslice], [.lit .nilslice]]), (3, .lit (.int .i64 0)), (9, .row 1 m [[.lit .nilslice], [.lit .nilslice]]), (10, .lit (.int .i64 2)), (11, .lit (.int .i64 (i : Int)))] ∧ H' = H
def CcJ (H : HpD) (m : Md) (w : Nat) (fr : FrD) (H' : HpD) : Prop :=
 ∃ i : Nat, w = 2 - i ∧ i ≤ 2 ∧ fr = [(6, .lit .nilslice), (25, .row 1 m [[.lit .nilslice], [.lit .nilslice]]), (26, .lit (.int .i64 2)), (27, .lit (.int .i64 (i : Int)))] ∧ H' = H
theorem concat_nil (L : HWork p ext F) {m : Md} : FnD p ext (F 400) [.row 1 m [[.lit .nilslice], [.lit .nilslice]]] (.lit .nilslice) := by
 refine fn_of L.h400 (M := M400) rfl ok400 rfl fun H => sem_run 9000 _ ?_;simp;have w0 : wr .i64 0 = 0 := (by decide);have w1 : wr .i64 1 = 1 := (by decide);have w2 : wr .i64 2 = 2 := (by decide);refine sem_loop (CcI H m) ?_ (k := 2) ⟨0, rfl, by omega, rfl, rfl⟩;rintro w fr H' ⟨i, rfl, hi, rfl, rfl⟩;refine sem_run 9000 _ ?_;simp;rcases (by omega : i = 0 ∨ i = 1 ∨ i = 2) with rfl | rfl | rfl
 ·simp [w0];refine sem_ok ?_;exact ⟨1, by omega, 1, rfl, by omega, by simp [w1], rfl⟩
 ·simp [w0];refine sem_ok ?_;simp;exact ⟨2, rfl, by omega, by simp [w2], rfl⟩
 ·simp;refine sem_exit (sem_run 9000 _ ?_);simp;refine sf (grow_nil L) ?_;simp;refine sem_loop (CcJ H' m) ?_ (k := 2) ⟨0, rfl, by omega, rfl, rfl⟩;rintro w fr H2 ⟨i, rfl, hi, rfl, rfl⟩;refine sem_run 9000 _ ?_;simp;rcases (by omega : i = 0 ∨ i = 1 ∨ i = 2) with rfl | rfl | rfl
  ·simp;refine sem_ok ?_;exact ⟨1, by omega, 1, rfl, by omega, by simp [w1], rfl⟩
  ·simp;refine sem_ok ?_;simp;exact ⟨2, rfl, by omega, by simp [w2], rfl⟩
  ·simp;refine sem_exit (sem_run 9000 _ ?_);simp;refine sem_ret ?_;simp [M400];exact .le sR (D.le_refl _) (by simp)
theorem values_wc (L : HWork p ext F) {H : HpD} : WcD p ext (F 401) [.lit .nilslice] H fun d H' => d = .func (F 409) [] [.ptr H.next 0] ∧ H' = H.new (.cells [.lit .nilslice] false) := by
 refine wc_of L.h401 (M := M401) rfl ok401 rfl (sem_run 2 _ ?_);simp;refine sem_unfz (sem_run 9000 _ ?_);simp;refine sem_ret ?_;simp [M401]
theorem work_hangs (L : HWork p ext F) (h : Wk H bt bd bm bb br sb rs ds t k r) : Td p ext (F 390) [.ptr br 0, .lit .nilslice] H (.lit (.bool true)) H := by
 refine td_of L.h390 (M := M390) rfl ok390 rfl (Nat.le_refl _) (fun h => h) (sem_run 9000 _ ?_);simp [h.f];refine sf (concat_nil L (m := .c)) ?_;simp;refine sem_call (values_wc L) ?_;rintro d H' ⟨rfl, rfl⟩;refine sem_run 9000 _ ?_;simp;refine sem_call (L.x334 (by simp)) ?_;rintro d H' ⟨rfl, rfl⟩;refine sem_run 9000 _ ?_;simp;refine sf (compact_nil L.rows.view.stam) ?_;simp [h.f];refine sem_ret ?_;simp [M390];rw [put_same (H := H.new (.cells [.lit .nilslice] false)) (by have := h.r.lt; rw [new_blk, if_neg (by omega)]; exact h.f.1)];exact .le sR (D.le_refl _) (by simp)
theorem pr_splice {q : Pr} {a d : D} : spliceD (q.c ++ [a]) 8 [d] = q.c ++ [d] := by cases q; rfl
theorem pr_nine {q : Pr} {d : D} : (q.c ++ [d]).length = 9 := by cases q; rfl
theorem pr_drop9 {q : Pr} {d a0 a1 a2 a3 a4 a5 a6 a7 a8 : D} : List.drop (q.c ++ [d]).length [a0, a1, a2, a3, a4, a5, a6, a7, a8] = [] := by cases q; rfl
theorem pr_flats9 {q : Pr} {l : List Int} : flatsD (q.c ++ [intsD .p l]) = true := by cases q; rfl
theorem pr_take9 {q : Pr} {d : D} : ((q.c ++ [d]).drop 0).take 9 = q.c ++ [d] := by cases q; rfl
theorem OwnS.gr {sz : Nat} {s : D} {el : List (List D)} (h : OwnS H sz s el) (hl : ∀ e, e ∈ el → e.length = sz) : Gr H00 H sz s el := by
 refine ⟨sub00, hl, ?_⟩;rcases h with h | ⟨b, ex, e, h1, h2⟩
 ·exact .inl h
 ·exact .inr ⟨b, ex, el, e, Nat.zero_le _, h1, h2, D.less_refl _⟩
theorem rdE_9 {l : List (Pr × List Int)} : ∀ e, e ∈ rdE l → e.length = 9 := by
 intro e he; simp only [rdE, List.mem_map] at he; obtain ⟨x, _, rfl⟩ := he; exact pr_nine
theorem rdE_len {l : List (Pr × List Int)} : (rdE l).length = l.length := by simp [rdE]
abbrev seenW (t : Tb) (k : Bk) (r : Rn) (q : Pr) : List Ver := visF t.l q fun s => seesF k.l s r.id r.bg true
abbrev baseW (t : Tb) (k : Bk) (r : Rn) (q : Pr) : List Int := (visF t.l q fun s => seesF k.l s r.id r.bg false).map (·.id)
def Rn.read (r : Rn) (q : Pr) (ids : List Int) : Rn := ⟨r.ops, r.at_, r.i, r.id, r.bg, r.tm, r.res, r.rds ++ [(q, ids)], r.err⟩
def AskX (br : Nat) (s : D) (x : Nat) : Prop := x = br ∨ s.hasB x
theorem work_asked (L : HWork p ext F) {n : Nat} {q : Pr} (h : Wk H bt bd bm bb br sb rs ds t k r) (hq : PrS n q) (hc : Calm k.l r.id) (hs : SrtV (seenW t k r q)) (hn : (seenW t k r q).length < 20) (hl : r.rds.length < 1000) : WcD p ext (F 394) [.ptr br 0, .agg q.c] H (fun d H' => ∃ ds', d = .tup [.row 6 .p (versE (seenW t k r q)), .lit (.int .i64 0)] ∧ Wk H' bt bd bm bb br sb rs ds' t k (r.read q (baseW t k r q)) ∧ Wr H H' (AskX br ds) ∧ (∀ x, ds'.hasB x → H.next ≤ x)) := by
 refine wc_of L.h394 (M := M394) rfl ok394 rfl (sem_run 9000 _ ?_);simp [h.f];refine sem_dcall (view_rows L.rows h.w hq hc hs hn) ?_;rintro _ H1 ⟨s, rfl, g1⟩;refine sem_run 7 _ ?_;simp;refine sem_turn_as [(0, .ptr br 0), (3, .rptr q.c 0), (6, .row 6 .p (versE (seenW t k r q))), (7, .lit .nilslice)] g1 6 (by simp) (by simp [frLe_cons, frLe_nil, lk, D.le_refl]) fun H2 s2 k2 n2 => ?_;have h2 := h.mono s2;refine sem_run 9000 _ ?_;simp [h2.f];refine sem_dcall (view_base L.rows.view h2.w hq hc (at_ := r.bg)) ?_;rintro _ H3 ⟨s', rfl, g3⟩;refine sem_run 7 _ ?_;simp;refine sem_turn_as [(0, .ptr br 0), (3, .rptr q.c 0), (6, .row 6 .p (versE (seenW t k r q))), (7, .lit .nilslice), (8, intsD .p (baseW t k r q))] g3 8 (by simp) (by simp [frLe_cons, frLe_nil, lk, D.le_refl, ints_row]) fun H4 s4 k4 n4 => ?_
 have h4 := h2.mono s4;refine sem_run 9000 _ ?_;simp [h4.f];simp only [pr_splice, pr_nine, if_true];simp only [bsliceD];simp [pr_flats9];rw [appendD_slice1 (b := H4.next) (cs := q.c ++ [intsD .p (baseW t k r q)]) (ro := false) (by simp) (by rw [pr_nine]; omega), pr_take9];refine sem_push ((h4.r.rds.gr rdE_9).mono sR) pr_nine pr_flats9 (roomyD (by rw [rdE_len]; omega) (by rw [rdE_len]; omega)) fun s' H5 g5 k5 n5 => ?_;obtain ⟨n5, rfl⟩ := n5;have hfar := h4.far (x := br)
 have hb5 : H5.blk br = .cells [.ptr bt 0, .ptr bb 0, opsD r.ops, .lit (.int .i64 r.at_), .lit (.int .i64 r.i), .lit (.int .i64 r.id), .lit (.int .i64 r.bg), .lit (.int .i64 r.tm), rs, ds, .lit .nilslice, .lit (.int .i64 r.err)] false := by
  rw [k5 br (by simp; have := h4.r.lt; omega) (fun e => (hfar (.inr (.inl e))).2.2.2.2 rfl), new_blk, if_neg (by have := h4.r.lt; omega)];exact h4.f.1
 simp [hb5];have hn5 : H4.next + 1 ≤ H5.next := (by simpa using n5);have hlt := h4.r.lt;generalize hcs : BD.cells _ false = cs
 have hcs' : cs = .cells ((r.read q (baseW t k r q)).c bt bb rs (.slice (H4.next + 1) 0 9 ((rdE r.rds).length + 1) ((rdE r.rds).length + 1) false)) false := by rw [← hcs]; rfl
 have g6 : Gr H00 (H5.put br cs) 9 (.slice (H4.next + 1) 0 9 ((rdE r.rds).length + 1) ((rdE r.rds).length + 1) false) (rdE (r.read q (baseW t k r q)).rds) := by
  have := g5.keep (H1 := H5.put br cs) sub00 (by simp) fun x hx => by
   simp only [D.hasB, Dv.new_next] at hx;rw [put_blk, if_neg (by omega)]
  simpa [rdE, Rn.read] using this
 obtain ⟨H6, w6, x6, k6, n6⟩ := g6.exact;simp at n6;refine sem_weak_call (w6 _ _) ?_
 have hX : ∀ x, x < H4.next → x ≠ br → ¬ ds.hasB x → H6.blk x = H4.blk x := fun x hx h1 h2 => by
  rw [k6 x (by simp only [D.hasB]; omega), put_blk, if_neg h1, k5 x (by simp; omega) h2, new_blk, if_neg (by omega)]
 have h6 : Wk H6 bt bd bm bb br sb rs (.slice (H4.next + 1) 0 9 ((rdE r.rds).length + 1) ((rdE r.rds).length + 1) false) t k (r.read q (baseW t k r q)) := by
  refine h4.turn (by omega) (fun x hx h1 _ h2 => hX x hx h1 h2) ?_ (h4.r.res.keep (by omega) fun x hx => hX x (h4.r.res.lt hx).1 (h4.far (.inl hx)).2.2.2.2 (h4.sep.1 x hx).1) ?_ (fun x hx => .inl hx) (fun x hx => ?_) (fun x hx => ?_)
  ·rw [k6 br (by simp only [D.hasB]; omega), put_blk, if_pos rfl]; exact hcs'
  ·rcases x6.at_ with ⟨e, _⟩ | ⟨bl, ex, e, h1, h2, h3⟩
   ·cases e
   ·exact .inr ⟨bl, ex, e, h2, h3⟩
  ·simp only [D.hasB] at hx; exact .inr (by omega)
  ·have := (h4.r.res.lt hx).1;simp only [D.hasB]; omega
 refine sem_td (work_hangs L h6) (by first | exact D.les_refl _ | simp) (sem_run 9000 _ ?_);simp;refine sem_ret ?_;simp [M394];have n24 := s2.next;have n44 := s4.next;refine ⟨_, h6, ⟨by omega, fun x hx hX2 => ?_⟩, fun x hx => ?_⟩
 ·simp only [AskX, not_or] at hX2;rw [hX x (by omega) hX2.1 hX2.2, s4.blk x (by omega), s2.blk x hx]
 ·simp only [D.hasB] at hx; omega
end
end Go.Lib
end

section
set_option maxRecDepth 10000
namespace Go.Lib
open Go.Vm Go.Dv
variable {p : Prog} {ext : Ext} {F : Nat → Nat}
section
variable {H : HpD} {bt bd bm bb br : Nat} {sb rs ds : D} {t : Tb} {k : Bk} {r : Rn}
theorem sub_putT {H H' : HpD} {t1 t2 : Tb} (h : Sub (putT H bt bd bm t1) H') (_ht : bt < H.next) (_hm : bm < H.next) : Sub (putT H bt bd bm t2) (putT H' bt bd bm t2) := by
 refine ⟨by simpa using h.next, fun c hc => ?_⟩;have hb := h.blk c (by simpa using hc);unfold putT at hb ⊢;simp only [put_blk] at hb ⊢
 by_cases e1 : c = bt
 ·simp [e1]
 ·by_cases e2 : c = bm
  ·simp [e2]
  ·simp only [e1, e2, if_false] at hb ⊢; exact hb
def resW (c : Int) (n : Nat) : Rs := if c = 0 then ⟨0, n, []⟩ else ⟨c, 0, []⟩
structure HWork2 (p : Prog) (ext : Ext) (F : Nat → Nat) : Prop where
 work : HWork p ext F
 h393 : Has p ext F 393 M393
 h387 : Has p ext F 387 M387
def versD (l : List Ver) : D := .row 6 .p (versE l)
theorem lenb_vers {l : List Ver} : lenbD (versD l) = some (.lit (.int .i64 (l.length : Int))) := by simp [versD]
theorem at_vers {l : List Ver} {n : Nat} : atO 6 (versD l) (some n) = elemD (l[n]?.map Ver.c) := by simp [versD, versE]
theorem cellsD_vers {l : List Ver} : cellsD (versD l) = some [versD l] := rfl
theorem flatD_vers {l : List Ver} : flatD (versD l) = true := rfl
attribute [simp] lenb_vers at_vers cellsD_vers flatD_vers
def keyQ (row : Row) : Pr := .mk 2 0 1 (atV row 0) []
abbrev keysW (t : Tb) (n : Int) : List Int := pkF t.l fun r => decide (evalF (keyP n) r = 1)
def tknW (t : Tb) (k : Bk) (r : Rn) (row : Row) : Bool := (keysW t (atV row 0).n).any fun id => takenW k r.id r.bg ((findV t.l id).getD zVer)
def insW (t : Tb) (k : Bk) (r : Rn) (row : Row) : Tb × Int :=
 if seenW t k r (keyQ row) ≠ [] then (t, 1) else if tknW t k r row = true then (t, 5) else addW t row r.id
def TurnX (bt bm br : Nat) (s : D) (x : Nat) : Prop := AskX br s x ∨ x = bt ∨ x = bm
theorem Wr.trans {A B C : HpD} {X : Nat → Prop} (h1 : Wr A B X) (h2 : Sub B C) : Wr A C X := ⟨Nat.le_trans h1.next h2.next, fun b hb hx => by rw [h2.blk b (Nat.lt_of_lt_of_le hb h1.next), h1.blk b hb hx]⟩
def InsW (H : HpD) (p4 br : Nat) (od : D) (l : List Tx) (f : Int → Bool) (ids : List Int) (w : Nat) (fr : FrD) (H' : HpD) : Prop :=
 ∃ i : Nat, w = ids.length - i ∧ i ≤ ids.length ∧ fr = [(0, .ptr br 0), (3, od), (4, .ptr p4 0), (8, txsD l), (45, intsD .p ids), (46, .lit (.int .i64 (ids.length : Int))), (47, .lit (.int .i64 (i : Int)))] ∧ Sub H H' ∧ (ids.take i).any f = false
theorem WcD.told {f : Nat} {args : List D} {H : HpD} {x : D} {P : HpD → Prop} (hw : WcD p ext f args H fun d H' => D.le d x ∧ P H') : WcD p ext f args H fun d H' => d = x ∧ P H' := by
 intro ψ S h vs s k;refine (hw ψ S h vs s k).mono fun v h' ⟨ψ', S', d, H2, a, b, c, e, e2⟩ => ⟨ψ', S', x, H2, a, b, VD.le _ _ e c, rfl, e2⟩
def OpP (H : HpD) (bt bd bm bb br : Nat) (sb rs ds : D) (t' : Tb) (k : Bk) (r' : Rn) (H' : HpD) : Prop :=
 ∃ ds', Wk H' bt bd bm bb br sb rs ds' t' k r' ∧ Wr H H' (TurnX bt bm br ds) ∧ ∀ x, ds'.hasB x → H.next ≤ x
theorem Wk.keep {H' : HpD} (h : Wk H bt bd bm bb br sb rs ds t k r) (hn : H.next ≤ H'.next) (hk : ∀ x, (x = bt ∨ x = bd ∨ x = bm ∨ x = bb ∨ x = br ∨ rs.hasB x ∨ ds.hasB x ∨ sb.hasB x) → H'.blk x = H.blk x) : Wk H' bt bd bm bb br sb rs ds t k r := by
 have hT := h.w.tb;refine ⟨⟨⟨?_, Nat.lt_of_lt_of_le hT.lt hn, ⟨?_, ?_, Nat.lt_of_lt_of_le hT.sto.ld hn, Nat.lt_of_lt_of_le hT.sto.lm hn⟩⟩, .of ?_ (Nat.lt_of_lt_of_le h.w.b.lt hn) (h.w.b.own.keep hn fun x hx => hk x (by simp [hx])), h.w.ids, h.w.txs⟩, ⟨?_, Nat.lt_of_lt_of_le h.r.lt hn, h.r.res.keep hn fun x hx => hk x (by simp [hx]), h.r.rds.keep hn fun x hx => hk x (by simp [hx])⟩, h.sep⟩
 ·rw [hk bt (by simp)]; exact hT.tb
 ·rw [hk bd (by simp)]; exact hT.sto.d
 ·rw [hk bm (by simp)]; exact hT.sto.m
 ·rw [hk bb (by simp)]; exact h.w.b.b
 ·rw [hk br (by simp)]; exact h.r.blk
theorem opP_of {H5 : HpD} {ds' : D} {t' : Tb} {r' : Rn} (h : Wk H bt bd bm bb br sb rs ds t k r) (h2 : Wk H5 bt bd bm bb br sb rs ds' t' k r') (w : Wr H H5 (TurnX bt bm br ds)) (f : ∀ x, ds'.hasB x → H.next ≤ x) {p4 : Nat} (hp : H.next ≤ p4) (hp2 : ¬ ds'.hasB p4) {c : BD} : OpP H bt bd bm bb br sb rs ds t' k r' (H5.put p4 c) := by
 refine ⟨ds', h2.keep (by simp) fun x hx => ?_, ⟨by simpa using w.next, fun x hx hX => ?_⟩, f⟩
 ·rw [put_blk, if_neg];rintro rfl;have a1 := h.w.tb.lt;have a2 := h.w.tb.sto.ld;have a3 := h.w.tb.sto.lm;have a4 := h.w.b.lt;have a5 := h.r.lt;rcases hx with e | e | e | e | e | e | e | e
  ·omega
  ·omega
  ·omega
  ·omega
  ·omega
  ·have := (h.r.res.lt e).1; omega
  ·exact hp2 e
  ·have := (h.w.b.own.lt e).1; omega
 ·rw [put_blk, if_neg (by omega), w.blk x hx hX]
theorem addW_most {t : Tb} {row : Row} {id : Int} : (addW t row id).1.dmost = t.dmost := by
 unfold addW; split <;> rfl
theorem Wr.putT {A B : HpD} {X : Nat → Prop} (h : Wr A B X) (hX : ∀ x, x = bt ∨ x = bm → X x) {t' : Tb} : Wr A (putT B bt bd bm t') X :=
 ⟨by simpa using h.next, fun x hx hn => by rw [putT_far ⟨fun e => hn (hX x (.inl e)), fun e => hn (hX x (.inr e))⟩, h.blk x hx hn]⟩
theorem read_id {q : Pr} {l : List Int} : (r.read q l).id = r.id := rfl
theorem read_bg {q : Pr} {l : List Int} : (r.read q l).bg = r.bg := rfl
attribute [simp] read_id read_bg
theorem work_insert0 (L : HWork2 p ext F) {o : Op} (h : Wk H bt bd bm bb br sb rs ds t k r) (ht : TOk t) (ht2 : TOk (addW t o.row r.id).1) (hr : o.row.length < 1000000) (hc : Calm k.l r.id) (hs : SrtV (seenW t k r (keyQ o.row))) (hn : (seenW t k r (keyQ o.row)).length < 20) (hl : r.rds.length < 1000) : WcD p ext (F 393) [.ptr br 0, .agg o.c] H (fun d H' => D.le d (.agg (resW (insW t k r o.row).2 1).c) ∧ OpP H bt bd bm bb br sb rs ds (insW t k r o.row).1 k (r.read (keyQ o.row) (baseW t k r (keyQ o.row))) H') := by
 refine wc_of L.h393 (M := M393) rfl ok393 rfl (sem_run 9000 _ ?_);simp;have S := L.work.rows.schm;have hq : PrS 1 (keyQ o.row) := ⟨by simp [keyQ, Pr.l], by simp [keyQ, Pr.l]⟩;refine sf (schm_at S (r := o.row) (c := 0)) ?_;simp;generalize hH1 : HpD.put _ _ _ = H1;have s1 : Sub H H1 := (by rw [← hH1]; exact sW);have b4 : H1.blk H.next = .cells [.lit (.int .i64 0), .lit (.int .i64 0), .lit .nilslice] false := (by rw [← hH1]; simp);have b5 : H1.blk (H.next + 1) = .cells (atV o.row 0).c false := (by rw [← hH1]; simp);have h1 := h.mono s1;have n1 : H1.next = H.next + 1 + 1 := (by rw [← hH1]; simp)
 clear hH1;refine sem_call (WcD.args (work_asked L.work h1 hq hc hs hn hl) (by simp [D.les, D.le, pr_c, keyQ, Pr.kind, Pr.col, Pr.op, Pr.v, Pr.l, prsD, Vl.c, D.le_refl])) ?_;rintro _ H2 ⟨ds', rfl, h2, w2, f2⟩;have hlt := h.r.lt
 have hdf : ∀ x, H.next ≤ x → ¬ AskX br ds x := fun x hx hX => by
  rcases hX with rfl | e
  ·omega
  ·have := (h.r.rds.lt e).1; omega
 have b4' := w2.blk H.next (by omega) (hdf _ (by omega));rw [b4] at b4';have b5' := w2.blk (H.next + 1) (by omega) (hdf _ (by omega));rw [b5] at b5';have n2 := w2.next;have w12 : Wr H H2 (AskX br ds) := ⟨by omega, fun x hx hX => by rw [w2.blk x (by omega) hX, s1.blk x hx]⟩;have f2' : ∀ x, ds'.hasB x → H.next ≤ x := fun x hx => (by have := f2 x hx; omega);have f24 : ¬ ds'.hasB H.next := fun e => (by have := f2 _ e; omega);have wT : Wr H H2 (TurnX bt bm br ds) := ⟨w12.next, fun x hx hX => w12.blk x hx fun e => hX (.inl e)⟩
 by_cases c1 : seenW t k r (keyQ o.row) = []
 ·have c1' : (seenW t k r (keyQ o.row)).length = 0 := (by rw [c1]; rfl);refine sem_run 9000 _ ?_;simp [c1, h2.f];refine sem_td (txns_all L.work.rows.view.txns h2.w.b h2.w.txs) (by first | exact D.les_refl _ | simp) (sem_run 9000 _ ?_);simp [h2.f, b5'];refine ⟨by omega, ?_⟩;refine sem_dcall (tabl_keys L.work.rows.view.pick h2.w.tb h2.w.ids (k := (atV o.row 0).n)) fun d3 H3 g3 => ?_;have e3 := g3.lenb;simp only [intsE_len] at e3;refine sem_run 9000 _ ?_;simp [e3];refine sem_turn_as [(0, .ptr br 0), (3, .rptr o.c 0), (4, .ptr H.next 0), (8, txsD k.l), (45, intsD .p (keysW t (atV o.row 0).n)), (46, .lit (.int .i64 ((keysW t (atV o.row 0).n).length : Int))), (47, .lit (.int .i64 0))] g3 45 (by simp) (by simp [frLe_cons, frLe_nil, lk, ints_row, D.le_refl]) fun H4 s4 k4 n4 => ?_
  have hlen : (keysW t (atV o.row 0).n).length ≤ 1000000 := by
   unfold keysW pkF;refine Nat.le_trans (List.length_filter_le _ _) ?_;rw [idsF_len]; exact h.w.ids.2
  have hids : ∀ id, id ∈ keysW t (atV o.row 0).n → id ∈ idsF t.l := fun id hm => (List.mem_filter.1 hm).1;have ht0 : tknW t k r o.row = (keysW t (atV o.row 0).n).any fun id => takenW k r.id r.bg ((findV t.l id).getD zVer) := rfl;generalize keysW t (atV o.row 0).n = ids at hlen hids ht0;refine sem_loop (InsW H2 H.next br (.rptr o.c 0) k.l (fun id => takenW k r.id r.bg ((findV t.l id).getD zVer)) ids) ?_ (k := ids.length) ⟨0, by simp, by simp, rfl, s4, by simp⟩;rintro w fr H5 ⟨i, rfl, hi, rfl, s5, ha⟩;have h5 := h2.mono s5;have b45 := s5.blk H.next (by omega);rw [b4'] at b45;have n5 := s5.next
  have hw : wr .i64 ((i : Int) + 1) = ((i + 1 : Nat) : Int) := by rw [wr_of] <;> omega
  by_cases c : i < ids.length
  ·obtain ⟨id, hid⟩ : ∃ id, ids[i]? = some id := ⟨_, List.getElem?_eq_getElem c⟩;obtain ⟨v, hv⟩ := Option.isSome_iff_exists.1 (findV_mem (hids id (List.mem_of_getElem? hid)));have hid' : ids[i] = id := (List.getElem?_eq_some_iff.1 hid).2;refine sem_run 9000 _ ?_;simp [c, hid', h5.f];refine sem_td (tabl_get L.work.rows.view.pick.tabl h5.w.tb (id := id)) (by first | exact D.les_refl _ | simp) (sem_run 9000 _ ?_);simp [hv];refine sem_td (work_taken L.work (h5.mono sR) (v := v)) (by first | exact D.les_refl _ | simp) (sem_run 9000 _ ?_);simp
   by_cases ct : takenW k r.id r.bg v = true
   ·have e : insW t k r o.row = (t, 5) := by
     have : tknW t k r o.row = true := by
      rw [ht0, List.any_eq_true];exact ⟨id, List.mem_of_getElem? hid, by simpa [hv] using ct⟩
     unfold insW; rw [if_neg (by simp [c1]), if_pos this]
    simp only [e];simp [ct, b45, ltn (show H.next < H5.next by omega)];refine sem_ret ?_;simp;refine sem_ret ?_;simp [M393];refine ⟨by simp [resW, Rs.c, D.le, D.les, rowsD, rowsE], opP_of h (h5.mono sR) ?_ f2' (Nat.le_refl _) f24⟩;exact (wT.trans s5).trans sR
   ·simp [ct];refine sem_ok ?_;refine ⟨_, by omega, i + 1, rfl, by omega, by rw [hw], s5.trans sR, ?_⟩;rw [List.take_add_one, hid, List.any_append, ha];simpa [hv] using ct
  ·have : i = ids.length := (by omega);subst this;refine sem_run 9000 _ ?_;simp;refine sem_exit (sem_run 9000 _ ?_);rw [List.take_length] at ha;have e : insW t k r o.row = addW t o.row r.id := (by unfold insW; rw [if_neg (by simp [c1]), if_neg (by rw [ht0, ha]; simp)]);simp only [e];simp;refine sem_td (work_add L.work h5 ht hr) (by first | exact D.les_refl _ | simp) (sem_run 9000 _ ?_);simp;have hT := h.w.tb
   have b46 : (putT H5 bt bd bm (addW t o.row r.id).1).blk H.next = .cells [.lit (.int .i64 0), .lit (.int .i64 0), .lit .nilslice] false := by
    rw [putT_far ⟨by have := hT.lt; omega, by have := hT.sto.lm; omega⟩]; exact b45
   have h6 := h5.putT addW_most ht2;have w6 : Wr H (putT H5 bt bd bm (addW t o.row r.id).1) (TurnX bt bm br ds) := (wT.trans s5).putT fun x e => .inr e;rcases addW_code (t := t) (row := o.row) (id := r.id) with e0 | e0
   all_goals
    simp [e0, b46];refine sem_ret ?_;simp [M393];exact ⟨by simp [resW, Rs.c, D.le, D.les, rowsD, rowsE], opP_of h h6 w6 f2' (Nat.le_refl _) f24⟩
 ·have c1' : 0 < (seenW t k r (keyQ o.row)).length := List.length_pos_iff.2 c1;have e : insW t k r o.row = (t, 1) := (by unfold insW; rw [if_pos c1]);simp only [e];refine sem_run 9000 _ ?_;simp [c1', b4'];refine sem_ret ?_;simp [M393];exact ⟨by simp [resW, Rs.c, D.le, D.les, rowsD, rowsE], opP_of h h2 wT f2' (Nat.le_refl _) f24⟩
theorem work_insert (L : HWork2 p ext F) {o : Op} (h : Wk H bt bd bm bb br sb rs ds t k r) (ht : TOk t) (ht2 : TOk (addW t o.row r.id).1) (hr : o.row.length < 1000000) (hc : Calm k.l r.id) (hs : SrtV (seenW t k r (keyQ o.row))) (hn : (seenW t k r (keyQ o.row)).length < 20) (hl : r.rds.length < 1000) : WcD p ext (F 393) [.ptr br 0, .agg o.c] H fun d H' => d = .agg (resW (insW t k r o.row).2 1).c ∧ OpP H bt bd bm bb br sb rs ds (insW t k r o.row).1 k (r.read (keyQ o.row) (baseW t k r (keyQ o.row))) H' :=
 WcD.told (work_insert0 L h ht ht2 hr hc hs hn hl)
end
end Go.Lib
end

section
set_option maxRecDepth 10000
namespace Go.Lib
open Go.Vm Go.Dv
variable {p : Prog} {ext : Ext} {F : Nat → Nat}
section
variable {H : HpD} {bt bd bm bb br : Nat} {sb rs ds : D} {t : Tb} {k : Bk} {r : Rn}
end
end Go.Lib
end

section
set_option maxRecDepth 10000
namespace Go.Lib
open Go.Vm Go.Dv
variable {p : Prog} {ext : Ext} {F : Nat → Nat}
section
variable {H : HpD} {bt bd bm bb br : Nat} {sb rs ds : D} {t : Tb} {k : Bk} {r : Rn}
theorem rs_c {x : Rs} : x.c = [.lit (.int .i64 x.err), .lit (.int .i64 x.n), rowsD x.rows] := rfl
theorem Wr.sub {A B C : HpD} {X : Nat → Prop} (h1 : Sub A B) (h2 : Wr B C X) : Wr A C X := ⟨Nat.le_trans h1.next h2.next, fun b hb hx => by rw [h2.blk b (Nat.lt_of_lt_of_le hb h1.next) hx, h1.blk b hb]⟩
theorem OpP.res {H1 H2 : HpD} {t' : Tb} {r' : Rn} (h : Wk H bt bd bm bb br sb rs ds t k r) (s1 : Sub H H1) (o : OpP H1 bt bd bm bb br sb rs ds t' k r' H2) {p4 : Nat} (h4 : H.next ≤ p4) (h5 : p4 < H1.next) {c : BD} : OpP H bt bd bm bb br sb rs ds t' k r' (H2.put p4 c) := by
 obtain ⟨ds', h2, w, f⟩ := o;have n1 := s1.next;exact opP_of h h2 (Wr.sub s1 w) (fun x hx => by have := f x hx; omega) h4 (fun e => by have := f _ e; omega)
theorem OpP.at {H1 H2 : HpD} {t' : Tb} {r' : Rn} (h : Wk H bt bd bm bb br sb rs ds t k r) (o : OpP H1 bt bd bm bb br sb rs ds t' k r' H2) {p4 : Nat} (h4 : H.next ≤ p4) (h5 : p4 < H1.next) : H2.blk p4 = H1.blk p4 ∧ p4 < H2.next := by
 obtain ⟨ds', h2, w, f⟩ := o;have hT := h.w.tb;have a1 := hT.lt;have a3 := hT.sto.lm;have a5 := h.r.lt;have n1 := w.next;refine ⟨w.blk p4 h5 fun hX => ?_, by omega⟩;rcases hX with (rfl | e) | rfl | rfl
 ·omega
 ·have := (h.r.rds.lt e).1; omega
 ·omega
 ·omega
theorem OpP.turn {H2 : HpD} {t0 t' : Tb} {r' : Rn} (o : OpP H bt bd bm bb br sb rs ds t0 k r' H2) (hd : t'.dmost = t0.dmost) (ht : TOk t') : OpP H bt bd bm bb br sb rs ds t' k r' (putT H2 bt bd bm t') := by
 obtain ⟨ds', h2, w, f⟩ := o;exact ⟨ds', h2.putT hd ht, w.putT fun x e => .inr e, f⟩
theorem work_do_ins (L : HWork2 p ext F) {o : Op} (hk : o.kind = 1) (h : Wk H bt bd bm bb br sb rs ds t k r) (ht : TOk t) (ht2 : TOk (addW t o.row r.id).1) (hr : o.row.length < 1000000) (hc : Calm k.l r.id) (hs : SrtV (seenW t k r (keyQ o.row))) (hn : (seenW t k r (keyQ o.row)).length < 20) (hl : r.rds.length < 1000) : WcD p ext (F 387) [.ptr br 0, .agg o.c] H (fun d H' => d = .agg (resW (insW t k r o.row).2 1).c ∧ OpP H bt bd bm bb br sb rs ds (insW t k r o.row).1 k (r.read (keyQ o.row) (baseW t k r (keyQ o.row))) H') := by
 refine wc_of L.h387 (M := M387) rfl ok387 rfl (sem_run 9000 _ ?_);simp [hk];generalize hH1 : HpD.new _ _ = H1;have b4 : H1.blk H.next = .cells [.lit (.int .i64 0), .lit (.int .i64 0), .lit .nilslice] false := (by rw [← hH1]; simp);have s1 : Sub H H1 := (by rw [← hH1]; exact sW);have n1 : H1.next = H.next + 1 := (by rw [← hH1]; simp);clear hH1;refine sem_call (work_insert L (h.mono s1) ht ht2 hr hc hs hn hl) ?_;rintro _ H2 ⟨rfl, o2⟩;have b5 := o2.at h (Nat.le_refl _) (by omega);rw [b4] at b5;refine sem_run 9000 _ ?_;simp [b5.1, rs_c];refine sem_ret ?_;simp [M387];exact o2.res h s1 (Nat.le_refl _) (by omega)
end
end Go.Lib
end

section
set_option maxRecDepth 10000
namespace Go.Lib
open Go.Vm Go.Dv
variable {p : Prog} {ext : Ext} {F : Nat → Nat}
section
variable {H : HpD} {bt bd bm bb br : Nat} {sb rs ds : D} {t : Tb} {k : Bk} {r : Rn}
structure HWork3 (p : Prog) (ext : Ext) (F : Nat → Nat) : Prop where
 w2 : HWork2 p ext F
 h373 : Has p ext F 373 M373
 h379 : Has p ext F 379 M379
 h380 : Has p ext F 380 M380
 h381 : Has p ext F 381 M381
 h382 : Has p ext F 382 M382
 h388 : Has p ext F 388 M388
 h389 : Has p ext F 389 M389
 h391 : Has p ext F 391 M391
 h398 : Has p ext F 398 M398
 h399 : Has p ext F 399 M399
 h402 : Has p ext F 402 M402
 h403 : Has p ext F 403 M403
def putR (H : HpD) (br bt bb : Nat) (rs ds : D) (r : Rn) : HpD := H.put br (.cells (r.c bt bb rs ds) false)
theorem Wk.putR {r' : Rn} (h : Wk H bt bd bm bb br sb rs ds t k r) (h1 : r'.res = r.res) (h2 : r'.rds = r.rds) : Wk (putR H br bt bb rs ds r') bt bd bm bb br sb rs ds t k r' := by
 have hk : ∀ x, x ≠ br → (Lib.putR H br bt bb rs ds r').blk x = H.blk x := fun x hx => (by unfold Lib.putR; rw [put_blk, if_neg hx]);refine h.turn (by simp [Lib.putR]) (fun x _ hx _ _ => hk x hx) (by simp [Lib.putR]) ?_ ?_ (fun x hx => .inl hx) (fun x hx => .inl hx) (fun x hx => (h.sep.1 x hx).1)
 ·rw [h1]; exact h.r.res.keep (by simp [Lib.putR]) fun x hx => hk x (h.far (.inl hx)).2.2.2.2
 ·rw [h2]; exact h.r.rds.keep (by simp [Lib.putR]) fun x hx => hk x (h.far (.inr (.inl hx))).2.2.2.2
theorem opW_unders {n : Nat} {o : Op} : D.unders n o.c := by
 have h1 : (sxsD o.sets).under n := underss_map (fun _ => sx_unders) _;have h2 : (agsD o.aggs).under n := underss_map (fun a => by simp [Ag.c]) _;rw [op_c];simp [h1, h2]
theorem opsW_under {n : Nat} {l : List Op} : (opsD l).under n := underss_map (fun _ => opW_unders) _
theorem putR_neat {r' : Rn} (h : Wk H bt bd bm bb br sb rs ds t k r) : Neat H → Neat (putR H br bt bb rs ds r') := fun n => by
 refine n.put h.r.lt ?_;have hu := n.under br;rw [h.r.blk] at hu;simp only [BD.under, Rn.c, D.unders] at hu ⊢;obtain ⟨u1, u2, _, u4, u5, u6, u7, u8, u9, u10, u11, u12, u13⟩ := hu;exact ⟨u1, u2, opsW_under, u4, u5, u6, u7, u8, u9, u10, u11, u12, u13⟩
def Rn.to (r : Rn) (st n : Int) : Rn := if n ≤ r.i then ⟨r.ops, st, 0, r.id, r.bg, r.tm, r.res, r.rds, r.err⟩ else r
theorem work_to (L : HWork3 p ext F) {st n : Int} (h : Wk H bt bd bm bb br sb rs ds t k r) : Td p ext (F 379) [.ptr br 0, .lit (.int .i64 st), .lit (.int .i64 n)] H (.lit (.int .i64 1)) (putR H br bt bb rs ds (r.to st n)) := by
 refine td_of L.h379 (M := M379) rfl ok379 rfl ?_ ?_ (sem_run 9000 _ ?_)
 ·simp [putR]
 ·exact putR_neat h
 simp [h.f]
 by_cases c : n ≤ r.i
 ·have e : r.to st n = ⟨r.ops, st, 0, r.id, r.bg, r.tm, r.res, r.rds, r.err⟩ := (by unfold Rn.to; rw [if_pos c]);rw [e];simp [c, h.f];refine sem_ret ?_;simp [M379];refine .le ?_ (D.le_refl _) (by simp);exact .refl
 ·have e : r.to st n = r := (by unfold Rn.to; rw [if_neg c]);rw [e];have e2 : putR H br bt bb rs ds r = H := put_same h.r.blk;rw [e2];simp [c];refine sem_ret ?_;simp [M379];exact .le .refl (D.le_refl _) (by simp)
def eachW (f : Tb → Ver → Tb) : Tb → List Int → Tb
 | t, [] => t
 | t, id :: l => eachW f (f t ((findV t.l id).getD zVer)) l
def EachOk (f : Tb → Ver → Tb) : Tb → List Int → Prop
 | _, [] => True
 | t, id :: l => (findV t.l id).isSome = true ∧ (f t ((findV t.l id).getD zVer)).dmost = t.dmost ∧ TOk (f t ((findV t.l id).getD zVer)) ∧ EachOk f (f t ((findV t.l id).getD zVer)) l
theorem eachW_most {f : Tb → Ver → Tb} : ∀ {l : List Int} {t : Tb}, EachOk f t l → (eachW f t l).dmost = t.dmost
 | [], t, _ => rfl
 | id :: l, t, h => by
  unfold EachOk at h;unfold eachW;rw [eachW_most h.2.2.2, h.2.1]
def EaI (H : HpD) (bt bd bm bb br : Nat) (sb rs ds : D) (t : Tb) (k : Bk) (r : Rn) (fv : D) (f : Tb → Ver → Tb) (ids : List Int) (w : Nat) (fr : FrD) (H' : HpD) : Prop :=
 ∃ (i : Nat) (t' : Tb), w = ids.length - i ∧ i ≤ ids.length ∧ fr = [(0, .ptr br 0), (1, fv), (12, intsD .p ids), (13, .lit (.int .i64 (ids.length : Int))), (14, .lit (.int .i64 (i : Int)))] ∧
  Sub (putT H bt bd bm t') H' ∧ Wk H' bt bd bm bb br sb rs ds t' k r ∧ eachW f t ids = eachW f t' (ids.drop i) ∧ EachOk f t' (ids.drop i)
theorem work_each (L : HWork3 p ext F) {g : Nat} {cap : List D} {f : Tb → Ver → Tb} (h : Wk H bt bd bm bb br sb rs ds t k r) (hg : ∀ (H' : HpD) (t' : Tb) (v : Ver), Wk H' bt bd bm bb br sb rs ds t' k r → Sub (putT H bt bd bm t') H' → Td p ext g (.agg v.c :: cap) H' (.tup []) (putT H' bt bd bm (f t' v))) (ho : EachOk f t (idsF t.l)) : Td p ext (F 399) [.ptr br 0, .func g [] cap] H (.tup []) (putT H bt bd bm (eachW f t (idsF t.l))) := by
 refine td_of L.h399 (M := M399) rfl ok399 rfl ?_ ?_ (sem_run 9000 _ ?_)
 ·simp
 ·exact putT_neat h.w.tb
 simp [h.f];have hT := h.w.tb;refine sem_call (tabl_ids L.w2.work.rows.view.pick h.w.tb h.w.ids) fun d1 H1 g1 => ?_;have e1 := g1.lenb;simp only [intsE_len] at e1;refine sem_run 9000 _ ?_;simp [e1];refine sem_turn_as [(0, .ptr br 0), (1, .func g [] cap), (12, intsD .p (idsF t.l)), (13, .lit (.int .i64 ((idsF t.l).length : Int))), (14, .lit (.int .i64 0))] g1 12 (by simp) (by simp [frLe_cons, frLe_nil, lk, ints_row, D.le_refl]) fun H2 s2 k2 n2 => ?_;have hlen : (idsF t.l).length ≤ 1000000 := (by rw [idsF_len]; exact h.w.ids.2);generalize idsF t.l = ids at ho hlen;refine sem_loop (EaI H bt bd bm bb br sb rs ds t k r (.func g [] cap) f ids) ?_ (k := ids.length) ⟨0, t, by simp, by simp, rfl, by rw [putT_same hT]; exact s2, h.mono s2, rfl, ho⟩
 rintro w fr H3 ⟨i, t', rfl, hi, rfl, s', h', e, ho'⟩
 have hw : wr .i64 ((i : Int) + 1) = ((i + 1 : Nat) : Int) := by rw [wr_of] <;> omega
 by_cases c : i < ids.length
 ·obtain ⟨id, hid⟩ : ∃ id, ids[i]? = some id := ⟨_, List.getElem?_eq_getElem c⟩;have hid' : ids[i] = id := (List.getElem?_eq_some_iff.1 hid).2;have d1 : ids.drop i = id :: ids.drop (i + 1) := (by rw [List.drop_eq_getElem_cons c, hid']);rw [d1] at e ho';unfold EachOk at ho';obtain ⟨o1, o2, o3, o4⟩ := ho';obtain ⟨v, hv⟩ := Option.isSome_iff_exists.1 o1;rw [hv] at o2 o3 o4;simp only [Option.getD_some] at o2 o3 o4;have e2 : eachW f t' (id :: ids.drop (i + 1)) = eachW f (f t' v) (ids.drop (i + 1)) := (by show eachW f (f t' ((findV t'.l id).getD zVer)) _ = _; rw [hv]; rfl);refine sem_run 9000 _ ?_
  simp [c, hid', h'.f];refine sem_td (tabl_get L.w2.work.rows.view.pick.tabl h'.w.tb (id := id)) (by first | exact D.les_refl _ | simp) (sem_run 9000 _ ?_);simp [hv];generalize hh : HpD.put _ _ _ = H3';have s3 : Sub H3 H3' := (by rw [← hh]; exact sR);clear hh;refine sem_td (hg H3' t' v (h'.mono s3) (s'.trans s3)) (by first | exact D.les_refl _ | simp) (sem_run 9000 _ ?_);simp;refine sem_ok ?_;refine ⟨_, by omega, i + 1, _, rfl, by omega, by rw [hw], ?_, (h'.mono s3).putT o2 o3, by rw [e, e2], o4⟩;exact sub_putT (s'.trans s3) hT.lt hT.sto.lm
 ·have : i = ids.length := (by omega);subst this;rw [List.drop_length] at e;rw [show eachW f t ids = t' from e];refine sem_run 9000 _ ?_;simp;refine sem_exit (sem_run 9000 _ ?_);simp;refine sem_ok ?_;simp [M399];exact .le s' (D.le_refl _) (by simp)
def abW (id : Int) (t : Tb) (v : Ver) : Tb :=
 if v.sp.bt = id then t.with (delV v.id t.l) else if v.sp.et = id then t.with (setSp t.l v.id ⟨v.sp.bt, v.sp.ba, 0, 0⟩) else t
theorem work_ab1 (L : HWork3 p ext F) {v : Ver} (h : Wk H bt bd bm bb br sb rs ds t k r) : Td p ext (F 398) [.agg v.c, .rptr [.ptr br 0] 0] H (.tup []) (putT H bt bd bm (abW r.id t v)) := by
 refine td_of L.h398 (M := M398) rfl ok398 rfl ?_ ?_ (sem_run 9000 _ ?_)
 ·simp
 ·exact putT_neat h.w.tb
 have hT := L.w2.work.rows.view.pick.tabl
 by_cases c : v.sp.bt = r.id
 ·have e : abW r.id t v = t.with (delV v.id t.l) := (by unfold abW; rw [if_pos c]);simp only [e, ← putT_bm h.w.tb];simp [h.f, Ver.c, c];refine sem_dtd (tabl_drop hT h.w.tb (id := v.id)) (by first | exact D.les_refl _ | simp) (sem_run 9000 _ ?_);simp;refine sem_ok ?_;simp [M398];have := h.w.tb.sto.lm;exact .le sW (D.le_refl _) (by simp)
 ·by_cases c2 : v.sp.et = r.id
  ·have e : abW r.id t v = t.with (setSp t.l v.id ⟨v.sp.bt, v.sp.ba, 0, 0⟩) := (by unfold abW; rw [if_neg c, if_pos c2]);simp only [e, ← putT_bm h.w.tb];simp [h.f, Ver.c, c, c2];refine sem_dtd (tabl_set hT h.w.tb (id := v.id) (s := ⟨v.sp.bt, v.sp.ba, 0, 0⟩)) (by simp [D.les, Sp.c, D.le]) (sem_run 9000 _ ?_);simp;refine sem_ok ?_;simp [M398];have := h.w.tb.sto.lm;exact .le sW (D.le_refl _) (by simp)
  ·have e : abW r.id t v = t := (by unfold abW; rw [if_neg c, if_neg c2]);simp only [e, putT_same h.w.tb];simp [h.f, Ver.c, c, c2];refine sem_ok ?_;simp [M398];exact .le sR (D.le_refl _) (by simp)
def StepX (bt bm bb br : Nat) (sb rs ds : D) (x : Nat) : Prop := x = br ∨ x = bt ∨ x = bm ∨ x = bb ∨ sb.hasB x ∨ rs.hasB x ∨ ds.hasB x
def StepP (A : HpD) (bt bd bm bb br : Nat) (sb rs ds : D) (t' : Tb) (k' : Bk) (r' : Rn) (B : HpD) : Prop :=
 ∃ sb' rs' ds', Wk B bt bd bm bb br sb' rs' ds' t' k' r' ∧ Wr A B (StepX bt bm bb br sb rs ds) ∧ (∀ x, sb'.hasB x → sb.hasB x ∨ A.next ≤ x) ∧ (∀ x, rs'.hasB x → rs.hasB x ∨ A.next ≤ x) ∧ ∀ x, ds'.hasB x → ds.hasB x ∨ A.next ≤ x
theorem StepP.same {B : HpD} {t' : Tb} {k' : Bk} {r' : Rn} (h : Wk B bt bd bm bb br sb rs ds t' k' r') (w : Wr H B (StepX bt bm bb br sb rs ds)) : StepP H bt bd bm bb br sb rs ds t' k' r' B := ⟨sb, rs, ds, h, w, fun _ => .inl, fun _ => .inl, fun _ => .inl⟩
theorem StepP.trans {A B C : HpD} {sb' rs' ds' : D} {t2 : Tb} {k2 : Bk} {r2 : Rn} (w : Wr A B (StepX bt bm bb br sb rs ds)) (f1 : ∀ x, sb'.hasB x → sb.hasB x ∨ A.next ≤ x) (f2 : ∀ x, rs'.hasB x → rs.hasB x ∨ A.next ≤ x) (f3 : ∀ x, ds'.hasB x → ds.hasB x ∨ A.next ≤ x) (o : StepP B bt bd bm bb br sb' rs' ds' t2 k2 r2 C) : StepP A bt bd bm bb br sb rs ds t2 k2 r2 C := by
 obtain ⟨sb2, rs2, ds2, h2, w2, g1, g2, g3⟩ := o;have n1 := w.next;refine ⟨sb2, rs2, ds2, h2, ⟨Nat.le_trans w.next w2.next, fun x hx hX => ?_⟩, fun x hx => ?_, fun x hx => ?_, fun x hx => ?_⟩
 ·rw [w2.blk x (by omega), w.blk x hx hX];intro e;refine hX ?_;rcases e with e | e | e | e | e | e | e
  ·exact .inl e
  ·exact .inr (.inl e)
  ·exact .inr (.inr (.inl e))
  ·exact .inr (.inr (.inr (.inl e)))
  ·rcases f1 x e with h | h
   ·exact .inr (.inr (.inr (.inr (.inl h))))
   ·omega
  ·rcases f2 x e with h | h
   ·exact .inr (.inr (.inr (.inr (.inr (.inl h)))))
   ·omega
  ·rcases f3 x e with h | h
   ·exact .inr (.inr (.inr (.inr (.inr (.inr h)))))
   ·omega
 ·rcases g1 x hx with h | h
  ·exact f1 x h
  ·exact .inr (by omega)
 ·rcases g2 x hx with h | h
  ·exact f2 x h
  ·exact .inr (by omega)
 ·rcases g3 x hx with h | h
  ·exact f3 x h
  ·exact .inr (by omega)
theorem StepP.sub {A A' B : HpD} {t' : Tb} {k' : Bk} {r' : Rn} (s : Sub A A') (_h : Wk A bt bd bm bb br sb rs ds t k r) (o : StepP A' bt bd bm bb br sb rs ds t' k' r' B) : StepP A bt bd bm bb br sb rs ds t' k' r' B :=
 StepP.trans (A := A) (B := A') ⟨s.next, fun b hb _ => s.blk b hb⟩ (fun _ => .inl) (fun _ => .inl) (fun _ => .inl) o
theorem Wk.bk {H' : HpD} {sb' : D} {k' : Bk} (h : Wk H bt bd bm bb br sb rs ds t k r) (hn : H.next ≤ H'.next) (hk : ∀ x, x < H.next → x ≠ bb → ¬ sb.hasB x → H'.blk x = H.blk x) (hb : BkAt H' bb sb' k') (hf : ∀ x, sb'.hasB x → sb.hasB x ∨ H.next ≤ x) (hl : k'.l.length < 1000000) : Wk H' bt bd bm bb br sb' rs ds t k' r := by
 have ha := h.apart;have hT := h.w.tb
 have kb : ∀ x, x < H.next → (x = bt ∨ x = bd ∨ x = bm ∨ x = br) → H'.blk x = H.blk x := fun x hx e => by
  refine hk x hx ?_ (fun hr => ?_)
  ·rcases e with rfl | rfl | rfl | rfl
   ·exact fun e => ha.2.1 e.symm
   ·exact fun e => ha.2.2.1 e.symm
   ·exact fun e => ha.2.2.2 e.symm
   ·exact ha.1.2.2.2
  ·have := h.far (.inr (.inr hr));rcases e with rfl | rfl | rfl | rfl
   ·exact this.1 rfl
   ·exact this.2.1 rfl
   ·exact this.2.2.1 rfl
   ·exact this.2.2.2.2 rfl
 have krs : ∀ x, rs.hasB x → H'.blk x = H.blk x := fun x hx => hk x (h.r.res.lt hx).1 (h.far (.inl hx)).2.2.2.1 (h.sep.1 x hx).2;have kds : ∀ x, ds.hasB x → H'.blk x = H.blk x := fun x hx => hk x (h.r.rds.lt hx).1 (h.far (.inr (.inl hx))).2.2.2.1 (h.sep.2 x hx);refine ⟨⟨⟨?_, Nat.lt_of_lt_of_le hT.lt hn, ⟨?_, ?_, Nat.lt_of_lt_of_le hT.sto.ld hn, Nat.lt_of_lt_of_le hT.sto.lm hn⟩⟩, hb, h.w.ids, hl⟩, ⟨?_, Nat.lt_of_lt_of_le h.r.lt hn, h.r.res.keep hn krs, h.r.rds.keep hn kds⟩, ?_, ?_⟩
 ·rw [kb bt hT.lt (.inl rfl)]; exact hT.tb
 ·rw [kb bd hT.sto.ld (.inr (.inl rfl))]; exact hT.sto.d
 ·rw [kb bm hT.sto.lm (.inr (.inr (.inl rfl)))]; exact hT.sto.m
 ·rw [kb br h.r.lt (.inr (.inr (.inr rfl)))]; exact h.r.blk
 ·refine fun x hx => ⟨(h.sep.1 x hx).1, fun e => ?_⟩;rcases hf x e with h1 | h1
  ·exact (h.sep.1 x hx).2 h1
  ·have := (h.r.res.lt hx).1; omega
 ·intro x hx e;rcases hf x e with h1 | h1
  ·exact h.sep.2 x hx h1
  ·have := (h.r.rds.lt hx).1; omega
theorem Wk.own {n : Nat} {x : Tx} (h : Wk H bt bd bm bb br sb rs ds t k r) (hx : k.l[n]? = some x) : ∃ bl ex, sb = .slice bl 0 4 k.l.length k.l.length ex ∧ BkX H bb bl n ex x k := by
 rcases h.w.b.at_ with ⟨_, e⟩ | ⟨bl, ex, e, h1, h2⟩
 ·rw [e] at hx; simp at hx
 ·have hb := h.w.b;rw [e] at hb;exact ⟨bl, ex, e, hb, h.w.txs, hx⟩
theorem Wk.setBk {n bl : Nat} {ex : Bool} {x : Tx} (y : Tx) (h : Wk H bt bd bm bb br (.slice bl 0 4 k.l.length k.l.length ex) rs ds t k r) (hX : BkX H bb bl n ex x k) : Wk (H.put bl (.cells (txE (k.l.set n y)).flatten false)) bt bd bm bb br (.slice bl 0 4 k.l.length k.l.length ex) rs ds t ⟨k.ticks, k.l.set n y⟩ r := by
 have hs := (hX.set y).at_;refine h.bk (by simp) (fun c _ _ hb => ?_) (by simpa using hs) (fun c hc => .inl hc) (by simpa using h.w.txs);rw [put_blk, if_neg];rintro rfl;exact hb rfl
end
end Go.Lib
end

section
set_option maxRecDepth 10000
namespace Go.Lib
open Go.Vm Go.Dv
variable {p : Prog} {ext : Ext} {F : Nat → Nat}
section
variable {H : HpD} {bt bd bm bb br : Nat} {sb rs ds : D} {t : Tb} {k : Bk} {r : Rn}
theorem Wr.putb {A B : HpD} {X : Nat → Prop} (h : Wr A B X) {b : Nat} {x : BD} (hb : X b) : Wr A (B.put b x) X := ⟨by simpa using h.next, fun c hc hX => by rw [put_blk, if_neg (by rintro rfl; exact hX hb), h.blk c hc hX]⟩
theorem Wr.rfl {A : HpD} {X : Nat → Prop} : Wr A A X := ⟨Nat.le_refl _, fun _ _ _ => Eq.refl _⟩
def Rn.over (r : Rn) (e : Int) : Rn := ⟨r.ops, 5, r.i, r.id, r.bg, r.tm, r.res, r.rds, e⟩
def Bk.to (k : Bk) (n : Nat) (x : Tx) (st : Int) : Bk := ⟨k.ticks, k.l.set n ⟨x.id, st, x.b, x.e⟩⟩
theorem work_abort (L : HWork3 p ext F) {n : Nat} {x : Tx} {e : Int} (h : Wk H bt bd bm bb br sb rs ds t k r) (hid : r.id = (n : Int) + 1) (hx : k.l[n]? = some x) (hst : x.st = 1 ∨ x.st = 2) (ho : EachOk (abW r.id) t (idsF t.l)) (ht : TOk (eachW (abW r.id) t (idsF t.l))) : WcD p ext (F 388) [.ptr br 0, .lit (.int .i64 e)] H (fun d H' => d = .lit (.int .i64 3) ∧ StepP H bt bd bm bb br sb rs ds (eachW (abW r.id) t (idsF t.l)) (k.to n x 4) (r.over e) H') := by
 refine wc_of L.h388 (M := M388) rfl ok388 rfl (sem_run 9000 _ ?_);simp;obtain ⟨bl, ex, rfl, hX⟩ := h.own hx;refine sem_td (work_each L h (g := F 398) (cap := [.rptr [.ptr br 0] 0]) (f := abW r.id) (fun H' t' v h' _ => work_ab1 L h') ho) (by first | exact D.les_refl _ | simp) (sem_run 9000 _ ?_);simp;have h1 := h.putT (eachW_most ho) ht;obtain ⟨bl', ex', e1, hX1⟩ := h1.own hx;cases e1;simp [h1.f];have hA := txns_abort L.w2.work.rows.view.txns hX1 hst;rw [← hid] at hA;refine ⟨h.r.lt, ?_⟩;refine sem_dtd (hA) (by first | exact D.les_refl _ | simp) (sem_run 9000 _ ?_);simp;have h2 := h1.setBk ⟨x.id, 4, x.b, x.e⟩ hX1
 have h3 := h2.putR (r' := r.over e) rfl rfl;have hne : br ≠ bl := fun e => (h.far (x := bl) (.inr (.inr (by simp only [D.hasB])))).2.2.2.2 e.symm;simp [h1.f, hne, put_put];refine sem_ret ?_;simp [M388];refine StepP.same h3 ?_;exact ((Wr.rfl.putT fun x e => by unfold StepX; rcases e with e | e <;> simp [e]).putb (by simp [StepX, D.hasB])).putb (by simp [StepX])
def cmF (r : Rn) (a b : Int) : Int × Int := if a = r.id then (0, r.tm) else (a, b)
def cmSp (r : Rn) (s : Sp) : Sp := ⟨(cmF r s.bt s.ba).1, (cmF r s.bt s.ba).2, (cmF r s.et s.ea).1, (cmF r s.et s.ea).2⟩
theorem work_cm1 (L : HWork3 p ext F) {a b : Int} (h : Wk H bt bd bm bb br sb rs ds t k r) : Td p ext (F 402) [.agg [.lit (.int .i64 a), .lit (.int .i64 b)], .rptr [.ptr br 0] 0] H (.agg [.lit (.int .i64 (cmF r a b).1), .lit (.int .i64 (cmF r a b).2)]) H := by
 refine td_of L.h402 (M := M402) rfl ok402 rfl (Nat.le_refl _) (fun h => h) (sem_run 9000 _ ?_);simp [h.f]
 by_cases c : a = r.id
 ·have e : cmF r a b = (0, r.tm) := (by unfold cmF; rw [if_pos c]);simp [c, h.f];refine sem_ret ?_;simp [M402];rw [← c, e];exact .le sW (by simp [D.le, D.les]) (by simp)
 ·have e : cmF r a b = (a, b) := (by unfold cmF; rw [if_neg c]);simp [c, e];refine sem_ret ?_;simp [M402];exact .le sW (by simp [D.le, D.les]) (by simp)
def cmW (r : Rn) (t : Tb) (v : Ver) : Tb := if cmSp r v.sp = v.sp then t else t.with (setSp t.l v.id (cmSp r v.sp))
theorem eq_sp {s s' : Sp} : isEq (.struct [(0, some 2, .struct [(0, none, .int), (1, none, .int)]), (2, some 2, .struct [(0, none, .int), (1, none, .int)])]) (.agg s.c) (.agg s'.c) = some (decide (s = s')) := by
 simp [isEq, Sp.c, toV, toVs];simp [eqV, eqVs, fieldOf, takeX, keq_self]
 have hs : (s = s') ↔ s.bt = s'.bt ∧ s.ba = s'.ba ∧ s.et = s'.et ∧ s.ea = s'.ea := by cases s; cases s'; simp
 by_cases h1 : s.bt = s'.bt <;> by_cases h2 : s.ba = s'.ba <;> by_cases h3 : s.et = s'.et <;> by_cases h4 : s.ea = s'.ea <;> simp [ieq_t, h1, h2, h3, h4, hs]
theorem work_cm2 (L : HWork3 p ext F) {v : Ver} (h : Wk H bt bd bm bb br sb rs ds t k r) : Td p ext (F 403) [.agg v.c, .rptr [.func (F 402) [] [.rptr [.ptr br 0] 0]] 0, .rptr [.ptr br 0] 0] H (.tup []) (putT H bt bd bm (cmW r t v)) := by
 refine td_of L.h403 (M := M403) rfl ok403 rfl ?_ ?_ (sem_run 9000 _ ?_)
 ·simp
 ·exact putT_neat h.w.tb
 have hT := L.w2.work.rows.view.pick.tabl;simp [Ver.c];refine sem_dtd (work_cm1 L (h.mono sR) (a := v.sp.bt) (b := v.sp.ba)) (by first | exact D.les_refl _ | simp) (sem_run 9000 _ ?_);simp;refine sem_dtd (work_cm1 L (h.mono sR) (a := v.sp.et) (b := v.sp.ea)) (by first | exact D.les_refl _ | simp) (sem_run 9000 _ ?_);simp;have e : isEq (.struct [(0, some 2, .struct [(0, none, .int), (1, none, .int)]), (2, some 2, .struct [(0, none, .int), (1, none, .int)])]) (.agg [.lit (.int .i64 (cmF r v.sp.bt v.sp.ba).1), .lit (.int .i64 (cmF r v.sp.bt v.sp.ba).2), .lit (.int .i64 (cmF r v.sp.et v.sp.ea).1), .lit (.int .i64 (cmF r v.sp.et v.sp.ea).2)]) (.agg [.lit (.int .i64 v.sp.bt), .lit (.int .i64 v.sp.ba), .lit (.int .i64 v.sp.et), .lit (.int .i64 v.sp.ea)]) = some (decide (cmSp r v.sp = v.sp)) := eq_sp (s := cmSp r v.sp) (s' := v.sp)
 by_cases c : cmSp r v.sp = v.sp
 ·have e2 : cmW r t v = t := (by unfold cmW; rw [if_pos c]);simp only [e2, putT_same h.w.tb];simp [e, c];refine sem_ok ?_;simp [M403];exact .le sR (D.le_refl _) (by simp)
 ·have e2 : cmW r t v = t.with (setSp t.l v.id (cmSp r v.sp)) := (by unfold cmW; rw [if_neg c]);simp only [e2, ← putT_bm h.w.tb];simp [e, c, h.f];refine sem_dtd (tabl_set hT (h.w.tb.mono sR) (id := v.id) (s := cmSp r v.sp)) (by simp [D.les, Sp.c, cmSp, D.le]) (sem_run 9000 _ ?_);simp;refine sem_ok ?_;simp [M403];have := h.w.tb.sto.lm;exact .le sW (D.le_refl _) (by simp)
theorem work_commit (L : HWork3 p ext F) {n : Nat} {x : Tx} (h : Wk H bt bd bm bb br sb rs ds t k r) (hid : r.id = (n : Int) + 1) (hx : k.l[n]? = some x) (hst : x.st = 2) (ho : EachOk (cmW r) t (idsF t.l)) (ht : TOk (eachW (cmW r) t (idsF t.l))) : WcD p ext (F 391) [.ptr br 0] H (fun d H' => d = .lit (.int .i64 3) ∧ StepP H bt bd bm bb br sb rs ds (eachW (cmW r) t (idsF t.l)) (k.to n x 3) (r.over r.err) H') := by
 refine wc_of L.h391 (M := M391) rfl ok391 rfl (sem_run 9000 _ ?_);simp [h.f];obtain ⟨bl, ex, rfl, hX⟩ := h.own hx;have hA := txns_commit L.w2.work.rows.view.txns hX hst;rw [← hid] at hA;refine sem_dtd hA (by first | exact D.les_refl _ | simp) (sem_run 9 _ ?_);simp;refine sem_box (b := H.next) (cs := [.func (F 402) [] [.rptr [.ptr br 0] 0]]) (ro := false) 3 (by simp) (by simp) ?_;have h2 := h.setBk ⟨x.id, 3, x.b, x.e⟩ hX;generalize hh : HpD.put _ _ BD.gone = H2;have s2 : Sub (H.put bl (.cells (txE (k.l.set n ⟨x.id, 3, x.b, x.e⟩)).flatten false)) H2 := (by rw [← hh]; exact ((Sub.refl.new).put (by simp)).put (by simp))
 clear hh;have h3 := h2.mono s2;refine sem_run 9000 _ ?_;simp;refine sem_td (work_each L h3 (g := F 403) (cap := [.rptr [.func (F 402) [] [.rptr [.ptr br 0] 0]] 0, .rptr [.ptr br 0] 0]) (f := cmW r) (fun H' t' v h' _ => work_cm2 L h') ho) (by first | exact D.les_refl _ | simp) (sem_run 9000 _ ?_);simp;have h4 := h3.putT (eachW_most ho) ht;have h5 := h4.putR (r' := r.over r.err) rfl rfl;simp [h4.f];refine sem_ret ?_;simp [M391];refine StepP.same h5 ?_;have w1 : Wr H (H.put bl (.cells (txE (k.l.set n ⟨x.id, 3, x.b, x.e⟩)).flatten false)) (StepX bt bm bb br (.slice bl 0 4 k.l.length k.l.length ex) rs ds) := Wr.rfl.putb (by simp [StepX, D.hasB])
 exact ((w1.trans s2).putT fun x e => by unfold StepX; rcases e with e | e <;> simp [e]).putb (by simp [StepX])
end
end Go.Lib
end

section
set_option maxRecDepth 10000
namespace Go.Lib
open Go.Vm Go.Dv
variable {p : Prog} {ext : Ext} {F : Nat → Nat}
section
variable {H : HpD} {bt bd bm bb br : Nat} {sb rs ds : D} {t : Tb} {k : Bk} {r : Rn}
def Rn.push (r : Rn) (x : Rs) : Rn := ⟨r.ops, r.at_, r.i, r.id, r.bg, r.tm, r.res ++ [x], r.rds, r.err⟩
def Rn.next (r : Rn) : Rn := ⟨r.ops, r.at_, r.i + 1, r.id, r.bg, r.tm, r.res, r.rds, r.err⟩
theorem opsD_len {l : List Op} : lenbD (opsD l) = some (.lit (.int .i64 (l.length : Int))) := by simp [opsD]
theorem at_ops {l : List Op} {n : Nat} : atO 14 (opsD l) (some n) = elemD (l[n]?.map Op.c) := by simp [opsD]
attribute [simp] opsD_len at_ops
theorem resE_3 {l : List Rs} : ∀ e, e ∈ resE l → e.length = 3 := fun e he => (resE_lit e he).1
theorem resE_len {l : List Rs} : (resE l).length = l.length := by simp [resE]
def DoesW (p : Prog) (ext : Ext) (F : Nat → Nat) (bt bd bm bb br : Nat) (sb rs ds : D) (t : Tb) (k : Bk) (r : Rn) (o : Op) (x : Rs) (t' : Tb) (r' : Rn) : Prop :=
 ∀ H, Wk H bt bd bm bb br sb rs ds t k r → WcD p ext (F 387) [.ptr br 0, .agg o.c] H fun d H' => d = .agg x.c ∧ OpP H bt bd bm bb br sb rs ds t' k r' H'
structure SameR (r r' : Rn) : Prop where
 ops : r'.ops = r.ops
 i : r'.i = r.i
 id : r'.id = r.id
 res : r'.res = r.res
theorem push_res {H2 H5 : HpD} {ds2 : D} {t' : Tb} {r' rn : Rn} {x : Rs} {m : Nat} (h2 : Wk H2 bt bd bm bb br sb rs ds2 t' k r') (n5 : H2.next + 1 + 1 ≤ H5.next) (g5 : Gr H00 H5 3 (.slice (H2.next + 1 + 1) 0 3 m m false) (resE r'.res ++ [x.c])) (k5 : ∀ y, y < H2.next → ¬ rs.hasB y → H5.blk y = H2.blk y) (e1 : rn.res = r'.res ++ [x]) (e2 : rn.rds = r'.rds) :
  ∃ H6, (∀ a fr, Weak a fr (H5.put br (.cells (rn.c bt bb (.slice (H2.next + 1 + 1) 0 3 m m false) ds2) false)) a fr H6) ∧ Wk H6 bt bd bm bb br sb (.slice (H2.next + 1 + 1) 0 3 m m false) ds2 t' k rn ∧ Wr H2 H6 (fun y => y = br ∨ rs.hasB y) := by
 have hlt := h2.r.lt
 have g6 := g5.keep (H1 := H5.put br (.cells (rn.c bt bb (.slice (H2.next + 1 + 1) 0 3 m m false) ds2) false)) sub00 (by simp) fun y hy => by
  simp only [D.hasB] at hy;rw [put_blk, if_neg (by omega)]
 obtain ⟨H6, w6, x6, k6, n6⟩ := g6.exact;simp at n6
 have hX : ∀ y, y < H2.next → y ≠ br → ¬ rs.hasB y → H6.blk y = H2.blk y := fun y hy h1 h3 => by
  rw [k6 y (by simp only [D.hasB]; omega), put_blk, if_neg h1, k5 y hy h3]
 refine ⟨H6, w6, ?_, ⟨by omega, fun y hy hn => hX y hy (fun e => hn (.inl e)) fun e => hn (.inr e)⟩⟩;refine h2.turn (by omega) (fun y hy h1 h3 _ => hX y hy h1 h3) ?_ ?_ ?_ (fun y hy => ?_) (fun y hy => .inl hy) (fun y hy => ?_)
 ·rw [k6 br (by simp only [D.hasB]; omega), put_blk, if_pos rfl]
 ·rw [e1];rcases x6.at_ with ⟨e, _⟩ | ⟨bl, ex, e, h1, h3, h4⟩
  ·cases e
  ·simp only [resE, List.map_append, List.map_cons, List.map_nil] at e h4 ⊢;exact .inr ⟨bl, ex, e, h3, h4⟩
 ·rw [e2];exact h2.r.rds.keep (by omega) fun y hy => hX y (h2.r.rds.lt hy).1 (h2.far (.inr (.inl hy))).2.2.2.2 fun e => (h2.sep.1 y e).1 hy
 ·simp only [D.hasB] at hy; exact .inr (by omega)
 ·intro e;have := (h2.r.rds.lt e).1;simp only [D.hasB] at hy; omega
theorem work_op_ok (L : HWork3 p ext F) {o : Op} {x : Rs} {t' : Tb} {r' : Rn} {i : Nat} (h : Wk H bt bd bm bb br sb rs ds t k r) (hi : r.i = (i : Int)) (ho : r.ops[i]? = some o) (hd : DoesW p ext F bt bd bm bb br sb rs ds t k r o x t' r') (hr : SameR r r') (he : x.err = 0) (hl : r.res.length < 1000) (hin : i < 1000000) : WcD p ext (F 380) [.ptr br 0] H (fun d H' => d = .lit (.int .i64 1) ∧ StepP H bt bd bm bb br sb rs ds t' k ((r'.push x).next.to 2 r.ops.length) H') := by
 refine wc_of L.h380 (M := M380) rfl ok380 rfl (sem_run 9000 _ ?_);simp [h.f, hi];have hil := (List.getElem?_eq_some_iff.1 ho).1;have hio := (List.getElem?_eq_some_iff.1 ho).2;simp [hil, hio];refine sem_dcall (hd H h) ?_;rintro _ H2 ⟨rfl, ds2, h2, w2, f2⟩;refine sem_run 9000 _ ?_;simp [h2.f, rs_c];have hlt2 := h2.r.lt;rw [appendD_slice1 (b := H2.next + 1) (cs := x.c) (ro := false) (by simp [rs_c]) (by simp [rs_c])];have hdt : (x.c.drop 0).take 3 = x.c := rfl;rw [hdt];have hl2 : r'.res.length < 1000 := (by rw [hr.res]; exact hl);refine sem_push ((h2.r.res.gr resE_3).mono sR) rfl rfl (roomyD (by rw [resE_len]; omega) (by rw [resE_len]; omega)) fun s' H5 g5 k5 n5 => ?_
 obtain ⟨n5, rfl⟩ := n5;simp at n5
 have hb5 : H5.blk br = .cells [.ptr bt 0, .ptr bb 0, opsD r'.ops, .lit (.int .i64 r'.at_), .lit (.int .i64 r'.i), .lit (.int .i64 r'.id), .lit (.int .i64 r'.bg), .lit (.int .i64 r'.tm), rs, ds2, .lit .nilslice, .lit (.int .i64 r'.err)] false := by
  rw [k5 br (by simp; omega) (fun e => (h2.far (.inl e)).2.2.2.2 rfl)];simp [ltn hlt2, h2.f]
 have hp3 : H5.blk H2.next = .cells x.c false := by
  rw [k5 H2.next (by simp; omega) (fun e => by have := (h2.r.res.lt e).1; omega)];simp [rs_c]
 have hri : r'.i = (i : Int) := (by rw [hr.i, hi]);have hw : wr .i64 ((i : Int) + 1) = (i : Int) + 1 := (by rw [wr_of] <;> omega);simp [hb5, hp3, rs_c, he, hri, hw, put_put, ltn hlt2]
 have k5' : ∀ y, y < H2.next → ¬ rs.hasB y → H5.blk y = H2.blk y := fun y hy h1 => by
  rw [k5 y (by simp; omega) h1, new_blk, if_neg (by simp; omega), put_blk, if_neg (by omega), new_blk, if_neg (by omega)]
 obtain ⟨H6, w6, h6, x6⟩ := push_res (rn := (r'.push x).next) h2 (by omega) g5 k5' rfl rfl
 have ecs : ∀ rs', BD.cells ((r'.push x).next.c bt bb rs' ds2) false = BD.cells [.ptr bt 0, .ptr bb 0, opsD r'.ops, .lit (.int .i64 r'.at_), .lit (.int .i64 ((i : Int) + 1)), .lit (.int .i64 r'.id), .lit (.int .i64 r'.bg), .lit (.int .i64 r'.tm), rs', ds2, .lit .nilslice, .lit (.int .i64 r'.err)] false := fun rs' => by
  rw [← hri]; rfl
 rw [ecs] at w6;refine sem_weak_call (w6 _ _) ?_;rw [hr.ops];refine sem_td (work_to L h6 (st := 2) (n := (r.ops.length : Int))) (by first | exact D.les_refl _ | simp) (sem_run 9000 _ ?_);simp;refine sem_ret ?_;simp [M380];have h7 := h6.putR (r' := (r'.push x).next.to 2 r.ops.length) (by unfold Rn.to; split <;> rfl) (by unfold Rn.to; split <;> rfl);have n2 := w2.next;have n6 := x6.next;refine ⟨sb, _, ds2, h7, ⟨by simp [putR]; omega, fun y hy hX => ?_⟩, fun _ => .inl, fun y hy => ?_, fun y hy => .inr (f2 y hy)⟩
 ·simp only [StepX, not_or] at hX;unfold putR;rw [put_blk, if_neg hX.1, x6.blk y (by omega) (by rintro (e | e); exact hX.1 e; exact hX.2.2.2.2.2.1 e), w2.blk y hy (by rintro ((e | e) | e | e); exact hX.1 e; exact hX.2.2.2.2.2.2 e; exact hX.2.1 e; exact hX.2.2.1 e)]
 ·simp only [D.hasB] at hy; exact .inr (by omega)
theorem work_op_err (L : HWork3 p ext F) {o : Op} {x : Rs} {t' : Tb} {r' : Rn} {i : Nat} (h : Wk H bt bd bm bb br sb rs ds t k r) (hi : r.i = (i : Int)) (ho : r.ops[i]? = some o) (hd : DoesW p ext F bt bd bm bb br sb rs ds t k r o x t' r') (hr : SameR r r') (he : x.err ≠ 0) {n : Nat} {y : Tx} (hid : r.id = (n : Int) + 1) (hy : k.l[n]? = some y) (hst : y.st = 1 ∨ y.st = 2) (ha : EachOk (abW r.id) t' (idsF t'.l)) (ht : TOk (eachW (abW r.id) t' (idsF t'.l))) (hl : r.res.length < 1000) (hin : i < 1000000) : WcD p ext (F 380) [.ptr br 0] H (fun d H' => d = .lit (.int .i64 3) ∧ StepP H bt bd bm bb br sb rs ds (eachW (abW r.id) t' (idsF t'.l)) (k.to n y 4) ((r'.push x).over x.err) H') := by
 refine wc_of L.h380 (M := M380) rfl ok380 rfl (sem_run 9000 _ ?_);simp [h.f, hi];have hil := (List.getElem?_eq_some_iff.1 ho).1;have hio := (List.getElem?_eq_some_iff.1 ho).2;simp [hil, hio];refine sem_dcall (hd H h) ?_;rintro _ H2 ⟨rfl, ds2, h2, w2, f2⟩;refine sem_run 9000 _ ?_;simp [h2.f, rs_c];have hlt2 := h2.r.lt;rw [appendD_slice1 (b := H2.next + 1) (cs := x.c) (ro := false) (by simp [rs_c]) (by simp [rs_c])];have hdt : (x.c.drop 0).take 3 = x.c := rfl;rw [hdt];have hl2 : r'.res.length < 1000 := (by rw [hr.res]; exact hl);refine sem_push ((h2.r.res.gr resE_3).mono sR) rfl rfl (roomyD (by rw [resE_len]; omega) (by rw [resE_len]; omega)) fun s' H5 g5 k5 n5 => ?_
 obtain ⟨n5, rfl⟩ := n5;simp at n5
 have hb5 : H5.blk br = .cells [.ptr bt 0, .ptr bb 0, opsD r'.ops, .lit (.int .i64 r'.at_), .lit (.int .i64 r'.i), .lit (.int .i64 r'.id), .lit (.int .i64 r'.bg), .lit (.int .i64 r'.tm), rs, ds2, .lit .nilslice, .lit (.int .i64 r'.err)] false := by
  rw [k5 br (by simp; omega) (fun e => (h2.far (.inl e)).2.2.2.2 rfl)];simp [ltn hlt2, h2.f]
 have hp3 : H5.blk H2.next = .cells x.c false := by
  rw [k5 H2.next (by simp; omega) (fun e => by have := (h2.r.res.lt e).1; omega)];simp [rs_c]
 have hri : r'.i = (i : Int) := (by rw [hr.i, hi]);have hw : wr .i64 ((i : Int) + 1) = (i : Int) + 1 := (by rw [wr_of] <;> omega);simp [hb5, hp3, rs_c, he, hri, ltn hlt2]
 have k5' : ∀ y, y < H2.next → ¬ rs.hasB y → H5.blk y = H2.blk y := fun y hy h1 => by
  rw [k5 y (by simp; omega) h1, new_blk, if_neg (by simp; omega), put_blk, if_neg (by omega), new_blk, if_neg (by omega)]
 obtain ⟨H6, w6, h6, x6⟩ := push_res (rn := r'.push x) h2 (by omega) g5 k5' rfl rfl
 have ecs : ∀ rs', BD.cells ((r'.push x).c bt bb rs' ds2) false = BD.cells [.ptr bt 0, .ptr bb 0, opsD r'.ops, .lit (.int .i64 r'.at_), .lit (.int .i64 (i : Int)), .lit (.int .i64 r'.id), .lit (.int .i64 r'.bg), .lit (.int .i64 r'.tm), rs', ds2, .lit .nilslice, .lit (.int .i64 r'.err)] false := fun rs' => by
  rw [← hri]; rfl
 rw [ecs] at w6;refine sem_weak_call (w6 _ _) ?_;have hid' : (r'.push x).id = r.id := hr.id;rw [← hid'] at ha ht hid;have hA := work_abort L (e := x.err) h6 hid hy hst ha ht;refine sem_call hA ?_;rintro _ H7 ⟨rfl, o7⟩;refine sem_run 9000 _ ?_;simp;refine sem_ret ?_;simp [M380];rw [hid'] at o7;have n2 := w2.next;have n6 := x6.next;refine StepP.trans (B := H6) (sb' := sb) (ds' := ds2) ⟨by omega, fun y hy hX => ?_⟩ (fun _ => .inl) (fun y hy => ?_) (fun y hy => .inr (f2 y hy)) o7
 ·simp only [StepX, not_or] at hX;rw [x6.blk y (by omega) (by rintro (e | e); exact hX.1 e; exact hX.2.2.2.2.2.1 e), w2.blk y hy (by rintro ((e | e) | e | e); exact hX.1 e; exact hX.2.2.2.2.2.2 e; exact hX.2.1 e; exact hX.2.2.1 e)]
 ·simp only [D.hasB] at hy; exact .inr (by omega)
end
end Go.Lib
end

section
set_option maxRecDepth 10000
namespace Go.Lib
open Go.Vm Go.Dv
variable {p : Prog} {ext : Ext} {F : Nat → Nat}
section
variable {H : HpD} {bt bd bm bb br : Nat} {sb rs ds : D} {t : Tb} {k : Bk} {r : Rn}
def EqI (H0 : HpD) (a b : List Int) (w : Nat) (fr : FrD) (H : HpD) : Prop :=
 ∃ i : Nat, w = a.length - i ∧ i ≤ a.length ∧ decide (a = b) = decide (a.drop i = b.drop i) ∧ fr = [(0, intsD .p a), (1, intsD .p b), (12, .lit (.int .i64 (a.length : Int))), (13, .lit (.int .i64 (i : Int)))] ∧ Sub H0 H
theorem equal_ints (L : HWork3 p ext F) {a b : List Int} (ha : a.length < 1000000) : FnD p ext (F 389) [intsD .p a, intsD .p b] (.lit (.bool (decide (a = b)))) := by
 refine fn_of L.h389 (M := M389) rfl ok389 rfl fun H => sem_run 9000 _ ?_;simp
 by_cases hl : a.length = b.length
 ·simp [hl];refine sem_loop (EqI H a b) ?_ (k := a.length) ⟨0, by simp, by simp, by simp, by simp [hl], .refl⟩;rintro w fr H' ⟨i, rfl, hi, hc, rfl, sb⟩
  have hw : wr .i64 ((i : Int) + 1) = ((i + 1 : Nat) : Int) := by rw [wr_of] <;> omega
  by_cases c : i < a.length
  ·have c3 : i < b.length := (by omega);rw [List.drop_eq_getElem_cons c, List.drop_eq_getElem_cons c3] at hc;refine sem_run 9000 _ ?_;simp [c, c3]
   by_cases e : a[i] = b[i]
   ·simp [e];refine sem_ok ?_;refine ⟨_, by omega, i + 1, rfl, by omega, ?_, by rw [hw], sb.trans sR⟩;rw [hc]; simp only [List.cons.injEq, e, true_and]
   ·simp [e];refine sem_ret ?_;simp;refine sem_ret ?_;simp [M389]
    have : ¬ a = b := by
     rw [decide_eq_decide] at hc;exact fun h => e (List.cons.inj (hc.1 h)).1
    exact .le (sb.trans sR) (by simp [D.le, this]) (by simp)
  ·have : i = a.length := (by omega);subst this;rw [List.drop_length, List.drop_of_length_le (by omega)] at hc;refine sem_run 9000 _ ?_;simp;refine sem_exit (sem_run 9000 _ ?_);simp;refine sem_ret ?_;simp [M389];rw [hc];exact .le sb (by simp [D.le]) (by simp)
 ·have hl' : ¬ (a.length : Int) = (b.length : Int) := (by omega);simp [hl'];refine sem_ret ?_;simp [M389];have : ¬ a = b := fun e => hl (by rw [e]);exact .le sR (by simp [D.le, this]) (by simp)
theorem read_get {i : Nat} {q : Pr} {ids : List Int} (h : r.rds[i]? = some (q, ids)) : ((rdE r.rds).flatten.drop (i * 9)).take 9 = q.c ++ [intsD .p ids] ∧ i * 9 + 9 ≤ (rdE r.rds).flatten.length := by
 have he : (rdE r.rds)[i]? = some (q.c ++ [intsD .p ids]) := (by simp [rdE, h]);refine ⟨flat_slice (fun e he => (rdE_lit e he).1) he, ?_⟩;have := (List.getElem?_eq_some_iff.1 h).1;rw [flatten_len (fun e he => (rdE_lit e he).1), rdE_len]; omega
abbrev nowW (t : Tb) (k : Bk) (r : Rn) (q : Pr) : List Int := (visF t.l q fun s => seesF k.l s r.id r.tm false).map (·.id)
theorem pr_8 {q : Pr} {d : D} : (q.c ++ [d])[8]? = some d := by cases q; rfl
theorem pr_take8 {q : Pr} {d : D} : (q.c ++ [d]).take 8 = q.c := by cases q; rfl
theorem work_again_ok (L : HWork3 p ext F) {i n : Nat} {q : Pr} {ids : List Int} (h : Wk H bt bd bm bb br sb rs ds t k r) (hi : r.i = (i : Int)) (ho : r.rds[i]? = some (q, ids)) (hin : i < 1000000) (hq : PrS n q) (hc : Calm k.l r.id) (he : nowW t k r q = ids) (hl : (nowW t k r q).length < 1000000) : WcD p ext (F 381) [.ptr br 0] H (fun d H' => d = .lit (.int .i64 1) ∧ StepP H bt bd bm bb br sb rs ds t k (r.next.to 4 r.rds.length) H') := by
 refine wc_of L.h381 (M := M381) rfl ok381 rfl (sem_run 9000 _ ?_);simp [h.f, hi];obtain ⟨f1, f2⟩ := read_get ho;have hil := (List.getElem?_eq_some_iff.1 ho).1
 obtain ⟨bl, ex, e, hbl, hbk⟩ : ∃ b ex, ds = .slice b 0 9 r.rds.length r.rds.length ex ∧ b < H.next ∧ H.blk b = .cells (rdE r.rds).flatten false := by
  rcases h.r.rds with ⟨_, e⟩ | ⟨b, ex, e, h1, h2⟩
  ·have := congrArg List.length e; rw [rdE_len] at this; simp at this; rw [this] at hil; simp at hil
  ·rw [rdE_len] at e; exact ⟨b, ex, e, h1, h2⟩
 subst e;simp [hil, hbk, f1, f2, ltn hbl, -List.length_flatten];simp [pr_flats9, h.f];generalize hh : HpD.put _ _ _ = H1;have s1 : Sub H H1 := (by rw [← hh]; exact sR);have b3 : H1.blk H.next = .cells (q.c ++ [intsD .p ids]) false := (by rw [← hh]; simp);have n1 : H.next < H1.next := (by rw [← hh]; simp);clear hh;have h1 := h.mono s1;refine sem_dcall (view_base L.w2.work.rows.view h1.w hq hc (at_ := r.tm)) ?_;rintro _ H2 ⟨s', rfl, g2⟩;have b3' := g2.sub.blk H.next n1;rw [b3] at b3';refine sem_run 9000 _ ?_;simp [b3']
 have hE : FnD p ext (F 389) ([s', intsD .p ids].set 0 (.row 1 .p (intsE (nowW t k r q)))) (.lit (.bool (decide (nowW t k r q = ids)))) := by
  have := equal_ints L (a := nowW t k r q) (b := ids) hl
  rwa [ints_row] at this ⊢
 refine sem_call (wc_own_at g2 0 rfl hE) ?_;rintro _ H3 ⟨rfl, s3, _, _⟩;have h3 := h1.mono s3;refine sem_run 9000 _ ?_;simp [he];refine sem_td (work_hangs L.w2.work h3) (by first | exact D.les_refl _ | simp) (sem_run 9000 _ ?_);simp [h3.f];have h4 := h3.putR (r' := r.next) rfl rfl;have hw : wr .i64 ((i : Int) + 1) = (i : Int) + 1 := (by rw [wr_of] <;> omega);have e2 : BD.cells (r.next.c bt bb rs (.slice bl 0 9 r.rds.length r.rds.length ex)) false = BD.cells [.ptr bt 0, .ptr bb 0, opsD r.ops, .lit (.int .i64 r.at_), .lit (.int .i64 ((i : Int) + 1)), .lit (.int .i64 r.id), .lit (.int .i64 r.bg), .lit (.int .i64 r.tm), rs, .slice bl 0 9 r.rds.length r.rds.length ex, .lit .nilslice, .lit (.int .i64 r.err)] false := (by rw [← hi]; rfl)
 have e3 : H3.put br (BD.cells [.ptr bt 0, .ptr bb 0, opsD r.ops, .lit (.int .i64 r.at_), .lit (.int .i64 ((i : Int) + 1)), .lit (.int .i64 r.id), .lit (.int .i64 r.bg), .lit (.int .i64 r.tm), rs, .slice bl 0 9 r.rds.length r.rds.length ex, .lit .nilslice, .lit (.int .i64 r.err)] false) = putR H3 br bt bb rs (.slice bl 0 9 r.rds.length r.rds.length ex) r.next := (by rw [← e2]; rfl);simp [hi, hw, e3];refine sem_td (work_to L h4 (st := 4) (n := (r.rds.length : Int))) (by first | exact D.les_refl _ | simp) (sem_run 9000 _ ?_);simp;refine sem_ret ?_;simp [M381];have h5 := h4.putR (r' := r.next.to 4 r.rds.length) (by unfold Rn.to; split <;> rfl) (by unfold Rn.to; split <;> rfl)
 refine StepP.same h5 ?_;have w1 : Wr H H3 (StepX bt bm bb br sb rs (.slice bl 0 9 r.rds.length r.rds.length ex)) := ⟨by have := s1.next; have := s3.next; omega, fun x hx _ => by rw [s3.blk x (by have := s1.next; omega), s1.blk x hx]⟩;exact (w1.putb (by simp [StepX])).putb (by simp [StepX])
theorem work_again_no (L : HWork3 p ext F) {i n : Nat} {q : Pr} {ids : List Int} (h : Wk H bt bd bm bb br sb rs ds t k r) (hi : r.i = (i : Int)) (ho : r.rds[i]? = some (q, ids)) (_hin : i < 1000000) (hq : PrS n q) (hc : Calm k.l r.id) (he : nowW t k r q ≠ ids) {m : Nat} {y : Tx} (hid : r.id = (m : Int) + 1) (hy : k.l[m]? = some y) (hst : y.st = 1 ∨ y.st = 2) (ha : EachOk (abW r.id) t (idsF t.l)) (ht : TOk (eachW (abW r.id) t (idsF t.l))) (hl : (nowW t k r q).length < 1000000) : WcD p ext (F 381) [.ptr br 0] H (fun d H' => d = .lit (.int .i64 3) ∧ StepP H bt bd bm bb br sb rs ds (eachW (abW r.id) t (idsF t.l)) (k.to m y 4) (r.over 6) H') := by
 refine wc_of L.h381 (M := M381) rfl ok381 rfl (sem_run 9000 _ ?_);simp [h.f, hi];obtain ⟨f1, f2⟩ := read_get ho;have hil := (List.getElem?_eq_some_iff.1 ho).1
 obtain ⟨bl, ex, e, hbl, hbk⟩ : ∃ b ex, ds = .slice b 0 9 r.rds.length r.rds.length ex ∧ b < H.next ∧ H.blk b = .cells (rdE r.rds).flatten false := by
  rcases h.r.rds with ⟨_, e⟩ | ⟨b, ex, e, h1, h2⟩
  ·have := congrArg List.length e; rw [rdE_len] at this; simp at this; rw [this] at hil; simp at hil
  ·rw [rdE_len] at e; exact ⟨b, ex, e, h1, h2⟩
 subst e;simp [hil, hbk, f1, f2, ltn hbl, -List.length_flatten];simp [pr_flats9, h.f];generalize hh : HpD.put _ _ _ = H1;have s1 : Sub H H1 := (by rw [← hh]; exact sR);have b3 : H1.blk H.next = .cells (q.c ++ [intsD .p ids]) false := (by rw [← hh]; simp);have n1 : H.next < H1.next := (by rw [← hh]; simp);clear hh;have h1 := h.mono s1;refine sem_dcall (view_base L.w2.work.rows.view h1.w hq hc (at_ := r.tm)) ?_;rintro _ H2 ⟨s', rfl, g2⟩;have b3' := g2.sub.blk H.next n1;rw [b3] at b3';refine sem_run 9000 _ ?_;simp [b3']
 have hE : FnD p ext (F 389) ([s', intsD .p ids].set 0 (.row 1 .p (intsE (nowW t k r q)))) (.lit (.bool (decide (nowW t k r q = ids)))) := by
  have := equal_ints L (a := nowW t k r q) (b := ids) hl
  rwa [ints_row] at this ⊢
 refine sem_call (wc_own_at g2 0 rfl hE) ?_;rintro _ H3 ⟨rfl, s3, _, _⟩;have h3 := h1.mono s3;refine sem_run 9000 _ ?_;simp [he];refine sem_call (work_abort L (e := 6) h3 hid hy hst ha ht) ?_;rintro _ H4 ⟨rfl, o4⟩;refine sem_run 9000 _ ?_;simp;refine sem_ret ?_;simp [M381];exact StepP.sub (s1.trans s3) h o4
end
end Go.Lib
end

section
set_option maxRecDepth 10000
namespace Go.Lib
open Go.Vm Go.Dv
variable {p : Prog} {ext : Ext} {F : Nat → Nat}
section
variable {H : HpD} {bt bd bm bb br : Nat} {sb rs ds : D} {t : Tb} {k : Bk} {r : Rn}
theorem work_err (L : HWork3 p ext F) (h : Wk H bt bd bm bb br sb rs ds t k r) : Td p ext (F 373) [.ptr br 0] H (.lit (.int .i64 r.err)) H := by
 refine td_of L.h373 (M := M373) rfl ok373 rfl (Nat.le_refl _) (fun h => h) (sem_run 9000 _ ?_);simp [h.f];refine sem_ret ?_;simp [M373];exact .le sW (D.le_refl _) (by simp)
theorem work_close (L : HWork3 p ext F) {c : Int} {P : HpD → Prop} (h : Wk H bt bd bm bb br sb rs ds t k r) (hw : ∀ {H1}, Sub H H1 → WcD p ext (F 391) [.ptr br 0] H1 fun d H' => d = .lit (.int .i64 c) ∧ P H') : WcD p ext (F 382) [.ptr br 0] H fun d H' => d = .lit (.int .i64 c) ∧ P H' := by
 refine wc_of L.h382 (M := M382) rfl ok382 rfl (sem_run 9000 _ ?_);simp [h.f];refine sem_td (txns_all L.w2.work.rows.view.txns h.w.b h.w.txs) (by first | exact D.les_refl _ | simp) (sem_run 9000 _ ?_);simp [h.f];refine sem_loop (fun w fr H' => w = 0 ∧ fr = [(0, .ptr br 0), (3, txsD k.l), (4, .lit (.bool false)), (15, .lit .nilslice), (16, .lit (.int .i64 0)), (17, .lit (.int .i64 0))] ∧ H' = H) ?_ (k := 0) ⟨rfl, rfl, rfl⟩;rintro w fr H' ⟨rfl, rfl, rfl⟩;refine sem_run 9000 _ ?_;simp;refine sem_exit (sem_run 9000 _ ?_);simp;refine sem_call (hw .refl) ?_;rintro _ H2 ⟨rfl, o⟩;refine sem_run 9000 _ ?_
 simp;refine sem_ret ?_;simp [M382];exact o
structure HWork4 (p : Prog) (ext : Ext) (F : Nat → Nat) : Prop where
 w3 : HWork3 p ext F
 h371 : Has p ext F 371 M371
 h372 : Has p ext F 372 M372
theorem step_op (L : HWork4 p ext F) {c : Int} {P : HpD → Prop} (h : Wk H bt bd bm bb br sb rs ds t k r) (ha : r.at_ = 1) (hw : WcD p ext (F 380) [.ptr br 0] H fun d H' => d = .lit (.int .i64 c) ∧ P H') : WcD p ext (F 372) [.ptr br 0] H fun d H' => d = .lit (.int .i64 c) ∧ P H' := by
 refine wc_of L.h372 (M := M372) rfl ok372 rfl (sem_run 9000 _ ?_);simp [h.f, ha];refine sem_call hw ?_;rintro _ H2 ⟨rfl, o⟩;refine sem_run 9000 _ ?_;simp;refine sem_ret ?_;simp [M372];exact o
theorem step_again (L : HWork4 p ext F) {c : Int} {P : HpD → Prop} (h : Wk H bt bd bm bb br sb rs ds t k r) (ha : r.at_ = 3) (hw : WcD p ext (F 381) [.ptr br 0] H fun d H' => d = .lit (.int .i64 c) ∧ P H') : WcD p ext (F 372) [.ptr br 0] H fun d H' => d = .lit (.int .i64 c) ∧ P H' := by
 refine wc_of L.h372 (M := M372) rfl ok372 rfl (sem_run 9000 _ ?_);simp [h.f, ha];refine sem_call hw ?_;rintro _ H2 ⟨rfl, o⟩;refine sem_run 9000 _ ?_;simp;refine sem_ret ?_;simp [M372];exact o
theorem step_close (L : HWork4 p ext F) {c : Int} {P : HpD → Prop} (h : Wk H bt bd bm bb br sb rs ds t k r) (ha : r.at_ = 4) (hw : WcD p ext (F 382) [.ptr br 0] H fun d H' => d = .lit (.int .i64 c) ∧ P H') : WcD p ext (F 372) [.ptr br 0] H fun d H' => d = .lit (.int .i64 c) ∧ P H' := by
 refine wc_of L.h372 (M := M372) rfl ok372 rfl (sem_run 9000 _ ?_);simp [h.f, ha];refine sem_call hw ?_;rintro _ H2 ⟨rfl, o⟩;refine sem_run 9000 _ ?_;simp;refine sem_ret ?_;simp [M372];exact o
theorem step_prep (L : HWork4 p ext F) {n : Nat} {x : Tx} (h : Wk H bt bd bm bb br sb rs ds t k r) (ha : r.at_ = 2) (hid : r.id = (n : Int) + 1) (hx : k.l[n]? = some x) (hst : x.st = 1) (hk : 0 ≤ k.ticks ∧ k.ticks < 100000000) : WcD p ext (F 372) [.ptr br 0] H (fun d H' => d = .lit (.int .i64 1) ∧ StepP H bt bd bm bb br sb rs ds t (prepF k n x) ((⟨r.ops, 3, r.i, r.id, r.bg, k.ticks + 2, r.res, r.rds, r.err⟩ : Rn).to 4 r.rds.length) H') := by
 refine wc_of L.h372 (M := M372) rfl ok372 rfl (sem_run 9000 _ ?_);simp [h.f, ha];obtain ⟨bl, ex, rfl, hX⟩ := h.own hx;have hA := txns_prepare L.w3.w2.work.rows.view.txns hX hst hk;rw [← hid] at hA;refine sem_dtd (hA) (by first | exact D.les_refl _ | simp) (sem_run 9000 _ ?_);simp;have hX2 := ((hX.tick (k.ticks + 1)).set ⟨x.id, 2, x.b, k.ticks + 2⟩).at_
 have h2 : Wk ((H.put bb (.cells [.lit (.int .i64 (k.ticks + 1)), .slice bl 0 4 k.l.length k.l.length ex] false)).put bl (.cells (txE (prepF k n x).l).flatten false)) bt bd bm bb br (.slice bl 0 4 k.l.length k.l.length ex) rs ds t (prepF k n x) r := by
  refine h.bk (by simp) (fun c _ h1 h2 => ?_) (by simpa [prepF] using hX2) (fun c hc => .inl hc) (by simpa [prepF] using h.w.txs);rw [put_blk, if_neg (by rintro rfl; exact h2 rfl), put_blk, if_neg h1]
 have hne : br ≠ bl := fun e => (h.far (x := bl) (.inr (.inr (by simp only [D.hasB])))).2.2.2.2 e.symm;have hne2 : br ≠ bb := h.apart.1.2.2.2;have h3 := h2.putR (r' := ⟨r.ops, 3, r.i, r.id, r.bg, k.ticks + 2, r.res, r.rds, r.err⟩) rfl rfl;have hds := h.r.rds.rig.2.2.2;rw [rdE_len] at hds;simp [h.f, hne, hne2, put_put, hds];have e3 : ((H.put bb (.cells [.lit (.int .i64 (k.ticks + 1)), .slice bl 0 4 k.l.length k.l.length ex] false)).put bl (.cells (txE (prepF k n x).l).flatten false)).put br (.cells [.ptr bt 0, .ptr bb 0, opsD r.ops, .lit (.int .i64 3), .lit (.int .i64 r.i), .lit (.int .i64 r.id), .lit (.int .i64 r.bg), .lit (.int .i64 (k.ticks + 2)), rs, ds, .lit .nilslice, .lit (.int .i64 r.err)] false) = putR ((H.put bb (.cells [.lit (.int .i64 (k.ticks + 1)), .slice bl 0 4 k.l.length k.l.length ex] false)).put bl (.cells (txE (prepF k n x).l).flatten false)) br bt bb rs ds ⟨r.ops, 3, r.i, r.id, r.bg, k.ticks + 2, r.res, r.rds, r.err⟩ := rfl
 rw [e3];refine sem_td (work_to L.w3 h3 (st := 4) (n := (r.rds.length : Int))) (by first | exact D.les_refl _ | simp) (sem_run 9000 _ ?_);simp;refine sem_ret ?_;simp [M372];have h4 := h3.putR (r' := (⟨r.ops, 3, r.i, r.id, r.bg, k.ticks + 2, r.res, r.rds, r.err⟩ : Rn).to 4 r.rds.length) (by unfold Rn.to; split <;> rfl) (by unfold Rn.to; split <;> rfl);refine StepP.same h4 ?_;exact (((Wr.rfl.putb (by simp [StepX])).putb (by simp [StepX, D.hasB])).putb (by simp [StepX])).putb (by simp [StepX])
def beginB (k : Bk) : Bk := ⟨k.ticks, k.l ++ [⟨(k.l.length : Int) + 1, 1, k.ticks + 1, 0⟩]⟩
theorem step_begin (L : HWork4 p ext F) (h : Wk H bt bd bm bb br sb rs ds t k r) (ha : r.at_ = 0) (hk : 0 ≤ k.ticks ∧ k.ticks < 100000000) (hl : k.l.length < 999999) : WcD p ext (F 372) [.ptr br 0] H (fun d H' => d = .lit (.int .i64 1) ∧ StepP H bt bd bm bb br sb rs ds t (beginB k) ((⟨r.ops, 1, r.i, (k.l.length : Int) + 1, (stateF (beginB k).l ((k.l.length : Int) + 1)).b, r.tm, r.res, r.rds, r.err⟩ : Rn).to 2 r.ops.length) H') := by
 refine wc_of L.h372 (M := M372) rfl ok372 rfl (sem_run 9000 _ ?_);simp [h.f, ha];refine sem_call (txns_begin L.w3.w2.work.rows.view.txns h.w.b h.w.txs hk) ?_;rintro _ H1 ⟨rfl, bl, hb1, f1, w1⟩
 have h1 : Wk H1 bt bd bm bb br (.slice bl 0 4 (k.l.length + 1) (k.l.length + 1) false) rs ds t (beginB k) r := by
  refine h.bk w1.next (fun c hc h1 h2 => w1.blk c hc (by rintro (e | e); exact h1 e; exact h2 e)) hb1 (fun c hc => .inr (by simp only [D.hasB] at hc; omega)) (by simp [beginB]; omega)
 have hid : ∀ (r1 : Rn), r1 = ⟨r.ops, r.at_, r.i, (k.l.length : Int) + 1, r.bg, r.tm, r.res, r.rds, r.err⟩ → H1.put br (.cells [.ptr bt 0, .ptr bb 0, opsD r.ops, .lit (.int .i64 r.at_), .lit (.int .i64 r.i), .lit (.int .i64 ((k.l.length : Int) + 1)), .lit (.int .i64 r.bg), .lit (.int .i64 r.tm), rs, ds, .lit .nilslice, .lit (.int .i64 r.err)] false) = putR H1 br bt bb rs ds r1 := fun r1 e => (by subst e; rfl);obtain ⟨r1, hr1⟩ : ∃ r1 : Rn, r1 = ⟨r.ops, r.at_, r.i, (k.l.length : Int) + 1, r.bg, r.tm, r.res, r.rds, r.err⟩ := ⟨_, rfl⟩;have h2 := h1.putR (r' := r1) (by rw [hr1]) (by rw [hr1]);have e3 := hid r1 hr1
 rw [ha] at e3;refine sem_run 9000 _ ?_;simp [h1.f, ha, e3, h2.f];refine sem_dtd (txns_all L.w3.w2.work.rows.view.txns h2.w.b h2.w.txs) (by first | exact D.les_refl _ | simp) (sem_run 9000 _ ?_);have er : r1.id = (k.l.length : Int) + 1 := (by rw [hr1]);simp [h2.f];refine sem_dfn (stam_state L.w3.w2.work.rows.view.stam (l := (beginB k).l) (id := r1.id) h2.w.txs) (by first | exact D.les_refl _ | simp) (sem_run 9000 _ ?_);simp [h2.f, put_put];subst hr1;have h3 := h2.putR (r' := ⟨r.ops, 1, r.i, (k.l.length : Int) + 1, (stateF (beginB k).l ((k.l.length : Int) + 1)).b, r.tm, r.res, r.rds, r.err⟩) rfl rfl
 refine sem_td (work_to L.w3 h3 (st := 2) (n := (r.ops.length : Int))) (by first | exact D.les_refl _ | simp) (sem_run 9000 _ ?_);simp;refine sem_ret ?_;simp [M372];have h4 := h3.putR (r' := (⟨r.ops, 1, r.i, (k.l.length : Int) + 1, (stateF (beginB k).l ((k.l.length : Int) + 1)).b, r.tm, r.res, r.rds, r.err⟩ : Rn).to 2 r.ops.length) (by unfold Rn.to; split <;> rfl) (by unfold Rn.to; split <;> rfl);refine ⟨_, rs, ds, h4, ?_, fun c hc => .inr (by simp only [D.hasB] at hc; omega), fun _ => .inl, fun _ => .inl⟩;have w0 : Wr H H1 (StepX bt bm bb br sb rs ds) := ⟨w1.next, fun c hc hX => w1.blk c hc (by rintro (e | e); exact hX (.inr (.inr (.inr (.inl e)))); exact hX (.inr (.inr (.inr (.inr (.inl e))))))⟩
 exact ((w0.putb (by simp [StepX])).putb (by simp [StepX])).putb (by simp [StepX])
end
end Go.Lib
end

section
set_option maxRecDepth 10000
namespace Go.Lib
open Go.Vm Go.Dv
variable {p : Prog} {ext : Ext} {F : Nat → Nat}
section
variable {H : HpD}
structure HStill (p : Prog) (ext : Ext) (F : Nat → Nat) : Prop where
 schm : HSchmR p ext F
 h378 : Has p ext F 378 M378
 h384 : Has p ext F 384 M384
 h385 : Has p ext F 385 M385
 h386 : Has p ext F 386 M386
 h392 : Has p ext F 392 M392
theorem ints_flats {l : List Int} : ∀ e, e ∈ intsE l → flatsD e = true := by intro e he; simp only [intsE, List.mem_map] at he; obtain ⟨x, _, rfl⟩ := he; rfl
theorem clone_ints (L : HStill p ext F) {l : List Int} (hl : l.length < 1000000) : FnD p ext (F 384) [intsD .p l] (intsD .p l) := by
 refine fn_of L.h384 (M := M384) rfl ok384 rfl fun H => sem_run 9000 _ ?_;simp [intsD];refine ⟨fun h0 => ?_, ?_⟩
 ·refine sem_ret ?_;simp [M384];exact .le .refl (by rw [h0]; simp [D.le]) (underss_map (fun _ => by simp) _)
 ·obtain ⟨s', H', e, g, _⟩ := (Gr.lit (el := []) (sz := 1) (H := H) (ex := true) (c := []) (n := 0) Sub.refl (by simp) rfl rfl).app (by_ := 8) (m := .p) (new := intsE l) intsE_one ints_flats (roomyD (by simp; omega) (by simp; omega));have e2 : appendD 1 8 (H.new (.cells [] false)) (.slice H.next 0 1 0 0 true) (.row 1 .p (List.map (fun n => [D.lit (V.int .i64 n)]) l)) = some (s', H') := e;simp [e2];refine sem_ret ?_;simp [M384];refine g.fin ?_ (.inl rfl);exact underss_map (fun _ => by simp) _
theorem clip_prs_nil (L : HStill p ext F) : FnD p ext (F 392) [.lit .nilslice] (.lit .nilslice) := by
 refine fn_of L.h392 (M := M392) rfl ok392 rfl fun H => sem_run 9000 _ ?_;simp;simp [slc_nil];refine sem_ret ?_;simp [M392];exact .le sR (D.le_refl _) (by simp)
def plainP (k c o : Int) (vn : Bool) (vk n : Int) : List D := [.lit (.int .i64 k), .lit (.int .i64 c), .lit (.int .i64 o), .lit (.bool vn), .lit (.int .i64 vk), .lit (.int .i64 n), .lit .nilslice, .lit .nilslice]
def plainQ (k c o : Int) (vn : Bool) (vk n : Int) : Pr := .mk k c o ⟨vn, vk, n, [], by simp⟩ []
theorem pred_still_plain (L : HStill p ext F) {k c o vk n : Int} {vn : Bool} : FnD p ext (F 385) [.agg (plainP k c o vn vk n)] (.agg (plainQ k c o vn vk n).c) := by
 refine fn_of L.h385 (M := M385) rfl ok385 rfl fun H => sem_run 9000 _ ?_;simp [plainP];refine sem_fn (schm_val L.schm (v := ⟨vn, vk, n, [], by simp⟩)) (by simp [D.les, D.le, Vl.c, byD, byE]) (sem_run 9000 _ ?_);simp [Vl.c];generalize hh : HpD.put _ _ _ = H1;have s1 : Sub H H1 := (by rw [← hh]; exact sW);have b1 : H1.blk H.next = .cells [.lit (.int .i64 k), .lit (.int .i64 c), .lit (.int .i64 o), .lit (.bool vn), .lit (.int .i64 vk), .lit (.int .i64 n), byD [], .lit .nilslice] false := (by rw [← hh]; simp);have b2 : H1.blk (H.next + 1) = .cells [.lit (.int .i64 0), .lit (.int .i64 0), .lit (.int .i64 0), .lit (.bool false), .lit (.int .i64 0), .lit (.int .i64 0), .lit .nilslice, .lit .nilslice] false := (by rw [← hh]; simp)
 have n1 : H1.next = H.next + 1 + 1 := (by rw [← hh]; simp);clear hh;refine sem_loop (fun w fr H' => w = 0 ∧ fr = [(1, .ptr H.next 0), (2, .ptr (H.next + 1) 0), (3, .lit .nilslice), (11, .lit .nilslice), (12, .lit (.int .i64 0)), (13, .lit (.int .i64 0))] ∧ H' = H1) ?_ (k := 0) ⟨rfl, rfl, rfl⟩;rintro w fr H' ⟨rfl, rfl, rfl⟩;refine sem_run 9000 _ ?_;simp;refine sem_exit (sem_run 9000 _ ?_);simp;refine sf (clip_prs_nil L) ?_;simp [b1, b2];refine sem_ret ?_;simp [M385];refine .le ((s1.put (by omega)).put (by omega)) ?_ ?_
 ·simp [plainQ, pr_c, Pr.kind, Pr.col, Pr.op, Pr.v, Pr.l, prsD, D.le, D.les, D.le_refl]
 ·simp
theorem agsE_2 {l : List Ag} : ∀ e, e ∈ agsE l → e.length = 2 := by intro e he; simp only [agsE, List.mem_map] at he; obtain ⟨x, _, rfl⟩ := he; rfl
theorem agsE_flats {l : List Ag} : ∀ e, e ∈ agsE l → flatsD e = true := by intro e he; simp only [agsE, List.mem_map] at he; obtain ⟨x, _, rfl⟩ := he; rfl
theorem agsE_len {l : List Ag} : (agsE l).length = l.length := by simp [agsE]
def AgsAt (H : HpD) (d : D) (l : List Ag) : Prop := (d = .lit .nilslice ∧ l = []) ∨ ∃ b c ex, d = .slice b 0 2 l.length c ex ∧ b < H.next ∧ H.blk b = .cells (agsE l).flatten false
theorem AgsAt.mono {H' : HpD} {d : D} {l : List Ag} (h : AgsAt H d l) (s : Sub H H') : AgsAt H' d l := by
 rcases h with h | ⟨b, c, ex, e, h1, h2⟩
 ·exact .inl h
 ·exact .inr ⟨b, c, ex, e, Nat.lt_of_lt_of_le h1 s.next, by rw [s.blk b h1]; exact h2⟩
theorem AgsAt.rig {d : D} {l : List Ag} (h : AgsAt H d l) : rigid d = true ∧ cellsD d = some [d] ∧ flatD d = true := by
 rcases h with ⟨rfl, _⟩ | ⟨b, c, ex, rfl, _⟩ <;> exact ⟨rfl, rfl, rfl⟩
theorem clone_ags (L : HStill p ext F) {d : D} {l : List Ag} {H : HpD} (h : AgsAt H d l) (hl : l.length < 1000000) : Td p ext (F 386) [d] H (agsD l) H := by
 refine td_of L.h386 (M := M386) rfl ok386 rfl (Nat.le_refl _) (fun h => h) (sem_run 9000 _ ?_);rcases h with ⟨rfl, rfl⟩ | ⟨b, c, ex, rfl, h1, h2⟩
 ·simp;refine sem_ret ?_;simp [M386];exact .le .refl (by simp [agsD, agsE, D.le]) (underss_map (fun a => by simp [Ag.c]) _)
 ·simp;obtain ⟨s', H', e, g, _⟩ := (Gr.lit (el := []) (sz := 2) (H := H) (ex := true) (c := []) (n := 0) Sub.refl (by simp) rfl rfl).app (by_ := 16) (m := .p) (new := agsE l) agsE_2 agsE_flats (roomyD (by simp; omega) (by simp; omega));have e2 := appendD_sliceN (sz := 2) (by_ := 16) (b := b) (cap := c) (n := l.length) (ex := ex) (ro := false) (el := agsE l) (H := H.new (.cells [] false)) (s := .slice H.next 0 2 0 0 true) (by simp [ltn h1, h2]) agsE_2 agsE_len.symm;rw [e] at e2;simp [e2];refine sem_ret ?_;simp [M386];exact g.fin (underss_map (fun a => by simp [Ag.c]) _) (.inl rfl)
def plainO (kind : Int) (row : Row) (k c o : Int) (vn : Bool) (vk n : Int) (sets : List Sx) (cols : List Int) (grp : Int) (ad : D) : List D := [.lit (.int .i64 kind), rowD row] ++ plainP k c o vn vk n ++ [sxsD sets, intsD .p cols, .lit (.int .i64 grp), ad]
def StI (H0 : HpD) (sets : List Sx) (b1 b2 : Nat) (w : Nat) (fr : FrD) (H : HpD) : Prop :=
 ∃ (i : Nat) (s : D), w = sets.length - i ∧ i ≤ sets.length ∧ fr = [(1, .ptr b1 0), (2, .ptr b2 0), (3, s), (23, sxsD sets), (24, .lit (.int .i64 (sets.length : Int))), (25, .lit (.int .i64 (i : Int)))] ∧ Gr H0 H 6 s ((sets.take i).map Sx.c)
theorem expr_still (L : HStill p ext F) {kind k c o vk n grp : Int} {vn : Bool} {row : Row} {sets : List Sx} {cols : List Int} {ags : List Ag} {ad : D} {H : HpD} (ha : AgsAt H ad ags) (hr : row.length < 1000000) (hs : sets.length < 1000000) (hc : cols.length < 1000000) (hg : ags.length < 1000000) : Td p ext (F 378) [.agg (plainO kind row k c o vn vk n sets cols grp ad)] H (.agg (⟨kind, row, plainQ k c o vn vk n, sets, cols, grp, ags⟩ : Op).c) H := by
 refine td_of L.h378 (M := M378) rfl ok378 rfl (Nat.le_refl _) (fun h => h) (sem_run 9000 _ ?_);simp [plainO, plainP, ha.rig, show flatD (sxsD sets) = true from rfl, show flatD (intsD .p cols) = true from rfl];refine ⟨by omega, ?_⟩;refine sem_dfn (schm_row L.schm hr) (by first | exact D.les_refl _ | simp) (sem_run 9000 _ ?_);simp;refine ⟨⟨by omega, rfl⟩, ?_⟩;refine sem_dfn (pred_still_plain L (k := k) (c := c) (o := o) (vk := vk) (n := n) (vn := vn)) (by simp [D.les, plainP, D.le_refl]) (sem_run 9000 _ ?_);have hpl : (plainQ k c o vn vk n).c.length = 8 := rfl
 simp;refine ⟨by omega, ?_⟩;refine sem_dfn (clone_ints L hc) (by first | exact D.les_refl _ | simp) (sem_run 9000 _ ?_);simp;refine ⟨⟨by omega, ha.rig.1⟩, ?_⟩;generalize hh : HpD.put _ _ _ = H1;have s1 : Sub H H1 := (by rw [← hh]; exact sW);have b1 : H1.blk H.next = .cells [.lit (.int .i64 kind), rowD row, .lit (.int .i64 k), .lit (.int .i64 c), .lit (.int .i64 o), .lit (.bool vn), .lit (.int .i64 vk), .lit (.int .i64 n), byD [], prsD [], sxsD sets, intsD .p cols, .lit (.int .i64 grp), ad] false := (by rw [← hh, put_blk, if_pos rfl]; rfl)
 have b2 : H1.blk (H.next + 1) = .cells [.lit (.int .i64 0), .lit .nilslice, .lit (.int .i64 0), .lit (.int .i64 0), .lit (.int .i64 0), .lit (.bool false), .lit (.int .i64 0), .lit (.int .i64 0), .lit .nilslice, .lit .nilslice, .lit .nilslice, .lit .nilslice, .lit (.int .i64 0), .lit .nilslice] false := (by rw [← hh]; simp);have n1 : H1.next = H.next + 1 + 1 := (by rw [← hh]; simp);clear hh;refine sem_dtd (clone_ags L (ha.mono s1) hg) (by first | exact D.les_refl _ | simp) (sem_run 9000 _ ?_);simp [b1, put_put, show cellsD (intsD .p cols) = some [intsD .p cols] from rfl, show cellsD (agsD ags) = some [agsD ags] from rfl, show flatD (agsD ags) = true from rfl, show flatD (intsD .p cols) = true from rfl]
 generalize hh : HpD.put _ _ _ = H2;have s2 : Sub H H2 := (by rw [← hh]; exact s1.put (Nat.le_refl _));have c1 : H2.blk H.next = .cells [.lit (.int .i64 kind), rowD row, .lit (.int .i64 k), .lit (.int .i64 c), .lit (.int .i64 o), .lit (.bool vn), .lit (.int .i64 vk), .lit (.int .i64 n), byD [], prsD [], sxsD sets, intsD .p cols, .lit (.int .i64 grp), agsD ags] false := (by rw [← hh, put_blk, if_pos rfl]);have c2 : H2.blk (H.next + 1) = .cells [.lit (.int .i64 0), .lit .nilslice, .lit (.int .i64 0), .lit (.int .i64 0), .lit (.int .i64 0), .lit (.bool false), .lit (.int .i64 0), .lit (.int .i64 0), .lit .nilslice, .lit .nilslice, .lit .nilslice, .lit .nilslice, .lit (.int .i64 0), .lit .nilslice] false := (by rw [← hh, put_blk, if_neg (by omega)]; exact b2)
 have n2 : H2.next = H.next + 1 + 1 := (by rw [← hh]; simpa using n1);clear hh;refine sem_loop (StI H2 sets H.next (H.next + 1)) ?_ (k := sets.length) ⟨0, .lit .nilslice, by simp, by simp, rfl, .start⟩;rintro w fr H' ⟨i, s', rfl, hi, rfl, g⟩
 have hw : wr .i64 ((i : Int) + 1) = ((i + 1 : Nat) : Int) := by rw [wr_of] <;> omega
 by_cases ci : i < sets.length
 ·obtain ⟨y, hy⟩ : ∃ y, sets[i]? = some y := ⟨_, List.getElem?_eq_getElem ci⟩;have hyi : sets[i] = y := (List.getElem?_eq_some_iff.1 hy).2;refine sem_run 9000 _ ?_;simp [ci, hyi];refine sf (schm_val L.schm (v := y.v)) ?_;simp [show spliceD y.c 2 y.v.c = y.c from rfl];refine sem_push (g.mono sR) rfl rfl (roomyD (by simp; omega) (by simp; omega)) fun s2 H4 g4 _ _ => ?_;simp;refine sem_ok ?_;refine ⟨_, by omega, i + 1, s2, rfl, by omega, by rw [hw], ?_⟩;rw [List.take_add_one, hy, List.map_append];exact g4
 ·have : i = sets.length := (by omega);subst this;rw [List.take_length] at g;have d1 := g.sub.blk H.next (by omega);have d2 := g.sub.blk (H.next + 1) (by omega);rw [c1] at d1;rw [c2] at d2;have n3 := g.sub.next;refine sem_run 9000 _ ?_;simp;refine sem_exit (sem_run 2 _ ?_);simp;refine sem_turn_as [(1, .ptr H.next 0), (2, .ptr (H.next + 1) 0), (3, sxsD sets)] g 3 (by simp) (by simp [frLe_cons, frLe_nil, lk, sxsD, sxsE, D.le_refl]) fun H5 s5 k5 n5 => ?_;have e1 := s5.blk H.next (by omega);have e2 := s5.blk (H.next + 1) (by omega);rw [c1] at e1;rw [c2] at e2;have n6 := s5.next;refine sem_run 9000 _ ?_
  simp [e1, e2, show cellsD (sxsD sets) = some [sxsD sets] from rfl, show flatD (sxsD sets) = true from rfl, show flatD (agsD ags) = true from rfl, show flatD (intsD .p cols) = true from rfl];refine sem_ret ?_;simp [M378];have ec : (⟨kind, row, plainQ k c o vn vk n, sets, cols, grp, ags⟩ : Op).c = [.lit (.int .i64 kind), rowD row, .lit (.int .i64 k), .lit (.int .i64 c), .lit (.int .i64 o), .lit (.bool vn), .lit (.int .i64 vk), .lit (.int .i64 n), byD [], prsD [], sxsD sets, intsD .p cols, .lit (.int .i64 grp), agsD ags] := op_c;refine .le (((s2.trans s5).put (by omega)).put (by omega)) (by rw [ec]; exact D.le_refl _) ?_
  exact opW_unders
end
end Go.Lib
end

section
set_option maxRecDepth 10000
namespace Go.Lib
open Go.Vm Go.Dv
variable {p : Prog} {ext : Ext} {F : Nat → Nat}
section
variable {H : HpD} {bt bd bm bb br : Nat} {sb rs ds : D} {t : Tb} {k : Bk} {r : Rn}
structure HNewW (p : Prog) (ext : Ext) (F : Nat → Nat) : Prop where
 w4 : HWork4 p ext F
 still : HStill p ext F
 h371 : Has p ext F 371 M371
structure PO where
 kind : Int
 row : Row
 k : Int
 c : Int
 o : Int
 vn : Bool
 vk : Int
 n : Int
 sets : List Sx
 cols : List Int
 grp : Int
 ags : List Ag
 ad : D
def PO.cs (x : PO) : List D := plainO x.kind x.row x.k x.c x.o x.vn x.vk x.n x.sets x.cols x.grp x.ad
def PO.op (x : PO) : Op := ⟨x.kind, x.row, plainQ x.k x.c x.o x.vn x.vk x.n, x.sets, x.cols, x.grp, x.ags⟩
structure PO.Ok (H : HpD) (x : PO) : Prop where
 ags : AgsAt H x.ad x.ags
 row : x.row.length < 1000000
 sets : x.sets.length < 1000000
 cols : x.cols.length < 1000000
 la : x.ags.length < 1000000
theorem PO.Ok.mono {H' : HpD} {x : PO} (h : x.Ok H) (s : Sub H H') : x.Ok H' := ⟨h.ags.mono s, h.row, h.sets, h.cols, h.la⟩
theorem PO.cs_14 {x : PO} : x.cs.length = 14 := rfl
def run0 (l : List Op) : Rn := ⟨l, 0, 0, 0, 0, 0, [], [], 0⟩
def opE (l : List Op) : List (List D) := l.map Op.c
def NwI (H1 : HpD) (bt bb br : Nat) (m : Md) (l : List PO) (w : Nat) (fr : FrD) (H : HpD) : Prop :=
 ∃ (i : Nat) (s : D), w = l.length - i ∧ i ≤ l.length ∧ fr = [(7, .ptr br 0), (14, .row 14 m (l.map PO.cs)), (15, .lit (.int .i64 (l.length : Int))), (16, .lit (.int .i64 (i : Int)))] ∧
  Gr H1 H 14 s (opE ((l.map PO.op).take i)) ∧ H.blk br = .cells [.ptr bt 0, .ptr bb 0, s, .lit (.int .i64 0), .lit (.int .i64 0), .lit (.int .i64 0), .lit (.int .i64 0), .lit (.int .i64 0), .lit .nilslice, .lit .nilslice, .lit .nilslice, .lit (.int .i64 0)] false ∧ ¬ s.hasB br ∧ br < H.next
theorem work_new (L : HNewW p ext F) {m : Md} {l : List PO} (h : TbAt H bt bd bm bb sb t k) (hl : l.length < 1000) (ho : ∀ x, x ∈ l → x.Ok H) : WcD p ext (F 371) [.ptr bt 0, .ptr bb 0, .row 14 m (l.map PO.cs)] H (fun d H' => d = .ptr H.next 0 ∧ Wk H' bt bd bm bb H.next sb (.lit .nilslice) (.lit .nilslice) t k (run0 (l.map PO.op)) ∧ Sub H H') := by
 refine wc_of L.h371 (M := M371) rfl ok371 rfl (sem_run 9000 _ ?_);simp;generalize hh : HpD.new _ _ = H1;have s1 : Sub H H1 := (by rw [← hh]; exact sW);have b1 : H1.blk H.next = .cells [.ptr bt 0, .ptr bb 0, .lit .nilslice, .lit (.int .i64 0), .lit (.int .i64 0), .lit (.int .i64 0), .lit (.int .i64 0), .lit (.int .i64 0), .lit .nilslice, .lit .nilslice, .lit .nilslice, .lit (.int .i64 0)] false := (by rw [← hh]; simp);have n1 : H1.next = H.next + 1 := (by rw [← hh]; simp);clear hh;refine sem_loop (NwI H bt bb H.next m l) ?_ (k := l.length) ⟨0, .lit .nilslice, by simp, by simp, rfl, .nil s1, b1, by simp [D.hasB], by omega⟩
 rintro w fr H' ⟨i, s, rfl, hi, rfl, g, hb, hn, hlt⟩
 have hw : wr .i64 ((i : Int) + 1) = ((i + 1 : Nat) : Int) := by rw [wr_of] <;> omega
 by_cases c : i < l.length
 ·obtain ⟨y, hy⟩ : ∃ y, l[i]? = some y := ⟨_, List.getElem?_eq_getElem c⟩;have hyi : l[i] = y := (List.getElem?_eq_some_iff.1 hy).2;have hyo := ho y (List.mem_of_getElem? hy)
  have hx : (l.map PO.cs)[i]? = some y.cs := by simp [hy]
  have hf : flatsD y.cs = true := by
   have h1 : flatD (rowD y.row) = true := rfl;have h2 : flatD (sxsD y.sets) = true := rfl;have h3 : flatD (intsD .p y.cols) = true := rfl;simp [PO.cs, plainO, plainP, flatsD, h1, h2, h3, hyo.ags.rig]
  have ht : y.cs.take 14 = y.cs := rfl;have hd : y.cs.drop 14 = [] := rfl;refine sem_run 9000 _ ?_;simp [c, hyi, PO.cs_14, ht, hf];generalize hh : HpD.put _ _ _ = H2;have s2 : Sub H' H2 := (by rw [← hh]; exact sR);have n2 := s2.next;clear hh;have hb2 := s2.blk H.next hlt;rw [hb] at hb2
  have hsr : rigid s = true ∧ cellsD s = some [s] ∧ flatD s = true := by
   rcases g.at_ with ⟨rfl, _⟩ | ⟨b, ex, el0, rfl, _⟩ <;> exact ⟨rfl, rfl, rfl⟩
  refine sem_dtd (expr_still L.still ((hyo.mono (g.sub.trans s2)).ags) hyo.row hyo.sets hyo.cols hyo.la (H := H2)) (by first | exact D.les_refl _ | simp) (sem_run 9000 _ ?_);have ho14 : (⟨y.kind, y.row, plainQ y.k y.c y.o y.vn y.vk y.n, y.sets, y.cols, y.grp, y.ags⟩ : Op) = y.op := rfl;rw [ho14];have hof : flatsD y.op.c = true := (by rw [op_c]; rfl);have hod : y.op.c.drop 14 = [] := List.drop_eq_nil_of_le (by rw [op_len]; omega);have hot : y.op.c.take 14 = y.op.c := List.take_of_length_le (by rw [op_len]; omega);simp [hb2, ltn (show H.next < H2.next by omega), hsr, op_len, hof];rw [appendD_slice1 (b := H2.next) (cs := y.op.c) (ro := false) (by simp) (by rw [op_len]; omega), List.drop_zero, hot]
  have hel : (opE ((l.map PO.op).take i)).length ≤ i := (by simp [opE]; omega);refine sem_push ((g.mono s2).mono sR) op_len hof (roomyD (by omega) (by omega)) fun s' H5 g5 k5 n5 => ?_;obtain ⟨n5, rfl⟩ := n5;simp at n5
  have hb5 : H5.blk H.next = .cells [.ptr bt 0, .ptr bb 0, s, .lit (.int .i64 0), .lit (.int .i64 0), .lit (.int .i64 0), .lit (.int .i64 0), .lit (.int .i64 0), .lit .nilslice, .lit .nilslice, .lit .nilslice, .lit (.int .i64 0)] false := by
   rw [k5 H.next (by simp; omega) hn, new_blk, if_neg (by omega)]; exact hb2
  simp [hb5];refine sem_ok ?_;refine ⟨_, by omega, i + 1, _, rfl, by omega, by rw [hw], ?_, by rw [put_blk, if_pos rfl], ?_, by simp; omega⟩
  ·have hyy : (l.map PO.op)[i]? = some y.op := (by simp [hy]);have hsn : opE ((l.map PO.op).take i) ++ [y.op.c] = opE ((l.map PO.op).take (i + 1)) := (by rw [List.take_add_one, hyy]; simp only [opE, List.map_append, Option.toList, List.map_cons, List.map_nil]);rw [hsn] at g5;refine g5.keep (g5.sub.put (Nat.le_refl _)) (by simp) fun x hx => ?_;simp only [D.hasB, Dv.new_next] at hx;rw [put_blk, if_neg (by omega)]
  ·simp only [D.hasB]; omega
 ·have : i = l.length := (by omega);subst this;rw [show (l.map PO.op).take l.length = l.map PO.op from by rw [List.take_of_length_le]; simp] at g;refine sem_run 9000 _ ?_;simp;obtain ⟨H5, w5, c5, k5, n5, sub5⟩ := g.incell hb (j := 2) rfl hn;refine sem_weak_exit (w5 _ _) (sem_exit (sem_run 9000 _ ?_));simp;refine sem_ret ?_;simp [M371];have s5 : Sub H H5 := sub5 H g.sub (Nat.le_refl _) (Nat.le_refl _);have h5 := h.mono s5;refine ⟨⟨h5, ⟨?_, by omega, .inl ⟨rfl, rfl⟩, .inl ⟨rfl, rfl⟩⟩, fun x hx => by simp [D.hasB] at hx, fun x hx => by simp [D.hasB] at hx⟩, s5⟩;rw [c5];rfl
end
end Go.Lib
end

section
namespace Go.Lib
open Go.Vm Go.Dv
set_option maxRecDepth 100000
end Go.Lib
end

section
set_option maxRecDepth 10000
namespace Go.Lib
open Go.Vm Go.Dv Go.Srt
variable {p : Prog} {ext : Ext} {F : Nat → Nat}
attribute [-simp] bin_and
end Go.Lib
end

section
set_option maxRecDepth 10000
namespace Go.Lib
open Go.Vm Go.Dv
variable {p : Prog} {ext : Ext} {F : Nat → Nat}
def tokB (t : Tb) : Bool := decide (0 ≤ t.last ∧ t.last < 1000000) && (t.l.all fun v => decide (v.id ≤ t.last ∧ 1 ≤ v.id)) && decide (t.s.length < 1000000) && decide (t.dmost ≤ 1000) && decide (t.l.length ≤ 1000)
theorem tokB_ok {t : Tb} (h : tokB t = true) : TOk t := by
 unfold tokB at h;simp only [Bool.and_eq_true, decide_eq_true_eq, List.all_eq_true] at h;obtain ⟨⟨⟨⟨h1, h2⟩, h3⟩, h4⟩, h5⟩ := h;exact ⟨h1, h2, h3, h4, h5⟩
def calmB (l : List Tx) (me : Int) : Bool := l.all fun x => decide (x.id = me) || !decide (x.st = 2)
theorem calmB_ok {l : List Tx} {me : Int} (h : calmB l me = true) : Calm l me := by
 intro t ht;unfold stateF;unfold calmB at h;rw [List.all_eq_true] at h
 cases hf : l.find? fun x => decide (x.id = t) with
 | none => simp [zTx]
 | some x =>
  have h1 := h x (List.mem_of_find?_eq_some hf);have h2 : x.id = t := (by simpa using List.find?_some hf);simp only [Bool.or_eq_true, decide_eq_true_eq, Bool.not_eq_true', decide_eq_false_iff_not] at h1;rcases h1 with h1 | h1
  ·exact absurd (h2 ▸ h1) ht
  ·simpa using h1
def srtB : List Ver → Bool
 | [] => true
 | [_] => true
 | x :: y :: l => !decide (cmpVer y x < 0) && srtB (y :: l)
theorem srtB_ok : ∀ {X : List Ver}, srtB X = true → SrtV X
 | [], _ => fun i x y h => by simp at h
 | [_], _ => fun i x y h1 h2 => by simp at h2
 | a :: b :: l, h => by
  unfold srtB at h;rw [Bool.and_eq_true, Bool.not_eq_true', decide_eq_false_iff_not] at h;have ih := srtB_ok h.2;intro i x y h1 h2
  cases i with
  | zero => simp at h1 h2; subst h1 h2; exact h.1
  | succ i => exact ih i x y (by simpa using h1) (by simpa using h2)
def eachB (f : Tb → Ver → Tb) : Tb → List Int → Bool
 | _, [] => true
 | t, id :: l => (findV t.l id).isSome && decide ((f t ((findV t.l id).getD zVer)).dmost = t.dmost) && tokB (f t ((findV t.l id).getD zVer)) && eachB f (f t ((findV t.l id).getD zVer)) l
theorem eachB_ok {f : Tb → Ver → Tb} : ∀ {l : List Int} {t : Tb}, eachB f t l = true → EachOk f t l
 | [], t, _ => trivial
 | id :: l, t, h => by
  unfold eachB at h;simp only [Bool.and_eq_true, decide_eq_true_eq] at h;exact ⟨h.1.1.1, h.1.1.2, tokB_ok h.1.2, eachB_ok h.2⟩
def insC (t : Tb) (k : Bk) (r : Rn) (o : Op) : Option (Tb × Rn × Rs) :=
 if (calmB k.l r.id && srtB (seenW t k r (keyQ o.row)) && decide ((seenW t k r (keyQ o.row)).length < 20) && decide (r.rds.length < 1000) && tokB t && tokB (addW t o.row r.id).1 && decide (o.row.length < 1000000)) = true then
  some ((insW t k r o.row).1, r.read (keyQ o.row) (baseW t k r (keyQ o.row)), resW (insW t k r o.row).2 1) else none
def doC (t : Tb) (k : Bk) (r : Rn) (o : Op) : Option (Tb × Rn × Rs) :=
 if o.kind = 1 then insC t k r o else none
theorem sameR_read {r : Rn} {q : Pr} {l : List Int} : SameR r (r.read q l) := ⟨rfl, rfl, rfl, rfl⟩
theorem doC_ok (L : HWork2 p ext F) {bt bd bm bb br : Nat} {sb rs ds : D} {t t' : Tb} {k : Bk} {r r' : Rn} {o : Op} {x : Rs} (h : doC t k r o = some (t', r', x)) : SameR r r' ∧ DoesW p ext F bt bd bm bb br sb rs ds t k r o x t' r' := by
 unfold doC at h
 by_cases c1 : o.kind = 1
 ·rw [if_pos c1] at h;unfold insC at h
  by_cases hc : (calmB k.l r.id && srtB (seenW t k r (keyQ o.row)) && decide ((seenW t k r (keyQ o.row)).length < 20) && decide (r.rds.length < 1000) && tokB t && tokB (addW t o.row r.id).1 && decide (o.row.length < 1000000)) = true
  ·rw [if_pos hc] at h;cases h;simp only [Bool.and_eq_true, decide_eq_true_eq] at hc;obtain ⟨⟨⟨⟨⟨⟨h1, h2⟩, h3⟩, h4⟩, h5⟩, h6⟩, h7⟩ := hc;exact ⟨sameR_read, fun H hw => work_do_ins L c1 hw (tokB_ok h5) (tokB_ok h6) h7 (calmB_ok h1) (srtB_ok h2) h3 h4⟩
  ·rw [if_neg hc] at h; cases h
 rw [if_neg c1] at h;cases h
structure StC where
 t : Tb
 k : Bk
 r : Rn
def mineC (k : Bk) (r : Rn) (sts : List Int) : Option (Nat × Tx) :=
 if decide (1 ≤ r.id) = true then match k.l[(r.id - 1).toNat]? with
  | some x => if sts.any (fun s => decide (x.st = s)) = true then some ((r.id - 1).toNat, x) else none
  | none => none
 else none
theorem mineC_ok {k : Bk} {r : Rn} {sts : List Int} {n : Nat} {x : Tx} (h : mineC k r sts = some (n, x)) : r.id = (n : Int) + 1 ∧ k.l[n]? = some x ∧ ∃ s, s ∈ sts ∧ x.st = s := by
 unfold mineC at h;split at h
 ·rename_i h1;have h1 := of_decide_eq_true h1;split at h
  ·rename_i y hy;split at h
   ·rename_i h2;cases h;rw [List.any_eq_true] at h2;obtain ⟨s, hs, e⟩ := h2;exact ⟨by omega, hy, s, hs, of_decide_eq_true e⟩
   ·cases h
  ·cases h
 ·cases h
def abortC (t : Tb) (k : Bk) (r : Rn) (e : Int) : Option (Int × StC) :=
 match mineC k r [1, 2] with
 | some (n, x) => if (eachB (abW r.id) t (idsF t.l) && tokB (eachW (abW r.id) t (idsF t.l))) = true then some (3, ⟨eachW (abW r.id) t (idsF t.l), k.to n x 4, r.over e⟩) else none
 | none => none
def beginC (t : Tb) (k : Bk) (r : Rn) : Option (Int × StC) :=
 if (decide (0 ≤ k.ticks ∧ k.ticks < 100000000) && decide (k.l.length < 999999)) = true then
  some (1, ⟨t, beginB k, (⟨r.ops, 1, r.i, (k.l.length : Int) + 1, (stateF (beginB k).l ((k.l.length : Int) + 1)).b, r.tm, r.res, r.rds, r.err⟩ : Rn).to 2 r.ops.length⟩) else none
def opC (t : Tb) (k : Bk) (r : Rn) : Option (Int × StC) :=
 if (decide (0 ≤ r.i) && decide (r.i < 1000000) && decide (r.res.length < 1000)) = true then
  match r.ops[r.i.toNat]? with
  | some o => match doC t k r o with
   | some (t', r', x) => if x.err = 0 then some (1, ⟨t', k, (r'.push x).next.to 2 r.ops.length⟩) else abortC t' k (r'.push x) x.err
   | none => none
  | none => none
 else none
def prepC (t : Tb) (k : Bk) (r : Rn) : Option (Int × StC) :=
 if decide (0 ≤ k.ticks ∧ k.ticks < 100000000) = true then match mineC k r [1] with
  | some (n, x) => some (1, ⟨t, prepF k n x, (⟨r.ops, 3, r.i, r.id, r.bg, k.ticks + 2, r.res, r.rds, r.err⟩ : Rn).to 4 r.rds.length⟩)
  | none => none
 else none
def againC (t : Tb) (k : Bk) (r : Rn) : Option (Int × StC) :=
 if (decide (0 ≤ r.i) && decide (r.i < 1000000)) = true then
  match r.rds[r.i.toNat]? with
  | some (q, ids) => if (calmB k.l r.id && q.l.isEmpty && decide ((nowW t k r q).length < 1000000)) = true then
    (if nowW t k r q = ids then some (1, ⟨t, k, r.next.to 4 r.rds.length⟩) else abortC t k r 6) else none
  | none => none
 else none
def commitC (t : Tb) (k : Bk) (r : Rn) : Option (Int × StC) :=
 match mineC k r [2] with
 | some (n, x) => if (eachB (cmW r) t (idsF t.l) && tokB (eachW (cmW r) t (idsF t.l))) = true then some (3, ⟨eachW (cmW r) t (idsF t.l), k.to n x 3, r.over r.err⟩) else none
 | none => none
def stepC (s : StC) : Option (Int × StC) :=
 if s.r.at_ = 0 then beginC s.t s.k s.r else if s.r.at_ = 1 then opC s.t s.k s.r else if s.r.at_ = 2 then prepC s.t s.k s.r else if s.r.at_ = 3 then againC s.t s.k s.r else if s.r.at_ = 4 then commitC s.t s.k s.r else none
theorem stepC_ok (L : HWork4 p ext F) {H : HpD} {bt bd bm bb br : Nat} {sb rs ds : D} {s s' : StC} {c : Int} (e : stepC s = some (c, s')) (h : Wk H bt bd bm bb br sb rs ds s.t s.k s.r) : WcD p ext (F 372) [.ptr br 0] H fun d H' => d = .lit (.int .i64 c) ∧ StepP H bt bd bm bb br sb rs ds s'.t s'.k s'.r H' := by
 obtain ⟨t, k, r⟩ := s;simp only at h;unfold stepC at e;simp only at e
 by_cases c0 : r.at_ = 0
 ·rw [if_pos c0] at e;unfold beginC at e;split at e
  ·rename_i hc;cases e;simp only [Bool.and_eq_true, decide_eq_true_eq] at hc;exact step_begin L h c0 hc.1 hc.2
  ·cases e
 rw [if_neg c0] at e
 by_cases c1 : r.at_ = 1
 ·rw [if_pos c1] at e;unfold opC at e;split at e
  ·rename_i hc;simp only [Bool.and_eq_true, decide_eq_true_eq] at hc;obtain ⟨⟨h1, h2⟩, h3⟩ := hc;split at e
   ·rename_i o ho;split at e
    ·rename_i t' r' x hd;obtain ⟨e1, e2⟩ := doC_ok L.w3.w2 (bt := bt) (bd := bd) (bm := bm) (bb := bb) (br := br) (sb := sb) (rs := rs) (ds := ds) hd;split at e
     ·rename_i he;cases e;exact step_op L h c1 (work_op_ok L.w3 h (i := r.i.toNat) (by omega) ho e2 e1 he h3 (by omega))
     ·rename_i he;unfold abortC at e;split at e
      ·rename_i n y hm;split at e
       ·rename_i hb;cases e;obtain ⟨m1, m2, st, m3, m4⟩ := mineC_ok hm;simp only [Bool.and_eq_true] at hb;have hid : (r'.push x).id = r.id := e1.id;rw [hid] at m1 hb ⊢;have m5 : y.st = 1 ∨ y.st = 2 := (by simp at m3; omega);have := step_op L h c1 (work_op_err L.w3 h (i := r.i.toNat) (by omega) ho e2 e1 he m1 m2 m5 (eachB_ok hb.1) (tokB_ok hb.2) h3 (by omega));exact this
       ·cases e
      ·cases e
    ·cases e
   ·cases e
  ·cases e
 rw [if_neg c1] at e
 by_cases c2 : r.at_ = 2
 ·rw [if_pos c2] at e;unfold prepC at e;split at e
  ·rename_i hc;have hc := of_decide_eq_true hc;split at e
   ·rename_i n x hm;cases e;obtain ⟨m1, m2, st, m3, m4⟩ := mineC_ok hm;exact step_prep L h c2 m1 m2 (by simp at m3; omega) hc
   ·cases e
  ·cases e
 rw [if_neg c2] at e
 by_cases c3 : r.at_ = 3
 ·rw [if_pos c3] at e;unfold againC at e;split at e
  ·rename_i hc;simp only [Bool.and_eq_true, decide_eq_true_eq] at hc;split at e
   ·rename_i q ids hq;split at e
    ·rename_i hb;simp only [Bool.and_eq_true, decide_eq_true_eq, List.isEmpty_iff] at hb;obtain ⟨⟨b1, b2⟩, b3⟩ := hb;have hp : PrS 1 q := ⟨by rw [b2]; simp, by rw [b2]; simp⟩;split at e
     ·rename_i he;cases e;exact step_again L h c3 (work_again_ok L.w3 h (i := r.i.toNat) (by omega) hq (by omega) hp (calmB_ok b1) he b3)
     ·rename_i he;unfold abortC at e;split at e
      ·rename_i n y hm;split at e
       ·rename_i hb;cases e;obtain ⟨m1, m2, st, m3, m4⟩ := mineC_ok hm;simp only [Bool.and_eq_true] at hb;exact step_again L h c3 (work_again_no L.w3 h (i := r.i.toNat) (by omega) hq (by omega) hp (calmB_ok b1) he m1 m2 (by simp at m3; omega) (eachB_ok hb.1) (tokB_ok hb.2) b3)
       ·cases e
      ·cases e
    ·cases e
   ·cases e
  ·cases e
 rw [if_neg c3] at e
 by_cases c4 : r.at_ = 4
 ·rw [if_pos c4] at e;unfold commitC at e;split at e
  ·rename_i n x hm;split at e
   ·rename_i hb;cases e;obtain ⟨m1, m2, st, m3, m4⟩ := mineC_ok hm;simp only [Bool.and_eq_true] at hb;refine step_close L h c4 (work_close L.w3 h fun {H1} s1 => ?_);have := work_commit L.w3 (h.mono s1) m1 m2 (by simp at m3; omega) (eachB_ok hb.1) (tokB_ok hb.2);exact this.mono fun d H' ⟨e, o⟩ => ⟨e, StepP.sub s1 h o⟩
   ·cases e
  ·cases e
 rw [if_neg c4] at e;cases e
end Go.Lib
end

section
namespace Go.Lib
open Go.Vm Go.Dv
set_option maxRecDepth 100000
abbrev K413 (F : Nat → Nat) : KC := .seq (.region [⟨some 6,.p (.mov (.val (.nilptr))),none⟩,⟨some 7,.p (.mov (.val (.bool false))),none⟩] [] [0,1,2])
 (.seq (.region [mv 10 0,mv 11 1,mv 12 2,⟨some 13,.e (.call (F 371) [(.tmp 10),(.tmp 11),(.tmp 12)]),none⟩,mv 8 13] [] [8])
 (.seq (.seq (.region [mv 14 8,⟨some 15,.p (.eq .ptr false (.tmp 14) (.val (.nilptr))),none⟩] [] [8,15])
 (.cond (.tmp 15) (.seq (.region [⟨some 6,.p (.mov (.val (.nilptr))),none⟩,⟨some 7,.p (.mov (.val (.bool false))),none⟩] [] [6,7])
 (.ret))
 (.skip)))
 (.seq (.seq (.region [mi 9 0] [] [8,9])
 (.block 0 (.loop (.seq (.seq (.region [mv 16 9,bi 17 .lss 16 60] [] [8,9,17])
 (.cond (.tmp 17) (.skip)
 (.exit 0)))
 (.seq (.block 1 (.seq (.region [mv 20 8,⟨some 21,.e (.call (F 372) [(.tmp 20)]),none⟩] [] [8,9,21])
 (.block 2 (.seq (.region [bi 23 .eql 21 2,mv 22 23] [] [8,9,21,22])
 (.cond (.tmp 22) (.seq (.region [⟨some 6,.p (.mov (.val (.nilptr))),none⟩,⟨some 7,.p (.mov (.val (.bool false))),none⟩] [] [6,7])
 (.ret))
 (.seq (.region [bi 25 .eql 21 3,mv 24 25] [] [8,9,24])
 (.cond (.tmp 24) (.seq (.region [mv 26 8,mv 6 26,⟨some 7,.p (.mov (.val (.bool true))),none⟩] [] [6,7])
 (.ret))
 (.skip))))))))
 (.region [mv 18 9,bi 19 .add 18 1,mv 9 19] [] [8,9]))))))
 (.seq (.region [⟨some 6,.p (.mov (.val (.nilptr))),none⟩,⟨some 7,.p (.mov (.val (.bool false))),none⟩] [] [6,7])
 (.ret)))))
def M413 (F : Nat → Nat) : Fun := ⟨27,3,(K413 F).erase,[.tmp 6,.tmp 7]⟩
theorem ok413 {F : Nat → Nat} : (K413 F).ok = true := by kernel_rfl
abbrev K414 (F : Nat → Nat) : KC := .seq (.region [⟨some 4,.p (.mov (.val (.bool false))),none⟩] [] [0,1])
 (.seq (.region [⟨some 16,.p (.build [.str [],.int .i64 (.ofNat 0),.bool false] [(0,1,(.val (.str [107,101,121]))),(1,1,(.val (.int .i64 (.ofNat 1))))]),none⟩,⟨some 17,.p (.build [.str [],.int .i64 (.ofNat 0),.bool false] [(0,1,(.val (.str [97]))),(1,1,(.val (.int .i64 (.ofNat 1))))]),none⟩,⟨some 18,.a (.bslice [.str [],.int .i64 (.ofNat 0),.bool false,.str [],.int .i64 (.ofNat 0),.bool false] 3 2 [(0,3,(.tmp 16)),(3,3,(.tmp 17))]),none⟩,⟨some 19,.p (.build [.nilslice] [(0,1,(.tmp 18))]),none⟩,⟨some 5,.a (.new [.nilslice]),none⟩,⟨none,.e (.store 1 (.tmp 5) (.tmp 19)),none⟩] [18] [0,1,5])
 (.seq (.region [mv 20 0,bi 21 .and 20 7,bi 22 .add 21 1,mv 23 1,bi 24 .and 23 7,mv 0 22,mv 1 24] [] [0,1,5])
 (.seq (.region [ln 26 1 5,mv 27 0,⟨some 28,.e (.call (F 303) [(.tmp 26),(.tmp 27),(.val (.int .i64 (.ofNat 0)))]),none⟩,mv 25 28,et 29 25 0,et 30 25 1,mv 6 29,mv 7 30] [] [0,1,6,7])
 (.seq (.region [⟨some 31,.e (.call (F 345) []),none⟩,mv 8 31] [] [0,1,6,7,8])
 (.seq (.seq (.region [mv 32 7,⟨some 33,.p (.not (.tmp 32)),none⟩,mv 34 33,⟨some 35,.p (.mov (.tmp 6)),(some (34,false))⟩,⟨some 36,.p (.eq .ptr false (.tmp 35) (.val (.nilptr))),(some (34,false))⟩,⟨some 37,.p (.pick (.tmp 34) (.val (.bool true)) (.tmp 36)),none⟩,mv 38 37,⟨some 39,.p (.mov (.tmp 8)),(some (38,false))⟩,⟨some 40,.p (.eq .ptr false (.tmp 39) (.val (.nilptr))),(some (38,false))⟩,⟨some 41,.p (.pick (.tmp 38) (.val (.bool true)) (.tmp 40)),none⟩] [] [0,1,6,8,41])
 (.cond (.tmp 41) (.seq (.region [⟨some 4,.p (.mov (.val (.bool false))),none⟩] [] [4])
 (.ret))
 (.skip)))
 (.seq (.region [⟨some 9,.p (.mov (.val (.func (F 415) [] []))),none⟩] [] [0,1,6,8,9])
 (.seq (.seq (.region [mv 43 6,mv 44 8,mv 45 9,⟨some 46,.e (.callv (.tmp 45) [(.val (.int .i64 (.ofNat 50)))]),none⟩,mv 47 9,⟨some 48,.e (.callv (.tmp 47) [(.val (.int .i64 (.ofNat 0)))]),none⟩,⟨some 49,.a (.bslice [.bool false,.int .i64 (.ofNat 0),.int .i64 (.ofNat 0),.nilslice,.bool false,.int .i64 (.ofNat 0),.int .i64 (.ofNat 0),.nilslice] 4 2 [(0,4,(.tmp 46)),(4,4,(.tmp 48))]),none⟩,⟨some 50,.p (.build [.int .i64 (.ofNat 0),.nilslice,.int .i64 (.ofNat 0),.int .i64 (.ofNat 0),.int .i64 (.ofNat 0),.bool false,.int .i64 (.ofNat 0),.int .i64 (.ofNat 0),.nilslice,.nilslice,.nilslice,.nilslice,.int .i64 (.ofNat 0),.nilslice] [(0,1,(.val (.int .i64 (.ofNat 1)))),(1,1,(.tmp 49))]),none⟩,⟨some 51,.a (.bslice [.int .i64 (.ofNat 0),.nilslice,.int .i64 (.ofNat 0),.int .i64 (.ofNat 0),.int .i64 (.ofNat 0),.bool false,.int .i64 (.ofNat 0),.int .i64 (.ofNat 0),.nilslice,.nilslice,.nilslice,.nilslice,.int .i64 (.ofNat 0),.nilslice] 14 1 [(0,14,(.tmp 50))]),none⟩,⟨some 52,.e (.call (F 413) [(.tmp 43),(.tmp 44),(.tmp 51)]),none⟩,mv 42 52,et 53 42 0,et 54 42 1,mv 10 53,mv 11 54] [49,51] [0,1,6,8,9,11])
 (.seq (.region [mv 55 11,⟨some 56,.p (.not (.tmp 55)),none⟩] [] [0,1,6,8,9,56])
 (.cond (.tmp 56) (.seq (.region [⟨some 4,.p (.mov (.val (.bool false))),none⟩] [] [4])
 (.ret))
 (.skip))))
 (.seq (.region [⟨some 12,.p (.mov (.val (.nilslice))),none⟩] [] [0,1,6,8,9,12])
 (.seq (.seq (.region [mi 13 0] [] [0,1,6,8,9,12,13])
 (.block 0 (.loop (.seq (.seq (.region [mv 57 13,mv 58 1,bt 59 .lss 57 58] [] [0,1,6,8,9,12,13,59])
 (.cond (.tmp 59) (.skip)
 (.exit 0)))
 (.seq (.block 1 (.region [mv 62 12,mv 63 9,mv 64 13,⟨some 65,.e (.callv (.tmp 63) [(.tmp 64)]),none⟩,mv 66 9,mv 67 13,⟨some 68,.e (.callv (.tmp 66) [(.tmp 67)]),none⟩,⟨some 69,.a (.bslice [.bool false,.int .i64 (.ofNat 0),.int .i64 (.ofNat 0),.nilslice,.bool false,.int .i64 (.ofNat 0),.int .i64 (.ofNat 0),.nilslice] 4 2 [(0,4,(.tmp 65)),(4,4,(.tmp 68))]),none⟩,⟨some 70,.p (.build [.int .i64 (.ofNat 0),.nilslice,.int .i64 (.ofNat 0),.int .i64 (.ofNat 0),.int .i64 (.ofNat 0),.bool false,.int .i64 (.ofNat 0),.int .i64 (.ofNat 0),.nilslice,.nilslice,.nilslice,.nilslice,.int .i64 (.ofNat 0),.nilslice] [(0,1,(.val (.int .i64 (.ofNat 1)))),(1,1,(.tmp 69))]),none⟩,⟨some 71,.a (.bslice [.int .i64 (.ofNat 0),.nilslice,.int .i64 (.ofNat 0),.int .i64 (.ofNat 0),.int .i64 (.ofNat 0),.bool false,.int .i64 (.ofNat 0),.int .i64 (.ofNat 0),.nilslice,.nilslice,.nilslice,.nilslice,.int .i64 (.ofNat 0),.nilslice] 14 1 [(0,14,(.tmp 70))]),none⟩,⟨some 72,.e (.append 14 208 (.tmp 62) (.tmp 71)),none⟩,mv 12 72] [69,71] [0,1,6,8,9,12,13]))
 (.region [mv 60 13,bi 61 .add 60 1,mv 13 61] [] [0,1,6,8,9,12,13]))))))
 (.seq (.region [mv 74 6,mv 75 8,mv 76 12,⟨some 77,.e (.call (F 413) [(.tmp 74),(.tmp 75),(.tmp 76)]),none⟩,mv 73 77,et 78 73 0,et 79 73 1,mv 14 78,mv 15 79] [] [0,1,6,14,15])
 (.seq (.seq (.region [mv 80 15,⟨some 81,.p (.not (.tmp 80)),none⟩] [] [0,1,6,14,81])
 (.cond (.tmp 81) (.seq (.region [⟨some 4,.p (.mov (.val (.bool false))),none⟩] [] [4])
 (.ret))
 (.skip)))
 (.seq (.seq (.region [mv 82 1,mv 83 0,bt 84 .lss 82 83] [] [0,1,6,14,84])
 (.cond (.tmp 84) (.seq (.region [mv 85 14,⟨some 86,.e (.call (F 373) [(.tmp 85)]),none⟩,bi 87 .eql 86 0,mv 88 87,⟨some 89,.p (.mov (.tmp 6)),(some (88,true))⟩,⟨some 90,.e (.call (F 310) [(.tmp 89)]),(some (88,true))⟩,⟨some 91,.p (.lenb (.tmp 90)),(some (88,true))⟩,⟨some 92,.p (.mov (.tmp 1)),(some (88,true))⟩,⟨some 93,.p (.bin .add (.val (.int .i64 (.ofNat 1))) (.tmp 92)),(some (88,true))⟩,⟨some 94,.p (.bin .eql (.tmp 91) (.tmp 93)),(some (88,true))⟩,⟨some 95,.p (.pick (.tmp 88) (.tmp 94) (.val (.bool false))),none⟩,mv 96 95,⟨some 97,.e (.call (F 423) []),(some (96,true))⟩,⟨some 98,.p (.pick (.tmp 96) (.tmp 97) (.val (.bool false))),none⟩,mv 4 98] [] [4])
 (.ret))
 (.skip)))
 (.seq (.region [mv 99 14,⟨some 100,.e (.call (F 373) [(.tmp 99)]),none⟩,bi 101 .eql 100 4,mv 102 101,⟨some 103,.p (.mov (.tmp 6)),(some (102,true))⟩,⟨some 104,.e (.call (F 310) [(.tmp 103)]),(some (102,true))⟩,⟨some 105,.p (.lenb (.tmp 104)),(some (102,true))⟩,⟨some 106,.p (.bin .eql (.tmp 105) (.val (.int .i64 (.ofNat 1)))),(some (102,true))⟩,⟨some 107,.p (.pick (.tmp 102) (.tmp 106) (.val (.bool false))),none⟩,mv 108 107,⟨some 109,.p (.mov (.tmp 14)),(some (108,true))⟩,⟨some 110,.e (.call (F 374) [(.tmp 109)]),(some (108,true))⟩,⟨some 111,.p (.lenb (.tmp 110)),(some (108,true))⟩,⟨some 112,.p (.mov (.tmp 0)),(some (108,true))⟩,⟨some 113,.p (.bin .eql (.tmp 111) (.tmp 112)),(some (108,true))⟩,⟨some 114,.p (.pick (.tmp 108) (.tmp 113) (.val (.bool false))),none⟩,mv 115 114,⟨some 116,.e (.call (F 423) []),(some (115,true))⟩,⟨some 117,.p (.pick (.tmp 115) (.tmp 116) (.val (.bool false))),none⟩,mv 4 117] [] [4])
 (.ret))))))))))))))
def M414 (F : Nat → Nat) : Fun := ⟨118,2,(K414 F).erase,[.tmp 4]⟩
theorem ok414 {F : Nat → Nat} : (K414 F).ok = true := by kernel_rfl
abbrev K415 (_F : Nat → Nat) : KC := .seq (.region [⟨some 2,.a (.new [.bool false,.int .i64 (.ofNat 0),.int .i64 (.ofNat 0),.nilslice]),none⟩] [] [0,2])
 (.seq (.region [mv 3 0,⟨some 4,.p (.build [.bool false,.int .i64 (.ofNat 0),.int .i64 (.ofNat 0),.nilslice] [(1,1,(.val (.int .i64 (.ofNat 1)))),(2,1,(.tmp 3))]),none⟩,⟨none,.e (.store 4 (.tmp 2) (.tmp 4)),none⟩] [] [2])
 (.ret))
def M415 (F : Nat → Nat) : Fun := ⟨5,1,(K415 F).erase,[.celln 4 2]⟩
theorem ok415 {F : Nat → Nat} : (K415 F).ok = true := by kernel_rfl
end Go.Lib
end

section
set_option maxRecDepth 10000
namespace Go.Lib
open Go.Vm Go.Dv
variable {p : Prog} {ext : Ext} {F : Nat → Nat}
section
variable {H : HpD} {bt bd bm bb br : Nat} {sb rs ds : D} {t : Tb} {k : Bk} {r : Rn}
structure HLaw20 (p : Prog) (ext : Ext) (F : Nat → Nat) : Prop where
 nw : HNewW p ext F
 h413 : Has p ext F 413 M413
def runC : Nat → StC → Option StC
 | 0, _ => none
 | n + 1, s => match stepC s with
  | some (c, s') => if c = 3 then some s' else if c = 1 then runC n s' else none
  | none => none
def LeftX (bt bm bb : Nat) (sb : D) (x : Nat) : Prop := x = bt ∨ x = bm ∨ x = bb ∨ sb.hasB x
def AloneP (H : HpD) (bt bd bm bb : Nat) (sb : D) (br : Nat) (s : StC) (H' : HpD) : Prop :=
 ∃ sb' rs' ds', Wk H' bt bd bm bb br sb' rs' ds' s.t s.k s.r ∧ Wr H H' (LeftX bt bm bb sb) ∧ (∀ x, sb'.hasB x → sb.hasB x ∨ H.next ≤ x) ∧ H.next ≤ br ∧ (∀ x, rs'.hasB x → H.next ≤ x) ∧ ∀ x, ds'.hasB x → H.next ≤ x
theorem AloneP.step {A B : HpD} {s' : StC} {sb1 rs1 ds1 : D} (w1 : Wr H A (LeftX bt bm bb sb)) (f1 : ∀ x, sb1.hasB x → sb.hasB x ∨ H.next ≤ x) (f2 : H.next ≤ br) (f3 : ∀ x, rs1.hasB x → H.next ≤ x) (f4 : ∀ x, ds1.hasB x → H.next ≤ x) (hs : StepP A bt bd bm bb br sb1 rs1 ds1 s'.t s'.k s'.r B) : AloneP H bt bd bm bb sb br s' B := by
 obtain ⟨sb2, rs2, ds2, h2, w2, g1, g2, g3⟩ := hs;have n1 := w1.next;refine ⟨sb2, rs2, ds2, h2, ⟨Nat.le_trans w1.next w2.next, fun x hx hX => ?_⟩, fun x hx => ?_, f2, fun x hx => ?_, fun x hx => ?_⟩
 ·simp only [LeftX, not_or] at hX;rw [w2.blk x (by omega), w1.blk x hx (by simp only [LeftX, not_or]; exact hX)];rintro (e | e | e | e | e | e | e)
  ·omega
  ·exact hX.1 e
  ·exact hX.2.1 e
  ·exact hX.2.2.1 e
  ·rcases f1 x e with h | h
   ·exact hX.2.2.2 h
   ·omega
  ·have := f3 x e; omega
  ·have := f4 x e; omega
 ·rcases g1 x hx with h | h
  ·exact f1 x h
  ·exact .inr (by omega)
 ·rcases g2 x hx with h | h
  ·exact f3 x h
  ·omega
 ·rcases g3 x hx with h | h
  ·exact f4 x h
  ·omega
def AlI (H : HpD) (bt bd bm bb : Nat) (sb : D) (br : Nat) (sf : StC) (w : Nat) (fr : FrD) (H' : HpD) : Prop :=
 ∃ (i : Nat) (s : StC), w = 60 - i ∧ i ≤ 60 ∧ fr = [(8, .ptr br 0), (9, .lit (.int .i64 (i : Int)))] ∧ runC (60 - i) s = some sf ∧ AloneP H bt bd bm bb sb br s H'
theorem law20_alone (L : HLaw20 p ext F) {m : Md} {l : List PO} {sf : StC} (h : TbAt H bt bd bm bb sb t k) (hl : l.length < 1000) (ho : ∀ x, x ∈ l → x.Ok H) (hr : runC 60 ⟨t, k, run0 (l.map PO.op)⟩ = some sf) : WcD p ext (F 413) [.ptr bt 0, .ptr bb 0, .row 14 m (l.map PO.cs)] H (fun d H' => d = .tup [.ptr H.next 0, .lit (.bool true)] ∧ AloneP H bt bd bm bb sb H.next sf H') := by
 refine wc_of L.h413 (M := M413) rfl ok413 rfl (sem_run 9000 _ ?_);simp;refine sem_call (work_new L.nw h hl ho) ?_;rintro _ H1 ⟨rfl, h1, s1⟩;refine sem_run 9000 _ ?_;simp;have o1 : AloneP H bt bd bm bb sb H.next ⟨t, k, run0 (l.map PO.op)⟩ H1 := ⟨sb, _, _, h1, ⟨s1.next, fun x hx _ => s1.blk x hx⟩, fun _ => .inl, Nat.le_refl _, fun x hx => by simp [D.hasB] at hx, fun x hx => by simp [D.hasB] at hx⟩;refine sem_loop (AlI H bt bd bm bb sb H.next sf) ?_ (k := 60) ⟨0, _, rfl, by omega, rfl, hr, o1⟩;rintro w fr H' ⟨i, s, rfl, hi, rfl, hs, o⟩
 have hw : wr .i64 ((i : Int) + 1) = ((i + 1 : Nat) : Int) := by rw [wr_of] <;> omega
 by_cases c : i < 60
 ·obtain ⟨j, hj⟩ : ∃ j, 60 - i = j + 1 := ⟨60 - i - 1, by omega⟩;rw [hj] at hs;unfold runC at hs;split at hs
  ·rename_i c1 s' hst;obtain ⟨sb', rs', ds', hk, ow⟩ := id o;have hc' : (i : Int) < 60 := (by omega);refine sem_run 9000 _ ?_;simp [hc'];refine sem_call (stepC_ok L.nw.w4 hst hk) ?_;rintro _ H2 ⟨rfl, o2⟩;obtain ⟨w1, f1, f2, f3, f4⟩ := ow;have o3 : AloneP H bt bd bm bb sb H.next s' H2 := AloneP.step w1 f1 f2 f3 f4 o2;split at hs
   ·rename_i e3;cases hs;subst e3;refine sem_run 9000 _ ?_;simp;refine sem_ret ?_;simp;refine sem_ret ?_;simp [M413];exact o3
   ·rename_i e3;split at hs
    ·rename_i e1;subst e1;refine sem_run 9000 _ ?_;simp;refine sem_ok ?_;refine ⟨_, by omega, i + 1, s', rfl, by omega, by rw [hw], ?_, o3⟩;rw [show 60 - (i + 1) = j by omega]; exact hs
    ·cases hs
  ·cases hs
 ·have : i = 60 := (by omega);subst this;unfold runC at hs;cases hs
end
end Go.Lib
end

section
set_option maxRecDepth 100000
namespace Go.Lib
open Go.Vm Go.Dv
def s2 : Sch := [⟨[107, 101, 121], 1, false⟩, ⟨[97], 1, false⟩]
def nVl (n : Int) : Vl := ⟨false, 1, n, [], by simp⟩
def insP (a b : Int) : PO := ⟨1, [nVl a, nVl b], 0, 0, 0, false, 0, 0, [], [], 0, [], .lit .nilslice⟩
def tab0 (most : Int) : Tb := ⟨s2, min (max most 1) 1000, min (max 0 0) 100, 0, []⟩
def opsFull (m : Nat) : List PO := (List.range m).map fun (i : Nat) => insP (i : Int) (i : Int)
def fullA (n : Nat) : Option StC := runC 60 ⟨tab0 n, ⟨0, []⟩, run0 [(insP 50 0).op]⟩
def fullB (s : StC) (m : Nat) : Option StC := runC 60 ⟨s.t, s.k, run0 ((opsFull m).map PO.op)⟩
def fullC (n m : Nat) : Bool := match fullA n with
 | some s => decide (s.k.l.length < 1000) && tokB s.t && match fullB s m with
  | some s' => (s'.r.res.all fun x => x.rows.isEmpty) && decide (s'.k.l.length < 1000) && tokB s'.t && if m < n then decide (s'.r.err = 0) && decide (s'.t.l.length = 1 + m) else decide (s'.r.err = 4) && decide (s'.t.l.length = 1) && decide (s'.r.res.length = n)
  | none => false
 | none => false
theorem full_all : ∀ n : Fin 8, ∀ m : Fin 8, fullC (n.val + 1) m.val = true := by decide +kernel
end Go.Lib
end
