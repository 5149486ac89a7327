/-
 Texts that the claim's last one rests on, joined.
-/
import Derived.Test.YtcpfgjkhjadgoaaGreatDoorBProgBackj
import Derived.Test.YtcpfgjkhjadgoaaGreatDoorBProgBackf
import Derived.Test.YtcpfgjkhjadgoaaGreatDoorBProgBacki

section
set_option maxRecDepth 10000
namespace Go.Lib
open Go.Vm Go.Dv Go.Srt
variable {p : Prog} {ext : Ext} {F : Nat → Nat}
attribute [-simp] bin_and bin_xor
theorem idx_ext {f : Nat} {g : SG} (hx : ∀ args h, ext f args h = strV g .idx args h) (hg : FullGl p g) {s sep : List Nat} (hl : s.length ≤ 4294967280) :
  FnD p ext f [.lit (.str s), .lit (.str sep)] (.lit (.int .i64 (oInt (indexN s sep)))) := by
 intro H ψ S h vs sr k;simp only [VDl] at k;obtain ⟨v, r, rfl, k1, w, r2, rfl, k2, rfl⟩ := k;simp only [VD] at k1 k2;obtain ⟨rfl, _⟩ := k1;obtain ⟨rfl, _⟩ := k2;have hm := (sr.gl g.max _ hg.max).2;refine wpc_ext (v := .int .i64 (oInt (indexN s sep))) (h' := h) ?_ ⟨ψ, S, _, H, .refl, sr, ?_, rfl, rfl⟩
 ·rw [hx];simp only [strV, hm, cond_true];rw [nble.2 hl];rfl
 ·simp [VD, atomV]
theorem trimS_ext {f : Nat} {g : SG} (hx : ∀ args h, ext f args h = strV g .trimS args h) {s sep : List Nat} (hl : s.length ≤ 4294967280) :
  FnD p ext f [.lit (.str s), .lit (.str sep)] (.lit (.str (trimSN s sep))) := by
 intro H ψ S h vs sr k;simp only [VDl] at k;obtain ⟨v, r, rfl, k1, w, r2, rfl, k2, rfl⟩ := k;simp only [VD] at k1 k2;obtain ⟨rfl, _⟩ := k1;obtain ⟨rfl, _⟩ := k2;refine wpc_ext (v := .str (trimSN s sep)) (h' := h) ?_ ⟨ψ, S, _, H, .refl, sr, ?_, rfl, rfl⟩
 ·rw [hx];simp only [strV];rw [nble.2 hl];rfl
 ·simp [VD, atomV]
abbrev intC (n : Int) : List D := [.lit (.int .i64 n)]
theorem parsF_len {α : Type} {f : Nat → List Nat → α × Bool} : ∀ {l : List (List Nat)} {i : Nat} {acc : List α}, (parsF f i l acc).1.length ≤ acc.length + l.length
 | [], i, acc => by simp [parsF]
 | x :: l, i, acc => by
  unfold parsF;split
  ·have := parsF_len (f := f) (l := l) (i := i + 1) (acc := acc ++ [(f i x).1]);simp only [List.length_append, List.length_cons, List.length_nil] at this ⊢; omega
  ·simp
def PpVI (H0 : HpD) (f : Nat → List Nat → Vl × Bool) (fv : D) (l : List (List Nat)) (w : Nat) (fr : FrD) (H : HpD) : Prop :=
 ∃ (i : Nat) (t : D) (acc : List Vl), w = l.length - i ∧ i ≤ l.length ∧ acc.length = i ∧ parsF f 0 l [] = parsF f i (l.drop i) acc ∧ fr = [(1, fv), (6, t), (12, strsD l), (13, .lit (.int .i64 (l.length : Int))), (14, .lit (.int .i64 (i : Int)))] ∧ Gr H0 H 4 t (acc.map Vl.c)
theorem parsV {gs : SG} (hx : ∀ args h, ext (F 202) args h = strV gs .split args h) (hg : FullGl p gs) (L : Has p ext F 287 M287) {g : Nat} {cap : D} {f : Nat → List Nat → Vl × Bool} {t : List Nat} (hl : t.length < 100000) (hb : ∀ c, c ∈ t → c < 256)
  (hf : ∀ (i : Nat) x, i < 200000 → x.length < 100000 → (∀ c, c ∈ x → c < 256) → FnD p ext g [.lit (.int .i64 (i : Int)), .lit (.str x), cap] (.tup [.agg ((f i x).1).c, .lit (.bool (f i x).2)])) : FnD p ext (F 287) [.lit (.str t), .func g [] [cap]] (.tup [rowD (partF f t).1, .lit (.bool (partF f t).2)]) := by
 refine fn_of L (M := M287) rfl ok287 rfl fun H => sem_run 9000 _ ?_;obtain ⟨l, hsp⟩ : ∃ l, Vm.splitN t [44] = l := ⟨_, rfl⟩
 have hlen : l.length ≤ t.length + 2 := by rw [← hsp]; exact (split_parts (f := t.length + 1) (s := t)).1
 have hmem : ∀ x, x ∈ l → x.length < 100000 ∧ ∀ c, c ∈ x → c < 256 := fun x hx => by
  rw [← hsp] at hx;obtain ⟨h1, h2⟩ := (split_parts (f := t.length + 1) (s := t)).2 x hx;exact ⟨by omega, fun c h => hb c (h2 c h)⟩
 have hP : partF f t = parsF f 0 l [] := (by unfold partF; rw [hsp]);rw [hP];simp;refine sf (split_ext hx hg (s := t) (c := 44) (sep := []) (by omega)) ?_;rw [hsp];clear hsp hP;simp;refine sem_loop (PpVI H f (.func g [] [cap]) l) ?_ (k := l.length) ⟨0, .lit .nilslice, [], by simp, by simp, rfl, by simp, rfl, by simpa using Gr.start⟩;rintro w fr H' ⟨i, tt, acc, rfl, hi, hacc, hall, rfl, gr⟩
 by_cases c : i < l.length
 ·obtain ⟨x, hx⟩ : ∃ x, l[i]? = some x := ⟨_, List.getElem?_eq_getElem c⟩;have hxi : l[i] = x := (by rw [List.getElem?_eq_getElem c] at hx; exact Option.some.inj hx);have hxm := hmem x (List.mem_of_getElem? hx);have hw : wr .i64 ((i : Int) + 1) = ((i + 1 : Nat) : Int) := (by rw [wr_of] <;> omega);have hdr : l.drop i = x :: l.drop (i + 1) := (by rw [List.drop_eq_getElem_cons c, hxi]);rw [hdr] at hall;refine sem_run 9000 _ ?_;simp;simp [c, hxi];refine sf (hf i x (by omega) hxm.1 hxm.2) ?_;obtain ⟨y, hy⟩ : ∃ y, (f i x).1 = y := ⟨_, rfl⟩
  cases hok : (f i x).2 with
  | false =>
   simp [hy];refine sem_ret ?_;simp [M287];refine sem_ret ?_;simp;rw [hall, show parsF f i (x :: l.drop (i + 1)) acc = ([], false) by unfold parsF; rw [if_neg (by rw [hok]; simp)]];have sb := gr.sub;exact .le (sB sb) (by simp [D.le, D.les, rowD, rowE]) (by simp [D.under, D.unders, row_under])
  | true =>
   simp [hy];have hal : (acc.map Vl.c).length ≤ 100001 := (by rw [List.length_map]; omega);refine sem_push (gr.mono sR) (by simp) (by simp) (roomyD (by omega) (by omega)) fun s' H1 g1 _ _ => ?_;simp;refine sem_ok ?_;refine ⟨_, by omega, i + 1, s', acc ++ [y], rfl, by omega, by simp [hacc], ?_, by rw [hw], ?_⟩
   ·rw [hall];show (if (f i x).2 = true then _ else _) = _;rw [if_pos hok, hy]
   ·rw [List.map_append]; exact g1
 ·have : i = l.length := (by omega);subst this;rw [List.drop_length, parsF] at hall;refine sem_turn gr 6 (by simp) fun H1 s1 _ _ => ?_;refine sem_run 9000 _ ?_;simp;refine sem_exit (sem_run 9000 _ ?_);simp;refine sem_ret ?_;simp [M287];rw [hall];exact .le s1 (by simp [D.le, D.les]; exact D.le_refl _) (by simp [D.under, D.unders, row_under])
def PpSI (H0 : HpD) (f : Nat → List Nat → Sx × Bool) (fv : D) (l : List (List Nat)) (w : Nat) (fr : FrD) (H : HpD) : Prop :=
 ∃ (i : Nat) (t : D) (acc : List Sx), w = l.length - i ∧ i ≤ l.length ∧ acc.length = i ∧ parsF f 0 l [] = parsF f i (l.drop i) acc ∧ fr = [(1, fv), (6, t), (12, strsD l), (13, .lit (.int .i64 (l.length : Int))), (14, .lit (.int .i64 (i : Int)))] ∧ Gr H0 H 6 t (acc.map Sx.c)
theorem parsS {gs : SG} (hx : ∀ args h, ext (F 202) args h = strV gs .split args h) (hg : FullGl p gs) (L : Has p ext F 289 M289) {g : Nat} {cap : D} {f : Nat → List Nat → Sx × Bool} {t : List Nat} (hl : t.length < 100000) (hb : ∀ c, c ∈ t → c < 256)
  (hf : ∀ (i : Nat) x, i < 200000 → x.length < 100000 → (∀ c, c ∈ x → c < 256) → FnD p ext g [.lit (.int .i64 (i : Int)), .lit (.str x), cap] (.tup [.agg ((f i x).1).c, .lit (.bool (f i x).2)])) : FnD p ext (F 289) [.lit (.str t), .func g [] [cap]] (.tup [sxsD (partF f t).1, .lit (.bool (partF f t).2)]) := by
 refine fn_of L (M := M289) rfl ok289 rfl fun H => sem_run 9000 _ ?_;obtain ⟨l, hsp⟩ : ∃ l, Vm.splitN t [44] = l := ⟨_, rfl⟩
 have hlen : l.length ≤ t.length + 2 := by rw [← hsp]; exact (split_parts (f := t.length + 1) (s := t)).1
 have hmem : ∀ x, x ∈ l → x.length < 100000 ∧ ∀ c, c ∈ x → c < 256 := fun x hx => by
  rw [← hsp] at hx;obtain ⟨h1, h2⟩ := (split_parts (f := t.length + 1) (s := t)).2 x hx;exact ⟨by omega, fun c h => hb c (h2 c h)⟩
 have hP : partF f t = parsF f 0 l [] := (by unfold partF; rw [hsp]);rw [hP];simp;refine sf (split_ext hx hg (s := t) (c := 44) (sep := []) (by omega)) ?_;rw [hsp];clear hsp hP;simp;refine sem_loop (PpSI H f (.func g [] [cap]) l) ?_ (k := l.length) ⟨0, .lit .nilslice, [], by simp, by simp, rfl, by simp, rfl, by simpa using Gr.start⟩;rintro w fr H' ⟨i, tt, acc, rfl, hi, hacc, hall, rfl, gr⟩
 by_cases c : i < l.length
 ·obtain ⟨x, hx⟩ : ∃ x, l[i]? = some x := ⟨_, List.getElem?_eq_getElem c⟩;have hxi : l[i] = x := (by rw [List.getElem?_eq_getElem c] at hx; exact Option.some.inj hx);have hxm := hmem x (List.mem_of_getElem? hx);have hw : wr .i64 ((i : Int) + 1) = ((i + 1 : Nat) : Int) := (by rw [wr_of] <;> omega);have hdr : l.drop i = x :: l.drop (i + 1) := (by rw [List.drop_eq_getElem_cons c, hxi]);rw [hdr] at hall;refine sem_run 9000 _ ?_;simp;simp [c, hxi];refine sf (hf i x (by omega) hxm.1 hxm.2) ?_;obtain ⟨y, hy⟩ : ∃ y, (f i x).1 = y := ⟨_, rfl⟩
  cases hok : (f i x).2 with
  | false =>
   simp [hy];refine sem_ret ?_;simp [M289];refine sem_ret ?_;simp;rw [hall, show parsF f i (x :: l.drop (i + 1)) acc = ([], false) by unfold parsF; rw [if_neg (by rw [hok]; simp)]];have sb := gr.sub;exact .le (sB sb) (by simp [D.le, D.les, sxsD, sxsE]) (by simp [D.under, D.unders, sxs_under])
  | true =>
   simp [hy];have hal : (acc.map Sx.c).length ≤ 100001 := (by rw [List.length_map]; omega);refine sem_push (gr.mono sR) (by simp) (by simp) (roomyD (by omega) (by omega)) fun s' H1 g1 _ _ => ?_;simp;refine sem_ok ?_;refine ⟨_, by omega, i + 1, s', acc ++ [y], rfl, by omega, by simp [hacc], ?_, by rw [hw], ?_⟩
   ·rw [hall];show (if (f i x).2 = true then _ else _) = _;rw [if_pos hok, hy]
   ·rw [List.map_append]; exact g1
 ·have : i = l.length := (by omega);subst this;rw [List.drop_length, parsF] at hall;refine sem_turn gr 6 (by simp) fun H1 s1 _ _ => ?_;refine sem_run 9000 _ ?_;simp;refine sem_exit (sem_run 9000 _ ?_);simp;refine sem_ret ?_;simp [M289];rw [hall];exact .le s1 (by simp [D.le, D.les]; exact D.le_refl _) (by simp [D.under, D.unders, sxs_under])
def PpII (H0 : HpD) (f : Nat → List Nat → Int × Bool) (fv : D) (l : List (List Nat)) (w : Nat) (fr : FrD) (H : HpD) : Prop :=
 ∃ (i : Nat) (t : D) (acc : List Int), w = l.length - i ∧ i ≤ l.length ∧ acc.length = i ∧ parsF f 0 l [] = parsF f i (l.drop i) acc ∧ fr = [(1, fv), (6, t), (12, strsD l), (13, .lit (.int .i64 (l.length : Int))), (14, .lit (.int .i64 (i : Int)))] ∧ Gr H0 H 1 t (acc.map intC)
theorem parsI {gs : SG} (hx : ∀ args h, ext (F 202) args h = strV gs .split args h) (hg : FullGl p gs) (L : Has p ext F 291 M291) {g : Nat} {cap : D} {f : Nat → List Nat → Int × Bool} {t : List Nat} (hl : t.length < 100000) (hb : ∀ c, c ∈ t → c < 256)
  (hf : ∀ (i : Nat) x, i < 200000 → x.length < 100000 → (∀ c, c ∈ x → c < 256) → FnD p ext g [.lit (.int .i64 (i : Int)), .lit (.str x), cap] (.tup [.lit (.int .i64 (f i x).1), .lit (.bool (f i x).2)])) : FnD p ext (F 291) [.lit (.str t), .func g [] [cap]] (.tup [intsP (partF f t).1, .lit (.bool (partF f t).2)]) := by
 refine fn_of L (M := M291) rfl ok291 rfl fun H => sem_run 9000 _ ?_;obtain ⟨l, hsp⟩ : ∃ l, Vm.splitN t [44] = l := ⟨_, rfl⟩
 have hlen : l.length ≤ t.length + 2 := by rw [← hsp]; exact (split_parts (f := t.length + 1) (s := t)).1
 have hmem : ∀ x, x ∈ l → x.length < 100000 ∧ ∀ c, c ∈ x → c < 256 := fun x hx => by
  rw [← hsp] at hx;obtain ⟨h1, h2⟩ := (split_parts (f := t.length + 1) (s := t)).2 x hx;exact ⟨by omega, fun c h => hb c (h2 c h)⟩
 have hP : partF f t = parsF f 0 l [] := (by unfold partF; rw [hsp]);rw [hP];simp;refine sf (split_ext hx hg (s := t) (c := 44) (sep := []) (by omega)) ?_;rw [hsp];clear hsp hP;simp;refine sem_loop (PpII H f (.func g [] [cap]) l) ?_ (k := l.length) ⟨0, .lit .nilslice, [], by simp, by simp, rfl, by simp, rfl, by simpa using Gr.start⟩;rintro w fr H' ⟨i, tt, acc, rfl, hi, hacc, hall, rfl, gr⟩
 by_cases c : i < l.length
 ·obtain ⟨x, hx⟩ : ∃ x, l[i]? = some x := ⟨_, List.getElem?_eq_getElem c⟩;have hxi : l[i] = x := (by rw [List.getElem?_eq_getElem c] at hx; exact Option.some.inj hx);have hxm := hmem x (List.mem_of_getElem? hx);have hw : wr .i64 ((i : Int) + 1) = ((i + 1 : Nat) : Int) := (by rw [wr_of] <;> omega);have hdr : l.drop i = x :: l.drop (i + 1) := (by rw [List.drop_eq_getElem_cons c, hxi]);rw [hdr] at hall;refine sem_run 9000 _ ?_;simp;simp [c, hxi];refine sf (hf i x (by omega) hxm.1 hxm.2) ?_;obtain ⟨y, hy⟩ : ∃ y, (f i x).1 = y := ⟨_, rfl⟩
  cases hok : (f i x).2 with
  | false =>
   simp [hy];refine sem_ret ?_;simp [M291];refine sem_ret ?_;simp;rw [hall, show parsF f i (x :: l.drop (i + 1)) acc = ([], false) by unfold parsF; rw [if_neg (by rw [hok]; simp)]];have sb := gr.sub;exact .le (sB sb) (by simp [D.le, D.les, intsD]) (by simp [D.under, D.unders, ints_under])
  | true =>
   simp [hy];have hal : (acc.map intC).length ≤ 100001 := (by rw [List.length_map]; omega);refine sem_push (gr.mono sR) (by simp) (by simp) (roomyD (by omega) (by omega)) fun s' H1 g1 _ _ => ?_;simp;refine sem_ok ?_;refine ⟨_, by omega, i + 1, s', acc ++ [y], rfl, by omega, by simp [hacc], ?_, by rw [hw], ?_⟩
   ·rw [hall];show (if (f i x).2 = true then _ else _) = _;rw [if_pos hok, hy]
   ·rw [List.map_append]; exact g1
 ·have : i = l.length := (by omega);subst this;rw [List.drop_length, parsF] at hall;refine sem_turn gr 6 (by simp) fun H1 s1 _ _ => ?_;refine sem_run 9000 _ ?_;simp;refine sem_exit (sem_run 9000 _ ?_);simp;refine sem_ret ?_;simp [M291];rw [hall];exact .le s1 (by simp [D.le, D.les]; exact D.le_refl _) (by simp [D.under, D.unders, ints_under])
def PpAI (H0 : HpD) (f : Nat → List Nat → Ag × Bool) (fv : D) (l : List (List Nat)) (w : Nat) (fr : FrD) (H : HpD) : Prop :=
 ∃ (i : Nat) (t : D) (acc : List Ag), w = l.length - i ∧ i ≤ l.length ∧ acc.length = i ∧ parsF f 0 l [] = parsF f i (l.drop i) acc ∧ fr = [(1, fv), (6, t), (12, strsD l), (13, .lit (.int .i64 (l.length : Int))), (14, .lit (.int .i64 (i : Int)))] ∧ Gr H0 H 2 t (acc.map Ag.c)
theorem parsA {gs : SG} (hx : ∀ args h, ext (F 202) args h = strV gs .split args h) (hg : FullGl p gs) (L : Has p ext F 293 M293) {g : Nat} {cap : D} {f : Nat → List Nat → Ag × Bool} {t : List Nat} (hl : t.length < 100000) (hb : ∀ c, c ∈ t → c < 256)
  (hf : ∀ (i : Nat) x, i < 200000 → x.length < 100000 → (∀ c, c ∈ x → c < 256) → FnD p ext g [.lit (.int .i64 (i : Int)), .lit (.str x), cap] (.tup [.agg ((f i x).1).c, .lit (.bool (f i x).2)])) : FnD p ext (F 293) [.lit (.str t), .func g [] [cap]] (.tup [agsD (partF f t).1, .lit (.bool (partF f t).2)]) := by
 refine fn_of L (M := M293) rfl ok293 rfl fun H => sem_run 9000 _ ?_;obtain ⟨l, hsp⟩ : ∃ l, Vm.splitN t [44] = l := ⟨_, rfl⟩
 have hlen : l.length ≤ t.length + 2 := by rw [← hsp]; exact (split_parts (f := t.length + 1) (s := t)).1
 have hmem : ∀ x, x ∈ l → x.length < 100000 ∧ ∀ c, c ∈ x → c < 256 := fun x hx => by
  rw [← hsp] at hx;obtain ⟨h1, h2⟩ := (split_parts (f := t.length + 1) (s := t)).2 x hx;exact ⟨by omega, fun c h => hb c (h2 c h)⟩
 have hP : partF f t = parsF f 0 l [] := (by unfold partF; rw [hsp]);rw [hP];simp;refine sf (split_ext hx hg (s := t) (c := 44) (sep := []) (by omega)) ?_;rw [hsp];clear hsp hP;simp;refine sem_loop (PpAI H f (.func g [] [cap]) l) ?_ (k := l.length) ⟨0, .lit .nilslice, [], by simp, by simp, rfl, by simp, rfl, by simpa using Gr.start⟩;rintro w fr H' ⟨i, tt, acc, rfl, hi, hacc, hall, rfl, gr⟩
 by_cases c : i < l.length
 ·obtain ⟨x, hx⟩ : ∃ x, l[i]? = some x := ⟨_, List.getElem?_eq_getElem c⟩;have hxi : l[i] = x := (by rw [List.getElem?_eq_getElem c] at hx; exact Option.some.inj hx);have hxm := hmem x (List.mem_of_getElem? hx);have hw : wr .i64 ((i : Int) + 1) = ((i + 1 : Nat) : Int) := (by rw [wr_of] <;> omega);have hdr : l.drop i = x :: l.drop (i + 1) := (by rw [List.drop_eq_getElem_cons c, hxi]);rw [hdr] at hall;refine sem_run 9000 _ ?_;simp;simp [c, hxi];refine sf (hf i x (by omega) hxm.1 hxm.2) ?_;obtain ⟨y, hy⟩ : ∃ y, (f i x).1 = y := ⟨_, rfl⟩
  cases hok : (f i x).2 with
  | false =>
   simp [hy];refine sem_ret ?_;simp [M293];refine sem_ret ?_;simp;rw [hall, show parsF f i (x :: l.drop (i + 1)) acc = ([], false) by unfold parsF; rw [if_neg (by rw [hok]; simp)]];have sb := gr.sub;exact .le (sB sb) (by simp [D.le, D.les, agsD, agsE]) (by simp [D.under, D.unders, ags_under])
  | true =>
   simp [hy];have hal : (acc.map Ag.c).length ≤ 100001 := (by rw [List.length_map]; omega);refine sem_push (gr.mono sR) (by simp) (by simp) (roomyD (by omega) (by omega)) fun s' H1 g1 _ _ => ?_;simp;refine sem_ok ?_;refine ⟨_, by omega, i + 1, s', acc ++ [y], rfl, by omega, by simp [hacc], ?_, by rw [hw], ?_⟩
   ·rw [hall];show (if (f i x).2 = true then _ else _) = _;rw [if_pos hok, hy]
   ·rw [List.map_append]; exact g1
 ·have : i = l.length := (by omega);subst this;rw [List.drop_length, parsF] at hall;refine sem_turn gr 6 (by simp) fun H1 s1 _ _ => ?_;refine sem_run 9000 _ ?_;simp;refine sem_exit (sem_run 9000 _ ?_);simp;refine sem_ret ?_;simp [M293];rw [hall];exact .le s1 (by simp [D.le, D.les]; exact D.le_refl _) (by simp [D.under, D.unders, ags_under])
end Go.Lib
end

section
set_option maxRecDepth 10000
namespace Go.Lib
open Go.Vm Go.Dv Go.Srt
variable {p : Prog} {ext : Ext} {F : Nat → Nat}
attribute [-simp] bin_and bin_xor
structure HProgP (p : Prog) (ext : Ext) (F : Nat → Nat) (g : SG) : Prop where
 txt : HProgT p ext F g
 prs : HParse p ext F g
 x201 : ∀ args h, ext (F 201) args h = strV g .idx args h
 x205 : ∀ args h, ext (F 205) args h = strV g .trimS args h
 h252 : Has p ext F 252 M252
 h254 : Has p ext F 254 M254
 h262 : Has p ext F 262 M262
 h277 : Has p ext F 277 M277
 h286 : Has p ext F 286 M286
 h287 : Has p ext F 287 M287
 h288 : Has p ext F 288 M288
 h289 : Has p ext F 289 M289
 h290 : Has p ext F 290 M290
 h291 : Has p ext F 291 M291
 h292 : Has p ext F 292 M292
 h293 : Has p ext F 293 M293
 h296 : Has p ext F 296 M296
 h297 : Has p ext F 297 M297
theorem findC_lt {s : Sch} {x : List Nat} : findC s x < s.length := by
 have h := (findN_le (l := s.map Cl.name) (x := x)).2;rw [List.length_map] at h; exact h
theorem colI_in {s : Sch} {x : List Nat} (h : 0 ≤ findC s x) : 0 ≤ colI s x ∧ colI s x < s.length := by
 have := findC_lt (s := s) (x := x);unfold colI; omega
theorem cut_mem1 {s sep nm rs : List Nat} {b : Bool} (h : cutN s sep = (nm, rs, b)) : nm.length ≤ s.length ∧ ∀ c, c ∈ nm → c ∈ s := by
 unfold cutN at h;split at h
 ·simp only [Prod.mk.injEq] at h;obtain ⟨rfl, _⟩ := h;exact ⟨by rw [List.length_take]; omega, fun c hc => List.mem_of_mem_take hc⟩
 ·simp only [Prod.mk.injEq] at h;obtain ⟨rfl, _⟩ := h;exact ⟨Nat.le_refl _, fun c hc => hc⟩
theorem prog_set {g : SG} (L : HProgP p ext F g) {s : Sch} {t : List Nat} (hs : s.length < 1000000) (hl : t.length < 100000) (hb : ∀ c, c ∈ t → c < 256) : FnD p ext (F 296) [schD s, .lit (.str t)] (.tup [.agg (setRd s t).1.c, .lit (.bool (setRd s t).2)]) := by
 refine fn_of L.h296 (M := M296) rfl ok296 rfl fun H => sem_run 9000 _ ?_;simp;refine sf (cut_ext L.prs.read.x200 L.prs.read.words.prs.full (s := t) (sep := [61]) (by omega)) ?_;obtain ⟨nm, rs, op, hcut⟩ : ∃ nm rs op, cutN t [61] = (nm, rs, op) := ⟨_, _, _, rfl⟩;obtain ⟨m1, m2⟩ := cut_mem1 hcut;obtain ⟨m3, m4⟩ := cut_mem hcut;rw [hcut];simp;refine sf (cutS_ext L.prs.read.x203 (s := nm) (sep := [43]) (by omega)) ?_;obtain ⟨n2, ad, hcs⟩ : ∃ n2 ad, cutSN nm [43] = (n2, ad) := ⟨_, _, rfl⟩;rw [hcs]
 have hr : setRd s t = if findC s n2 < 0 then (⟨0, false, zv⟩, false) else (⟨colI s n2, ad, (parseV (colK s (colI s n2)).kind rs).1⟩, (parseV (colK s (colI s n2)).kind rs).2) := by
  unfold setRd; rw [hcut]; simp only; rw [hcs]
 rw [hr];simp;refine sf (text_col L.prs.read.words.idx (s := s) (x := n2) hs) ?_
 by_cases h0 : 0 ≤ findC s n2
 ·have h1 : ¬ findC s n2 < 0 := (by omega);obtain ⟨c1, c2⟩ := colI_in h0;have hci : (colI s n2).toNat < s.length := (by omega);obtain ⟨cl, hcl⟩ : ∃ cl, s[(colI s n2).toNat] = cl := ⟨_, rfl⟩;have hck : colK s (colI s n2) = cl := (by unfold colK; rw [List.getElem?_eq_getElem hci, hcl]; rfl);simp [h0, c1, c2, hcl];refine sf (text_parseVal L.prs.read.words.prs (kind := cl.kind) (s := rs) (by omega) (fun c hc => hb c (m4 c hc))) ?_;simp;refine sem_ret ?_;simp [M296];rw [if_neg h1, hck];exact .le sR (by simp [D.le, D.les, Sx.c]) (by simp [D.under, D.unders, Sx.c])
 ·have h1 : findC s n2 < 0 := (by omega);simp [h0];refine sem_ret ?_;simp [M296];rw [if_pos h1];exact .le sR (by simp [D.le, D.les, Sx.c, Vl.c, zv, byD, byE]) (by simp [D.under, D.unders, Sx.c])
theorem prog_agg {g : SG} (L : HProgP p ext F g) {s : Sch} {t : List Nat} (hs : s.length < 1000000) (hl : t.length < 100000) : FnD p ext (F 297) [schD s, .lit (.str t)] (.tup [.agg (aggP s t).1.c, .lit (.bool (aggP s t).2)]) := by
 refine fn_of L.h297 (M := M297) rfl ok297 rfl fun H => sem_run 9000 _ ?_;simp;refine sf (cut_ext L.prs.read.x200 L.prs.read.words.prs.full (s := t) (sep := [40]) (by omega)) ?_;obtain ⟨nm, rs, op, hcut⟩ : ∃ nm rs op, cutN t [40] = (nm, rs, op) := ⟨_, _, _, rfl⟩;obtain ⟨m3, m4⟩ := cut_mem hcut;rw [hcut];simp;refine sf (prog_words L.txt) ?_;simp;refine sf (slices_index L.prs.read.words.idx (l := aggW) (x := nm) (by decide)) ?_
 have hr : aggP s t = if op = false then (⟨max (findN aggW nm) 0, 0⟩, true) else (⟨max (findN aggW nm) 0, colI s (trimSN rs [41])⟩, decide (0 ≤ findC s (trimSN rs [41]))) := by
  unfold aggP; rw [hcut]
 rw [hr]
 cases op with
 | false =>
  simp;refine sem_ret ?_;simp [M297];exact .le sR (by simp [D.le, D.les, Ag.c]) (by simp [D.under, D.unders, Ag.c])
 | true =>
  simp;refine sem_dfn (trimS_ext L.x205 (s := rs) (sep := [41]) (by omega)) (by first | exact D.les_refl _ | simp) (sem_run 9000 _ ?_);simp;refine sem_dfn (text_col L.prs.read.words.idx (s := s) (x := trimSN rs [41]) hs) (by first | exact D.les_refl _ | simp) (sem_run 9000 _ ?_);simp;refine sem_ret ?_;simp [M297];exact .le sR (by simp [D.le, D.les, Ag.c]) (by simp [D.under, D.unders, Ag.c])
theorem body_row {g : SG} (L : HProgP p ext F g) {s : Sch} {i : Nat} {t : List Nat} (hl : t.length < 100000) (hb : ∀ c, c ∈ t → c < 256) : FnD p ext (F 286) [.lit (.int .i64 (i : Int)), .lit (.str t), .rptr [schR s] 0] (.tup [.agg (rowP s i t).1.c, .lit (.bool (rowP s i t).2)]) := by
 refine fn_of L.h286 (M := M286) rfl ok286 rfl fun H => sem_run 9000 _ ?_
 by_cases h : s.length ≤ i
 ·have h' : (s.length : Int) ≤ (i : Int) := (by omega);have hn : s[i]? = none := List.getElem?_eq_none (by omega);simp [h'];refine sem_ret ?_;simp [M286];rw [show rowP s i t = (zv, false) by unfold rowP; rw [hn]];exact .le sR (by simp [D.le, D.les, Vl.c, zv, byD, byE]) (by simp [D.under, D.unders])
 ·have h' : ¬ (s.length : Int) ≤ (i : Int) := (by omega);have hi : i < s.length := (by omega);obtain ⟨cl, hcl⟩ : ∃ cl, s[i] = cl := ⟨_, rfl⟩;have hn : s[i]? = some cl := (by rw [List.getElem?_eq_getElem hi, hcl]);simp [h', hi, hcl];refine sf (text_parseVal L.prs.read.words.prs (kind := cl.kind) (s := t) (by omega) hb) ?_;simp;refine sem_ret ?_;simp [M286];rw [show rowP s i t = parseV cl.kind t by unfold rowP; rw [hn]];exact .le sR (D.le_refl _) (by simp [D.under, D.unders])
theorem body_set {g : SG} (L : HProgP p ext F g) {s : Sch} {i : Nat} {t : List Nat} (hs : s.length < 1000000) (hl : t.length < 100000) (hb : ∀ c, c ∈ t → c < 256) : FnD p ext (F 288) [.lit (.int .i64 (i : Int)), .lit (.str t), .rptr [schR s] 0] (.tup [.agg (setRd s t).1.c, .lit (.bool (setRd s t).2)]) := by
 refine fn_of L.h288 (M := M288) rfl ok288 rfl fun H => sem_run 9000 _ ?_;simp;refine sem_fn (prog_set L hs hl hb) (by first | exact D.les_refl _ | simp [schD, D.les_refl]) (sem_run 9000 _ ?_);simp;refine sem_ret ?_;simp [M288];exact .le sR (D.le_refl _) (by simp [D.under, D.unders, Sx.c])
theorem body_col {g : SG} (L : HProgP p ext F g) {s : Sch} {i : Nat} {t : List Nat} (hs : s.length < 1000000) : FnD p ext (F 290) [.lit (.int .i64 (i : Int)), .lit (.str t), .rptr [schR s] 0] (.tup [.lit (.int .i64 (colP s t).1), .lit (.bool (colP s t).2)]) := by
 refine fn_of L.h290 (M := M290) rfl ok290 rfl fun H => sem_run 9000 _ ?_;simp;refine sem_fn (text_col L.prs.read.words.idx (s := s) (x := t) hs) (by first | exact D.les_refl _ | simp [schD, D.les_refl]) (sem_run 9000 _ ?_);simp;refine sem_ret ?_;simp [M290];exact .le sR (D.le_refl _) (by simp [D.under, D.unders])
theorem body_agg {g : SG} (L : HProgP p ext F g) {s : Sch} {i : Nat} {t : List Nat} (hs : s.length < 1000000) (hl : t.length < 100000) : FnD p ext (F 292) [.lit (.int .i64 (i : Int)), .lit (.str t), .rptr [schR s] 0] (.tup [.agg (aggP s t).1.c, .lit (.bool (aggP s t).2)]) := by
 refine fn_of L.h292 (M := M292) rfl ok292 rfl fun H => sem_run 9000 _ ?_;simp;refine sem_fn (prog_agg L hs hl) (by first | exact D.les_refl _ | simp [schD, D.les_refl]) (sem_run 9000 _ ?_);simp;refine sem_ret ?_;simp [M292];exact .le sR (D.le_refl _) (by simp [D.under, D.unders, Ag.c])
end Go.Lib
end

section
set_option maxRecDepth 10000
namespace Go.Lib
open Go.Vm Go.Dv Go.Srt
variable {p : Prog} {ext : Ext} {F : Nat → Nat}
attribute [-simp] bin_and bin_xor
theorem cells_sxs {l : List Sx} : cellsD (sxsD l) = some [sxsD l] := rfl
theorem cells_ags {l : List Ag} : cellsD (agsD l) = some [agsD l] := rfl
theorem cells_ints {m : Md} {l : List Int} : cellsD (intsD m l) = some [intsD m l] := rfl
theorem flat_sxs {l : List Sx} : flatD (sxsD l) = true := rfl
theorem flat_ags {l : List Ag} : flatD (agsD l) = true := rfl
theorem flat_ints {m : Md} {l : List Int} : flatD (intsD m l) = true := rfl
attribute [simp] cells_sxs cells_ags cells_ints flat_sxs flat_ags flat_ints
theorem prog_body {g : SG} (L : HProgP p ext F g) {s : Sch} {t : List Nat} (hs : s.length < 1000000) (hl : t.length < 100000) (hb : ∀ c, c ∈ t → c < 256) : FnD p ext (F 277) [schD s, .lit (.str t)] (.tup [.agg (bodyF s t).1.c, .lit (.bool (bodyF s t).2)]) := by
 refine fn_of L.h277 (M := M277) rfl ok277 rfl fun H => sem_run 9000 _ ?_;have hfull := L.prs.read.words.prs.full;have hx0 := L.prs.read.x200;simp;refine sf (cut_ext hx0 hfull (s := t) (sep := [32]) (by omega)) ?_;obtain ⟨nm, rs, op, hcut⟩ : ∃ nm rs op, cutN t [32] = (nm, rs, op) := ⟨_, _, _, rfl⟩;obtain ⟨m3, m4⟩ := cut_mem hcut;have hrb : ∀ c, c ∈ rs → c < 256 := fun c hc => hb c (m4 c hc);rw [hcut]
 by_cases k1 : nm = [105, 110, 115, 101, 114, 116]
 ·subst k1;have hr : bodyF s t = (⟨1, (partF (rowP s) rs).1, pr0, [], [], 0, []⟩, (partF (rowP s) rs).2) := (by unfold bodyF; rw [hcut]; rfl);rw [hr];simp [neqs_dec];refine sf (parsV (g := F 286) (cap := .rptr [schR s] 0) (f := rowP s) L.prs.read.words.x202 hfull L.h287 (t := rs) (by omega) hrb (fun i x _ h2 h3 => body_row L h2 h3)) ?_;simp;refine sem_ret ?_;simp [M277];exact .le sR (by simp [op_c, pr0, zv, Pr.kind, Pr.col, Pr.op, Pr.v, Pr.l, D.le, D.les, D.le_refl, byD, byE, prsD, sxsD, sxsE, intsD, agsD, agsE]) (by simp [D.under, D.unders, op_unders])
 ·by_cases k2 : nm = [117, 112, 100, 97, 116, 101]
  ·subst k2;have hr : bodyF s t = (⟨2, [], pr0, (partF (fun _ => setRd s) rs).1, [], 0, []⟩, (partF (fun _ => setRd s) rs).2) := (by unfold bodyF; rw [hcut]; rfl);rw [hr];simp [neqs_dec];refine sf (parsS (g := F 288) (cap := .rptr [schR s] 0) (f := fun _ => setRd s) L.prs.read.words.x202 hfull L.h289 (t := rs) (by omega) hrb (fun i x _ h2 h3 => body_set L hs h2 h3)) ?_;simp;refine sem_ret ?_;simp [M277];exact .le sR (by simp [op_c, pr0, zv, Pr.kind, Pr.col, Pr.op, Pr.v, Pr.l, D.le, D.les, D.le_refl, byD, byE, prsD, rowD, rowE, intsD, agsD, agsE]) (by simp [D.under, D.unders, op_unders])
  ·by_cases k3 : nm = [100, 101, 108, 101, 116, 101]
   ·subst k3;have hr : bodyF s t = (⟨3, [], pr0, [], [], 0, []⟩, true) := (by unfold bodyF; rw [hcut]; rfl);rw [hr];simp [neqs_dec];refine sem_ret ?_;simp [M277];exact .le sR (by simp [op_c, pr0, zv, Pr.kind, Pr.col, Pr.op, Pr.v, Pr.l, D.le, D.les, byD, byE, prsD, rowD, rowE, sxsD, sxsE, intsD, agsD, agsE]) (by simp [D.under, D.unders, op_unders])
   ·by_cases k4 : nm = [115, 99, 97, 110]
    ·subst k4;have hr : bodyF s t = (⟨4, [], pr0, [], (partF (fun _ => colP s) rs).1, 0, []⟩, (partF (fun _ => colP s) rs).2) := (by unfold bodyF; rw [hcut]; rfl);rw [hr];simp [neqs_dec];refine sf (parsI (g := F 290) (cap := .rptr [schR s] 0) (f := fun _ => colP s) L.prs.read.words.x202 hfull L.h291 (t := rs) (by omega) hrb (fun i x _ h2 h3 => body_col L hs)) ?_;simp;refine sem_ret ?_;simp [M277];exact .le sR (by simp [op_c, pr0, zv, Pr.kind, Pr.col, Pr.op, Pr.v, Pr.l, D.le, D.les, D.le_refl, byD, byE, prsD, rowD, rowE, sxsD, sxsE, agsD, agsE]) (by simp [D.under, D.unders, op_unders])
    ·by_cases k5 : nm = [97, 103, 103]
     ·subst k5;obtain ⟨n2, r2, op2, hcut2⟩ : ∃ n2 r2 op2, cutN rs [32] = (n2, r2, op2) := ⟨_, _, _, rfl⟩;obtain ⟨m5, m6⟩ := cut_mem hcut2
      have hr : bodyF s t = (⟨5, [], pr0, [], [], if n2 = [45] then -1 else colI s n2, (partF (fun _ => aggP s) r2).1⟩, (decide (n2 = [45]) || decide (0 ≤ findC s n2)) && (partF (fun _ => aggP s) r2).2) := by
       unfold bodyF; rw [hcut]; simp only; rw [hcut2]; rfl
      rw [hr];simp [neqs_dec];refine sf (cut_ext hx0 hfull (s := rs) (sep := [32]) (by omega)) ?_;rw [hcut2];simp;refine sf (text_col L.prs.read.words.idx (s := s) (x := n2) hs) ?_;have hpa := parsA (g := F 292) (cap := .rptr [schR s] 0) (f := fun _ => aggP s) L.prs.read.words.x202 hfull L.h293 (t := r2) (by omega) (fun c hc => hrb c (m6 c hc)) (fun i x _ h2 h3 => body_agg L hs h2)
      by_cases e : n2 = [45]
      ·subst e;simp [neqs_dec];refine sf hpa ?_;simp;refine sem_ret ?_;simp [M277];exact .le sR (by simp [op_c, pr0, zv, Pr.kind, Pr.col, Pr.op, Pr.v, Pr.l, D.le, D.les, D.le_refl, byD, byE, prsD, rowD, rowE, sxsD, sxsE, intsD]) (by simp [D.under, D.unders, op_unders])
      ·simp [neqs_dec, e];refine sf hpa ?_
       by_cases h0 : 0 ≤ findC s n2
       ·simp [h0];refine sem_ret ?_;simp [M277];exact .le sR (by simp [op_c, pr0, zv, Pr.kind, Pr.col, Pr.op, Pr.v, Pr.l, D.le, D.les, D.le_refl, byD, byE, prsD, rowD, rowE, sxsD, sxsE, intsD]) (by simp [D.under, D.unders, op_unders])
       ·simp [h0];refine sem_ret ?_;simp [M277];exact .le sR (by simp [op_c, pr0, zv, Pr.kind, Pr.col, Pr.op, Pr.v, Pr.l, D.le, D.les, D.le_refl, byD, byE, prsD, rowD, rowE, sxsD, sxsE, intsD]) (by simp [D.under, D.unders, op_unders])
     ·by_cases k6 : nm = [114, 111, 108, 108, 98, 97, 99, 107]
      ·subst k6;have hr : bodyF s t = (rollO, true) := (by unfold bodyF; rw [hcut]; rfl);rw [hr];simp [neqs_dec];refine sem_ret ?_;simp [M277];exact .le sR (by simp [op_c, rollO, pr0, zv, Pr.kind, Pr.col, Pr.op, Pr.v, Pr.l, D.le, D.les, byD, byE, prsD, rowD, rowE, sxsD, sxsE, intsD, agsD, agsE]) (by simp [D.under, D.unders, op_unders])
      ·have hr : bodyF s t = (op0, false) := (by unfold bodyF; rw [hcut]; simp only; rw [if_neg k1, if_neg k2, if_neg k3, if_neg k4, if_neg k5, if_neg k6]);rw [hr];simp [neqs_dec, k1, k2, k3, k4, k5, k6];refine sem_ret ?_;simp [M277];exact .le sR (by simp [op_c, op0, pr0, zv, Pr.kind, Pr.col, Pr.op, Pr.v, Pr.l, D.le, D.les, byD, byE, prsD, rowD, rowE, sxsD, sxsE, intsD, agsD, agsE]) (by simp [D.under, D.unders, op_unders])
end Go.Lib
end

section
set_option maxRecDepth 10000
namespace Go.Lib
open Go.Vm Go.Dv Go.Srt
variable {p : Prog} {ext : Ext} {F : Nat → Nat}
attribute [-simp] bin_and bin_xor
theorem parsF_all {α : Type} {P : α → Prop} {f : Nat → List Nat → α × Bool} (hf : ∀ i x, P (f i x).1) : ∀ {l : List (List Nat)} {i : Nat} {acc : List α}, (∀ y, y ∈ acc → P y) → ∀ y, y ∈ (parsF f i l acc).1 → P y
 | [], i, acc, h => by simpa [parsF] using h
 | x :: l, i, acc, h => by
  unfold parsF;split
  ·exact parsF_all hf fun y hy => by
    rcases List.mem_append.1 hy with hy | hy
    ·exact h y hy
    ·simp at hy; subst hy; exact hf i x
  ·intro y hy; simp at hy
theorem partF_all {α : Type} {P : α → Prop} {f : Nat → List Nat → α × Bool} (hf : ∀ i x, P (f i x).1) {t : List Nat} : ∀ y, y ∈ (partF f t).1 → P y := parsF_all hf fun y hy => by simp at hy
theorem partF_len {α : Type} {f : Nat → List Nat → α × Bool} {t : List Nat} : (partF f t).1.length ≤ t.length + 2 := by
 have h1 := parsF_len (f := f) (l := Vm.splitN t [44]) (i := 0) (acc := []);have h2 : (Vm.splitN t [44]).length ≤ t.length + 2 := (split_parts (f := t.length + 1) (s := t)).1;unfold partF;simp only [List.length_nil] at h1; omega
theorem rowP_in {s : Sch} {i : Nat} {t : List Nat} : In64 (rowP s i t).1.n := by
 unfold rowP;split
 ·exact asV_in
 ·show In64 0; unfold In64; omega
theorem setP_in {s : Sch} {t : List Nat} : In64 (setRd s t).1.v.n := by
 unfold setRd;split
 ·show In64 0; unfold In64; omega
 ·exact asV_in
theorem body_opP {s : Sch} {t : List Nat} (hl : t.length < 100000) : OpP s (bodyF s t).1 ∧ (bodyF s t).1.pred = pr0 := by
 obtain ⟨nm, rs, op, hcut⟩ : ∃ nm rs op, cutN t [32] = (nm, rs, op) := ⟨_, _, _, rfl⟩;obtain ⟨m3, m4⟩ := cut_mem hcut;obtain ⟨n2, r2, op2, hcut2⟩ : ∃ n2 r2 op2, cutN rs [32] = (n2, r2, op2) := ⟨_, _, _, rfl⟩;obtain ⟨m5, m6⟩ := cut_mem hcut2;unfold bodyF;rw [hcut];simp only;rw [hcut2];simp only
 have z : In64 0 := by unfold In64; omega
 repeat' split
 ·exact ⟨⟨⟨by simp, by simp, by simp, by simp⟩, .inl rfl, partF_all fun i x => rowP_in, by simp, by have := partF_len (f := rowP s) (t := rs); simp; omega⟩, rfl⟩
 ·exact ⟨⟨⟨by simp, by simp, by simp, by simp⟩, .inl rfl, by simp, partF_all (P := fun x : Sx => In64 x.v.n) (f := fun _ => setRd s) fun i x => setP_in, by have := partF_len (f := fun _ => setRd s) (t := rs); simp; omega⟩, rfl⟩
 ·exact ⟨⟨⟨by simp, by simp, by simp, by simp⟩, .inl rfl, by simp, by simp, by simp⟩, rfl⟩
 ·exact ⟨⟨⟨by simp, by simp, by simp, by simp⟩, .inl rfl, by simp, by simp, by have := partF_len (f := fun _ => colP s) (t := rs); simp; omega⟩, rfl⟩
 ·exact ⟨⟨⟨by simp, by simp, by simp, by simp⟩, .inl rfl, by simp, by simp, by have := partF_len (f := fun _ => aggP s) (t := r2); simp; omega⟩, rfl⟩
 ·exact ⟨⟨⟨by simp, by simp, by simp, by simp⟩, .inl rfl, by simp, by simp, by have := partF_len (f := fun _ => aggP s) (t := r2); simp; omega⟩, rfl⟩
 ·exact ⟨⟨⟨by simp [rollO], by simp [rollO], by simp [rollO], by simp [rollO]⟩, .inl rfl, by simp [rollO], by simp [rollO], by simp [rollO]⟩, rfl⟩
 ·exact ⟨⟨⟨by simp [op0], by simp [op0], by simp [op0], by simp [op0]⟩, .inl rfl, by simp [op0], by simp [op0], by simp [op0]⟩, rfl⟩
theorem full_opP {s : Sch} {t : List Nat} (hl : t.length < 100000) {k : Option Nat} (h : (fullF s t k).2 = true) : OpP s (fullF s t k).1 := by
 cases k with
 | none => exact (body_opP hl).1
 | some k =>
  unfold fullF at h ⊢;simp only [Bool.and_eq_true] at h ⊢;have hb := (body_opP (s := s) (t := t.take k) (by rw [List.length_take]; omega)).1;have hp : parseP s (t.drop (k + 7)) = ((parseP s (t.drop (k + 7))).1, true) := (by rw [← h.2]);exact ⟨⟨hb.shp.row, hb.shp.sets, hb.shp.cols, hb.shp.aggs⟩, .inr ⟨(parseP_right hp).1, parseP_cnt hp⟩, hb.row, hb.sets, hb.len⟩
def atI : Option Nat → Int
 | none => -1
 | some k => (k : Int)
theorem sls_to {s : List Nat} {b : Nat} (h2 : b ≤ s.length) : slsD (.lit (.str s)) none (some (.lit (.int .i64 (b : Int)))) = some (.lit (.str (s.take b))) := by
 rw [slsD_lit (lo := none) (hi := some (.int .i64 (b : Int))) rfl rfl];simp only [slsV, boundH, boundL, natOf_cast];rw [nble.2 h2];rfl
theorem sls_from {s : List Nat} {a : Nat} (h1 : a ≤ s.length) : slsD (.lit (.str s)) (some (.lit (.int .i64 (a : Int)))) none = some (.lit (.str (s.drop a))) := by
 rw [sls_end h1, List.take_length]
theorem op_setP {o : Op} {q : Pr} : spliceD o.c 2 q.c = (withP o q).c := by rw [op_c, op_c, pr_c]; rfl
attribute [simp] op_setP
theorem prog_told {g : SG} (L : HProgP p ext F g) {s : Sch} {t : List Nat} {k : Option Nat} (hs : OkS s) (hl : t.length < 100000) (hb : ∀ c, c ∈ t → c < 256) (hk : ∀ i, k = some i → i + 7 ≤ t.length) :
  FnD p ext (F 262) [schD s, .lit (.str t), .lit (.int .i64 (atI k))] (.tup [.agg (toldF s t k).1.c, .lit (.bool (toldF s t k).2)]) := by
 refine fn_of L.h262 (M := M262) rfl ok262 rfl fun H => sem_run 9000 _ ?_
 have hsl : s.length < 1000000 := by have := hs.len; omega
 have no : toldF s t k = (op0, false) → Dv.D.les [.agg [.lit (.int .i64 0), .lit .nilslice, .lit (.int .i64 0), .lit (.int .i64 0), .lit (.int .i64 0), .lit (.bool false), .lit (.int .i64 0), .lit (.int .i64 0), .lit .nilslice, .lit .nilslice, .lit .nilslice, .lit .nilslice, .lit (.int .i64 0), .lit .nilslice], .lit (.bool false)] [.agg (toldF s t k).1.c, .lit (.bool (toldF s t k).2)] := fun e => by
  rw [e]; simp [op_c, op0, pr0, zv, Pr.kind, Pr.col, Pr.op, Pr.v, Pr.l, D.le, D.les, byD, byE, prsD, rowD, rowE, sxsD, sxsE, intsD, agsD, agsE]
 cases k with
 | none =>
  have hq : fullF s t none = bodyF s t := rfl;simp [atI];refine sf (prog_body L hsl hl hb) ?_
  cases e : (bodyF s t).2 with
  | false =>
   have hno := no (by unfold toldF; rw [if_neg fun h => by rw [hq, e] at h; cases h.1]);simp;refine sem_ret ?_;simp [M262];exact .le sR (by simpa [D.le] using hno) (by simp [D.under, D.unders, op_unders])
  | true =>
   have hop := (body_opP (s := s) hl).1;have hfull : (fullF s t none).2 = true := e;simp
   by_cases ht : t = []
   ·have hno := no (by unfold toldF; rw [if_neg fun h => h.2.1 ht]);simp [neqs_dec, ht];refine sem_ret ?_;simp [M262];rw [ht] at hno;exact .le sR (by simpa [D.le] using hno) (by simp [D.under, D.unders, op_unders])
   ·simp [neqs_dec, ht];refine sf (prog_op L.txt hs hop) ?_
    by_cases he : opTx s (bodyF s t).1 = t
    ·have hyes : toldF s t none = ((bodyF s t).1, true) := (by unfold toldF; rw [if_pos ⟨hfull, ht, he⟩, hq]);rw [hyes];simp [neqs_dec, he];refine sem_ret ?_;simp [M262];exact .le sR (D.le_refl _) (by simp [D.under, D.unders, op_unders])
    ·have hno := no (by unfold toldF; rw [if_neg fun h => he h.2.2]);simp [neqs_dec, he];refine sem_ret ?_;simp [M262];exact .le sR (by simpa [D.le] using hno) (by simp [D.under, D.unders, op_unders])
 | some k =>
  have hk' := hk k rfl;have h0 : (0 : Int) ≤ (k : Int) := (by omega);have w7 : wr .i64 ((k : Int) + 7) = ((k + 7 : Nat) : Int) := (by rw [wr_of] <;> omega);obtain ⟨o, hob⟩ : ∃ o, (bodyF s (t.take k)).1 = o := ⟨_, rfl⟩;obtain ⟨q, hqq⟩ : ∃ q, (parseP s (t.drop (k + 7))).1 = q := ⟨_, rfl⟩;have hq : fullF s t (some k) = (withP o q, (bodyF s (t.take k)).2 && (parseP s (t.drop (k + 7))).2) := (by show (withP (bodyF s (t.take k)).1 (parseP s (t.drop (k + 7))).1, _) = _; rw [hob, hqq]);simp [atI, h0];rw [sls_to (by omega)];simp [w7];rw [show ((k : Int) + 7) = ((k + 7 : Nat) : Int) by omega, sls_from (by omega)]
  simp;refine sf (prog_body L hsl (t := t.take k) (by rw [List.length_take]; omega) (fun c hc => hb c (List.mem_of_mem_take hc))) ?_;rw [hob];simp [h0];refine sf (text_parsePred L.prs hsl hs.short (t := t.drop (k + 7)) (by rw [List.length_drop]; omega) (fun c hc => hb c (List.mem_of_mem_drop hc))) ?_;rw [hqq]
  cases e : (bodyF s (t.take k)).2 with
  | false =>
   have hno := no (by unfold toldF; rw [if_neg fun h => by rw [hq, e] at h; cases h.1]);simp;refine sem_ret ?_;simp [M262];exact .le sR (by simpa [D.le] using hno) (by simp [D.under, D.unders, op_unders])
  | true =>
   cases e2 : (parseP s (t.drop (k + 7))).2 with
   | false =>
    have hno := no (by unfold toldF; rw [if_neg fun h => by rw [hq, e, e2] at h; cases h.1]);simp;refine sem_ret ?_;simp [M262];exact .le sR (by simpa [D.le] using hno) (by simp [D.under, D.unders, op_unders])
   | true =>
    have hfull : (fullF s t (some k)).2 = true := (by rw [hq, e, e2]; rfl);have hop := full_opP (s := s) hl hfull;rw [hq] at hop;simp only at hop;simp
    by_cases ht : t = []
    ·have hno := no (by unfold toldF; rw [if_neg fun h => h.2.1 ht]);simp [neqs_dec, ht];refine sem_ret ?_;simp [M262];rw [ht] at hno;exact .le sR (by simpa [D.le] using hno) (by simp [D.under, D.unders, op_unders])
    ·simp [neqs_dec, ht];refine sf (prog_op L.txt hs hop) ?_
     by_cases he : opTx s (withP o q) = t
     ·have hyes : toldF s t (some k) = ((withP o q), true) := (by unfold toldF; rw [if_pos ⟨hfull, ht, by rw [hq]; exact he⟩, hq]);rw [hyes];simp [neqs_dec, he];refine sem_ret ?_;simp [M262];exact .le sR (D.le_refl _) (by simp [D.under, D.unders, op_unders])
     ·have hno := no (by unfold toldF; rw [if_neg fun h => he (by have := h.2.2; rw [hq] at this; exact this)]);simp [neqs_dec, he];refine sem_ret ?_;simp [M262];exact .le sR (by simpa [D.le] using hno) (by simp [D.under, D.unders, op_unders])
end Go.Lib
end

section
set_option maxRecDepth 10000
namespace Go.Lib
open Go.Vm Go.Dv Go.Srt
variable {p : Prog} {ext : Ext} {F : Nat → Nat}
attribute [-simp] bin_and bin_xor
theorem pfx_len : ∀ {a b : List Nat}, pfx a b = true → a.length ≤ b.length
 | [], _, _ => by simp
 | _ :: _, [], h => by cases h
 | x :: a, y :: b, h => by
  unfold pfx at h
  cases e : Nat.beq x y with
  | true =>
   rw [e] at h;have := pfx_len (a := a) (b := b) h;simp; omega
  | false => rw [e] at h; cases h
theorem idxN_le : ∀ {s sep : List Nat} {i : Nat}, indexN s sep = some i → i + sep.length ≤ s.length
 | [], [], i, h => by
  have : i = 0 := (by simpa [indexN] using h.symm);subst this; simp
 | [], _ :: _, i, h => by cases h
 | b :: l, sep, i, h => by
  unfold indexN at h
  cases e : pfx sep (b :: l) with
  | true =>
   rw [e] at h;have : i = 0 := (by simpa using h.symm);subst this;have := pfx_len e;simpa using this
  | false =>
   rw [e] at h;simp only [cond_false] at h
   cases e2 : indexN l sep with
   | none => rw [e2] at h; cases h
   | some j =>
    rw [e2] at h;have hj : j + 1 = i := (by simpa using h);have := idxN_le e2;simp only [List.length_cons]; omega
@[simp] def nilO : List D := [.lit (.int .i64 0), .lit .nilslice, .lit (.int .i64 0), .lit (.int .i64 0), .lit (.int .i64 0), .lit (.bool false), .lit (.int .i64 0), .lit (.int .i64 0), .lit .nilslice, .lit .nilslice, .lit .nilslice, .lit .nilslice, .lit (.int .i64 0), .lit .nilslice]
def PrsI (H0 : HpD) (s : Sch) (t : List Nat) (w : Nat) (fr : FrD) (H : HpD) : Prop :=
 ∃ (j fm : Nat), w = 3 - j ∧ j ≤ 3 ∧ fm ≤ t.length ∧ parseO s t = tryF s t (3 - j) fm ∧
  fr = [(1, .lit (.str t)), (2, .rptr [schR s] 0), (4, .ptr H0.next 0), (6, .lit (.int .i64 (fm : Int))), (10, .lit (.int .i64 (j : Int)))] ∧
  H.blk H0.next = .cells nilO false ∧ H0.next < H.next ∧ Sub H0 H
theorem prog_parseOp {g : SG} (L : HProgP p ext F g) {s : Sch} {t : List Nat} (hs : OkS s) (hl : t.length < 100000) (hb : ∀ c, c ∈ t → c < 256) :
  FnD p ext (F 252) [schD s, .lit (.str t)] (.tup [.agg (parseO s t).1.c, .lit (.bool (parseO s t).2)]) := by
 refine fn_of L.h252 (M := M252) rfl ok252 rfl fun H => sem_run 9000 _ ?_;simp;refine sem_loop (PrsI H s t) ?_ (k := 3) ⟨0, 0, by simp, by simp, by simp, rfl, rfl, by simp, by simp, sR⟩;rintro w fr H' ⟨j, fm, rfl, hj, hfm, hall, rfl, b4, hn, sb⟩;have n4 : ¬ H.next = H'.next := (by omega);have wj : wr .i64 ((j : Int) + 1) = ((j + 1 : Nat) : Int) := (by rw [wr_of] <;> omega);have htold := prog_told L (k := none) hs hl hb (by simp)
 by_cases c : j < 3
 ·have c' : (j : Int) < 3 := (by omega);have h3 : 3 - j = (2 - j) + 1 := (by omega);refine sem_run 9000 _ ?_;simp;simp [c'];rw [sls_from hfm];simp;refine sem_fn (idx_ext L.x201 L.prs.read.words.prs.full (s := t.drop fm) (sep := whereN) (by rw [List.length_drop]; omega)) (by first | exact D.les_refl _ | simp [whereN]) (sem_run 9000 _ ?_)
  cases e : indexN (t.drop fm) whereN with
  | none =>
   have hP : parseO s t = toldF s t none := (by rw [hall, h3, tryF, e]);rw [hP];simp [oInt];refine sem_exit (sem_run 9000 _ ?_);simp;refine sem_fn htold (by first | exact D.les_refl _ | simp [atI]) (sem_run 9000 _ ?_);simp [b4];refine sem_ret ?_;simp [M252];exact .le (sB sb) (D.le_refl _) (by simp [D.under, D.unders, op_unders])
  | some i =>
   have hil := idxN_le e;rw [List.length_drop] at hil;have hil : i + 7 ≤ t.length - fm := hil
   have hP : parseO s t = if (toldF s t (some (fm + i))).2 = true then ((toldF s t (some (fm + i))).1, true) else tryF s t (2 - j) (fm + i + 1) := by rw [hall, h3, tryF, e]
   have wi : wr .i64 ((fm : Int) + (i : Int)) = ((fm + i : Nat) : Int) := (by rw [wr_of] <;> omega);have w1 : wr .i64 ((i : Int) + 1) = (i : Int) + 1 := (by rw [wr_of] <;> omega);have w2 : wr .i64 ((fm : Int) + ((i : Int) + 1)) = ((fm + i + 1 : Nat) : Int) := (by rw [wr_of] <;> omega);have i0 : ¬ ((i : Int) < 0) := (by omega);have ht2 := prog_told L (k := some (fm + i)) hs hl hb (fun x hx => by simp at hx; subst hx; omega);simp [oInt, i0, wi];refine sem_fn ht2 (by first | exact D.les_refl _ | simp [atI]) (sem_run 9000 _ ?_)
   cases ok : (toldF s t (some (fm + i))).2 with
   | true =>
    rw [if_pos ok] at hP;rw [hP];simp [b4, n4];refine sem_ret ?_;simp [M252];refine sem_ret ?_;simp;exact .le (sB sb) (D.le_refl _) (by simp [D.under, D.unders, op_unders])
   | false =>
    rw [if_neg (by rw [ok]; simp)] at hP;simp [w1, w2];refine sem_ok ?_;refine ⟨_, by omega, j + 1, fm + i + 1, rfl, by omega, by omega, by rw [hP]; congr 1; omega, by rw [wj, show ((fm : Int) + (i : Int) + 1) = ((fm + i + 1 : Nat) : Int) by omega], ?_, by simp; omega, (sB sb)⟩;simp [n4, b4]
 ·have : j = 3 := (by omega);subst this;have hP : parseO s t = toldF s t none := hall;rw [hP];refine sem_run 9000 _ ?_;simp;refine sem_exit (sem_run 9000 _ ?_);simp;refine sem_fn htold (by first | exact D.les_refl _ | simp [atI]) (sem_run 9000 _ ?_);simp [b4];refine sem_ret ?_;simp [M252];exact .le (sB sb) (D.le_refl _) (by simp [D.under, D.unders, op_unders])
end Go.Lib
end

section
set_option maxRecDepth 10000
namespace Go.Lib
open Go.Vm Go.Dv Go.Srt
variable {p : Prog} {ext : Ext} {F : Nat → Nat}
attribute [-simp] bin_and bin_xor
theorem kind_w {s : Sch} (hs : OkS s) {c : Cl} (hc : c ∈ s) : ∃ w, (kindsL[c.kind.toNat]?).getD [] = w ∧ w.length ≤ 5 ∧ (∀ x, x ∈ w → 97 ≤ x ∧ x ≤ 122) ∧ max (findN kindsL w) 0 = c.kind ∧ kindsL[c.kind.toNat]? = some w := by
 rcases hs.kinds c hc with k | k
 ·exact ⟨[105, 110, 116], by rw [k]; rfl, by decide, by decide, by rw [k]; decide, by rw [k]; rfl⟩
 ·exact ⟨[98, 121, 116, 101, 115], by rw [k]; rfl, by decide, by decide, by rw [k]; decide, by rw [k]; rfl⟩
theorem colT_at {s : Sch} (hs : OkS s) {c : Cl} (hc : c ∈ s) : (∀ x, x ∈ colT c → x ≠ 44 ∧ x < 256) ∧ (colT c).length ≤ 20 ∧ colR (colT c) = c := by
 obtain ⟨w, h1, h2, h3, h4, h5⟩ := kind_w hs hc;have hn := hs.names c hc
 have e : colT c = c.name ++ 58 :: (w ++ (if c.null = true then [63] else [])) := by unfold colT; rw [h1]; simp
 have hcut : cutN (colT c) [58] = (c.name, w ++ (if c.null = true then [63] else []), true) := by
  rw [e]; exact cut_at fun x hx => by have := name_ne hn hx; omega
 have hcs : cutSN (w ++ (if c.null = true then [63] else [])) [63] = (w, c.null) := by
  cases c.null with
  | true => exact cutS_at
  | false =>
   rw [if_neg (by simp), List.append_nil]
   exact cutS_no fun x hx => by have := h3 x hx; omega
 refine ⟨fun x hx => ?_, ?_, ?_⟩
 ·rw [e] at hx;rcases List.mem_append.1 hx with hx | hx
  ·have := name_ne hn hx; omega
  ·rcases List.mem_cons.1 hx with hx | hx
   ·omega
   ·rcases List.mem_append.1 hx with hx | hx
    ·have := h3 x hx; omega
    ·split at hx
     ·simp at hx; omega
     ·simp at hx
 ·have := hn.2.1;rw [e];cases c.null <;> (simp; omega)
 ·unfold colR;rw [hcut];simp only;rw [hcs];simp only;rw [h4]
theorem schT_split {s : Sch} (hs : OkS s) : Vm.splitN (schT s) [44] = s.map colT := by
 unfold schT;refine split_join (fun e => ?_) fun y hy c hc => ?_
 ·have h1 := hs.len;have h2 : (s.map colT).length = 0 := (by rw [e]; rfl);rw [List.length_map] at h2; omega
 ·obtain ⟨x, hx, rfl⟩ := List.mem_map.1 hy;exact ((colT_at hs hx).1 c hc).1
theorem schT_len {s : Sch} (hs : OkS s) : (schT s).length ≤ 200 := by
 have hj := joinN_le (B := 20) (l := s.map colT) (fun y hy => by
  obtain ⟨x, hx, rfl⟩ := List.mem_map.1 hy
  exact (colT_at hs hx).2.1)
 rw [List.length_map] at hj;have hm := Nat.mul_le_mul_right (20 + 1) hs.len.2;unfold schT; omega
theorem schT_ne {s : Sch} (hs : OkS s) : schT s ≠ [] := fun e => by
 have h := schT_split hs;rw [e] at h;have h1 := hs.len
 cases s with
 | nil => simp at h1
 | cons c s =>
  have h2 : ([] : List Nat) = colT c := by
   have : Vm.splitN [] [44] = [[]] := rfl;rw [this] at h;simpa using (List.cons.inj h).1
  have := (hs.names c List.mem_cons_self).1;rw [show colT c = c.name ++ [58] ++ (kindsL[c.kind.toNat]?).getD [] ++ (if c.null = true then [63] else []) from rfl] at h2;have h3 := congrArg List.length h2;simp only [List.length_append, List.length_nil] at h3; omega
theorem schT_inj {s t : Sch} (hs : OkS s) (ht : OkS t) (h : schT s = schT t) : s = t := by
 have h1 := schT_split hs;rw [h, schT_split ht] at h1
 have key : ∀ (a b : Sch), (∀ x, x ∈ a → colR (colT x) = x) → (∀ x, x ∈ b → colR (colT x) = x) → a.map colT = b.map colT → a = b := by
  intro a
  induction a with
  | nil => intro b _ _ h; cases b with
   | nil => rfl
   | cons y b => simp at h
  | cons x a ih => intro b ha hb h; cases b with
   | nil => simp at h
   | cons y b =>
    simp only [List.map_cons, List.cons.injEq] at h;rw [← ha x List.mem_cons_self, ← hb y List.mem_cons_self, h.1, ih b (fun z hz => ha z (List.mem_cons_of_mem _ hz)) (fun z hz => hb z (List.mem_cons_of_mem _ hz)) h.2]
 exact key s t (fun x hx => (colT_at hs hx).2.2) (fun x hx => (colT_at ht hx).2.2) h1.symm
def schI (H0 : HpD) (s : Sch) (w : Nat) (fr : FrD) (H : HpD) : Prop :=
 ∃ (i : Nat) (t : D), w = s.length - i ∧ i ≤ s.length ∧ fr = [(3, t), (11, schR s), (12, .lit (.int .i64 (s.length : Int))), (13, .lit (.int .i64 (i : Int)))] ∧ Gr H0 H 1 t (strE ((s.take i).map colT))
theorem prog_schema {g : SG} (L : HProgT p ext F g) {s : Sch} (hs : OkS s) : FnD p ext (F 253) [schD s] (.lit (.str (schT s))) := by
 refine fn_of L.h253 (M := M253) rfl ok253 rfl fun H => sem_run 9000 _ ?_;have hsl := hs.len;simp;refine sf (schm_ok L.expr hs) ?_;simp;refine sem_loop (schI H s) ?_ (k := s.length) ⟨0, .lit .nilslice, by simp, by simp, rfl, by simpa [strE] using Gr.start⟩;rintro w fr H' ⟨i, t, rfl, hi, rfl, gr⟩
 by_cases c : i < s.length
 ·obtain ⟨x, hx⟩ : ∃ x, s[i]? = some x := ⟨_, List.getElem?_eq_getElem c⟩;have hxi : s[i] = x := (by rw [List.getElem?_eq_getElem c] at hx; exact Option.some.inj hx);have hxm : x ∈ s := List.mem_of_getElem? hx;have hw : wr .i64 ((i : Int) + 1) = ((i + 1 : Nat) : Int) := (by rw [wr_of] <;> omega);have e : (s.take (i + 1)).map colT = (s.take i).map colT ++ [colT x] := (by rw [List.take_add_one, hx]; simp);obtain ⟨w, k1, k2, k3, k4, k5⟩ := kind_w hs hxm;have hnl := (hs.names x hxm).2.1;have hk0 : 0 ≤ x.kind := (by rcases hs.kinds x hxm with k | k <;> omega);have hct : colT x = x.name ++ 58 :: (w ++ (if x.null = true then [63] else [])) := (by unfold colT; rw [k1]; simp)
  refine sem_run 19 _ ?_;simp [c, hxi];refine sem_box (b := H'.next) (cs := x.c) (ro := false) 5 (by simp) (by simp) ?_;refine sem_run 9000 _ ?_;simp;refine sem_dfn (prog_kinds L) (by first | exact D.les_refl _ | simp) (sem_run 9000 _ ?_);simp;rw [sadd_of (by simp; omega)];simp [hk0, k5];rw [sadd_of (by simp; omega)];simp;cases hnu : x.null
  all_goals
   simp
   try rw [sadd_of (by simp; omega)]
   try simp
   simp [hnu] at hct;rw [← hct];refine sem_push (gr.mono sR) rfl rfl (roomyD (by simp [str_len]; omega) (by simp [str_len]; omega)) fun s' H1 g1 _ _ => ?_;simp;refine sem_ok ?_;refine ⟨_, by omega, i + 1, s', rfl, by omega, by rw [hw], ?_⟩;rw [e, strE_append]; exact g1
 ·have : i = s.length := (by omega);subst this;rw [List.take_length] at gr;have hl := schT_len hs;unfold schT at hl;refine sem_turn gr 3 (by simp) fun H1 s1 _ _ => ?_;refine sem_run 9000 _ ?_;simp;refine sem_exit (sem_run 9000 _ ?_);simp;refine sem_fn (join_ext L.told.x207 (l := s.map colT) (sep := [44]) (by omega) (by simp; omega)) (by first | exact D.les_refl _ | simp [strsD]) (sem_run 9000 _ ?_);simp;refine sem_ret ?_;simp [M253];exact .le s1 (D.le_refl _) (by simp)
end Go.Lib
end

section
set_option maxRecDepth 10000
namespace Go.Lib
open Go.Vm Go.Dv Go.Srt
variable {p : Prog} {ext : Ext} {F : Nat → Nat}
attribute [-simp] bin_and bin_xor
theorem gr_rigid {H0 H : HpD} {sz : Nat} {t : D} {el : List (List D)} (g : Gr H0 H sz t el) : Dv.rigid t = true := by
 rcases g.at_ with ⟨rfl, _⟩ | ⟨b, ex, el0, rfl, _⟩ <;> rfl
def PscI (H0 : HpD) (t : List Nat) (l : List (List Nat)) (w : Nat) (fr : FrD) (H : HpD) : Prop :=
 ∃ (i : Nat) (tt : D), w = l.length - i ∧ i ≤ l.length ∧
  fr = [(0, .lit (.str t)), (2, .ptr H0.next 0), (4, .ptr (H0.next + 1) 0), (12, strsD l), (13, .lit (.int .i64 (l.length : Int))), (14, .lit (.int .i64 (i : Int)))] ∧
  H.blk H0.next = .cells [.lit .nilslice] false ∧ H.blk (H0.next + 1) = .cells [tt] false ∧ H0.next + 2 ≤ H.next ∧ (∃ HB, HB.next = H0.next + 2 ∧ Gr HB H 3 tt (schE ((l.take i).map colR))) ∧ Sub H0 H
theorem prog_parseSchema {g : SG} (L : HProgP p ext F g) {s : Sch} (hs : OkS s) : FnD p ext (F 254) [.lit (.str (schT s))] (.tup [schD s, .lit (.bool true)]) := by
 refine fn_of L.h254 (M := M254) rfl ok254 rfl fun H => sem_run 9000 _ ?_;have hsl := hs.len;have hTl := schT_len hs;have hfull := L.prs.read.words.prs.full;obtain ⟨t, ht⟩ : ∃ t, schT s = t := ⟨_, rfl⟩;obtain ⟨l, hll⟩ : ∃ l, s.map colT = l := ⟨_, rfl⟩
 have hlen : l.length = s.length := by rw [← hll, List.length_map]
 have hmem : ∀ x, x ∈ l → x.length ≤ 20 := fun x hx => by
  rw [← hll] at hx;obtain ⟨c, hc, rfl⟩ := List.mem_map.1 hx;exact (colT_at hs hc).2.1
 have hu : l.map colR = s := by
  rw [← hll, List.map_map];have : s.map (colR ∘ colT) = s.map id := List.map_congr_left fun c hc => (colT_at hs hc).2.2;rw [this, List.map_id]
 have hsp : Vm.splitN t [44] = l := (by rw [← ht, schT_split hs, hll]);have htl : t.length ≤ 200 := (by rw [← ht]; exact hTl);rw [ht];simp;refine sf (split_ext L.prs.read.words.x202 hfull (s := t) (c := 44) (sep := []) (by omega)) ?_;rw [hsp];simp;refine sem_loop (PscI H t l) ?_ (k := l.length) ⟨0, .lit .nilslice, by simp, by simp, rfl, by simp, by simp, by simp, ⟨⟨H.next + 2, _⟩, rfl, ⟨⟨by simp, fun b _ => rfl⟩, by simp [schE], .inl ⟨rfl, rfl⟩⟩⟩, sR⟩;rintro w fr H' ⟨i, tt, rfl, hi, rfl, b2, b3, hn, ⟨HB, hB, gr⟩, sb⟩;have far : ¬ D.hasB (H.next + 1) tt := fun h => (by have := gr.far h; omega)
 have far0 : ¬ D.hasB H.next tt := fun h => by have := gr.far h; omega
 by_cases c : i < l.length
 ·obtain ⟨x, hx⟩ : ∃ x, l[i]? = some x := ⟨_, List.getElem?_eq_getElem c⟩;have hxi : l[i] = x := (by rw [List.getElem?_eq_getElem c] at hx; exact Option.some.inj hx);have hxm := hmem x (List.mem_of_getElem? hx);have hw : wr .i64 ((i : Int) + 1) = ((i + 1 : Nat) : Int) := (by rw [wr_of] <;> omega);have n1 : ¬ (H.next + 1 = H'.next) := (by omega);have n1' : H.next + 1 < H'.next := (by omega);obtain ⟨nm, rs, op, hcut⟩ : ∃ nm rs op, cutN x [58] = (nm, rs, op) := ⟨_, _, _, rfl⟩;obtain ⟨m3, m4⟩ := cut_mem hcut;obtain ⟨kd, nu, hcs⟩ : ∃ kd nu, cutSN rs [63] = (kd, nu) := ⟨_, _, rfl⟩;have hR : colR x = ⟨nm, max (findN kindsL kd) 0, nu⟩ := (by unfold colR; rw [hcut]; simp only; rw [hcs])
  refine sem_run 9000 _ ?_;simp;simp [c, hxi];refine sf (cut_ext L.prs.read.x200 hfull (s := x) (sep := [58]) (by omega)) ?_;rw [hcut];simp;refine sf (cutS_ext L.prs.read.x203 (s := rs) (sep := [63]) (by omega)) ?_;rw [hcs];simp;refine sem_dfn (prog_kinds L.txt) (by first | exact D.les_refl _ | simp) (sem_run 9000 _ ?_);simp;refine sem_dfn (slices_index L.prs.read.words.idx (l := kindsL) (x := kd) (by decide)) (by first | exact D.les_refl _ | simp) (sem_run 9000 _ ?_);simp [b3, n1'];refine ⟨gr_rigid gr, ?_⟩;obtain ⟨E, hE⟩ : ∃ E, schE ((l.take i).map colR) = E := ⟨_, rfl⟩;have hal : E.length = i := (by rw [← hE]; simp [schE]; omega)
  rw [hE] at gr;rw [appendD_slice1 (b := H'.next) (cs := (colR x).c) (ro := false) (by rw [new_blk, if_pos rfl, hR]; rfl) (by simp)];rw [show ((colR x).c.drop 0).take 3 = (colR x).c from rfl];refine sem_push (gr.mono sR) (by simp) (by simp) (roomyD (by omega) (by omega)) fun s' H4 g4 k4 n4 => ?_;obtain ⟨n4', e4⟩ := n4;simp at n4'
  have c4 : H4.blk (H.next + 1) = .cells [tt] false := by
   rw [k4 _ (by simp; omega) far, new_blk, if_neg (by omega)]; exact b3
  subst e4;simp [c4];refine sem_ok ?_;have er : E ++ [(colR x).c] = schE ((l.take (i + 1)).map colR) := (by rw [← hE, List.take_add_one, hx]; simp [schE]);rw [er] at g4;have g5 := g4.rest (H3 := H4.put (H.next + 1) (.cells [.slice (H'.next + 1) 0 3 (E.length + 1) (E.length + 1) false] false)) (by simp) (fun y hy => by have := g4.far hy; rw [put_blk, if_neg (by omega)]);refine ⟨_, by omega, i + 1, _, rfl, by omega, by rw [hw], ?_, put_blk.trans (if_pos rfl), ?_, ⟨_, ?_, g5⟩, ?_⟩
  ·rw [put_blk, if_neg (by omega), k4 _ (by simp; omega) far0, new_blk, if_neg (by omega)]; exact b2
  ·show H.next + 2 ≤ H4.next;omega
  ·exact hB
  ·have := sb.next;refine ⟨by show H.next ≤ H4.next; omega, fun b hb' => ?_⟩;rw [put_blk, if_neg (by omega), k4 _ (by simp; omega) (fun h => by have := gr.far h; omega), new_blk, if_neg (by omega)];exact sb.blk _ hb'
 ·have : i = l.length := (by omega);subst this;rw [List.take_length, hu] at gr;obtain ⟨H5, w5, c5, k5, n5, sub5⟩ := gr.incell b3 (j := 0) rfl far;refine sem_weak (w5 _ _) ?_;have hne : t ≠ [] := (by rw [← ht]; exact schT_ne hs);refine sem_run 9000 _ ?_;simp;refine sem_exit (sem_run 9000 _ ?_);simp at c5;have b5 : H5.blk H.next = .cells [.lit .nilslice] false := (k5 _ (by omega) far0).trans b2;simp [c5, neqs_dec, hne];refine sem_fn (prog_schema L.txt hs) (by first | exact D.les_refl _ | simp [schD, schR, D.les_refl]) (sem_run 9000 _ ?_);have l5 : H.next < H5.next := (by omega);simp [ht, neqs_dec, c5, b5]
  refine sem_ret ?_;simp [M254];have hsn := sb.next;exact .le ((sub5 H sb (by omega) (by omega)).put (Nat.le_refl _)) (by simp [schD, schR, D.le, D.les, D.le_refl]) (by simp [D.under, D.unders])
end Go.Lib
end

section
set_option maxRecDepth 10000
namespace Go.Lib
open Go.Vm Go.Dv Go.Srt
def NoW (s : Sch) : Prop := ∀ c, c ∈ s → c.name ≠ whereW
theorem nameS_now {s : Sch} (hw : NoW s) {c : Int} (h : inB s c = true) : whereW ≠ nameS s c := by
 have hin := inB_iff.1 h;have hci : c.toNat < s.length := (by omega);have : nameS s c = (s[c.toNat]).name := (by unfold nameS; rw [List.getElem?_eq_getElem hci]);rw [this];exact fun e => hw _ (List.getElem_mem hci) e.symm
theorem joinN_no {l : List (List Nat)} (h : ∀ x, x ∈ l → ∀ c, c ∈ x → c ≠ 32) : ∀ c, c ∈ joinN l [44] → c ≠ 32 := fun c hc => by
 rcases mem_joinN hc with e | ⟨x, hx, e⟩
 ·omega
 ·exact h x hx c e
theorem mem_join1 {x : List Nat} {l : List (List Nat)} {c : Nat} (h : c ∈ x) : c ∈ joinN (x :: l) [44] := by
 simp only [joinN]; exact List.mem_append_left _ h
theorem withP_self {o : Op} {q : Pr} (h : o.pred = q) : withP o q = o := op_ext rfl rfl h.symm rfl rfl rfl rfl
theorem look_ok {s : Sch} {q : Pr} (h : PrL s 5 q) (hc : cntP q ≤ 64) : okP s q = true := by
 unfold okP; rw [look_yes h (by omega)]
theorem told_none {s : Sch} (hs : OkS s) {o : Op} (h : OpR s o) (ho : o.pred = pr0) (hT : opT s o = headT s o) (hne : headT s o ≠ []) : toldF s (opT s o) none = (o, true) := by
 have hb := body_back hs h;rw [withP_self ho] at hb;have hf : fullF s (opT s o) none = (o, true) := (by show bodyF s (opT s o) = _; rw [hT]; exact hb);unfold toldF;rw [hf, if_pos ⟨rfl, by rw [hT]; exact hne, by unfold opTx; rw [if_pos h.expr]⟩]
theorem told_some {s : Sch} (hs : OkS s) {o : Op} (h : OpR s o) (h2 : 2 ≤ o.kind ∧ o.kind ≤ 5) : toldF s (opT s o) (some (headT s o).length) = (o, true) := by
 have hb := body_back hs h;obtain ⟨p1, p2⟩ := h.pred h2.1 h2.2;have hT : opT s o = headT s o ++ (whereN ++ toldN s o.pred) := (by unfold opT; rw [if_pos h2]);have e1 : (opT s o).take (headT s o).length = headT s o := (by rw [hT]; simp)
 have e2 : (opT s o).drop ((headT s o).length + 7) = toldN s o.pred := by rw [hT]; simp [List.drop_append, whereN]
 have hf : fullF s (opT s o) (some (headT s o).length) = (o, true) := by
  show (withP (bodyF s ((opT s o).take (headT s o).length)).1 (parseP s ((opT s o).drop ((headT s o).length + 7))).1, _) = _;rw [e1, e2, hb, parseP_back hs.nm p1 p2];show (withP o o.pred, true) = _;rw [withP_self rfl]
 unfold toldF;rw [hf, if_pos ⟨rfl, by rw [hT]; simp [whereN], by unfold opTx; rw [if_pos h.expr]⟩]
theorem try_none {s : Sch} {t : List Nat} {o : Op} (h : indexN t whereN = none) (h2 : toldF s t none = (o, true)) : parseO s t = (o, true) := by
 show tryF s t 3 0 = _;rw [tryF, List.drop_zero, h]; exact h2
theorem try_some {s : Sch} {t : List Nat} {o : Op} {k : Nat} (h : indexN t whereN = some k) (h2 : toldF s t (some k) = (o, true)) : parseO s t = (o, true) := by
 show tryF s t 3 0 = _;rw [tryF, List.drop_zero, h];simp only [Nat.zero_add];rw [h2, if_pos rfl]
theorem parse_back {s : Sch} (hs : OkS s) (hw : NoW s) {o : Op} (h : OpR s o) : parseO s (opT s o) = (o, true) := by
 have hk : o.kind = 1 ∨ o.kind = 2 ∨ o.kind = 3 ∨ o.kind = 4 ∨ o.kind = 5 ∨ o.kind = 6 := (by have := h.kind; omega);have he := h.expr;unfold exprB at he;rcases hk with k | k | k | k | k | k
 ·have e : headT s o = [105, 110, 115, 101, 114, 116] ++ 32 :: joinN (o.row.map valN) [44] := (by unfold headT; rw [if_pos k]; simp);have hT : opT s o = headT s o := (by unfold opT; rw [if_neg (by omega)]);refine try_none ?_ (told_none hs h (h.prz (.inl k)) hT (by rw [e]; simp));rw [hT, e];exact idx_none2 (by decide) (joinN_no fun x hx c hc => by obtain ⟨v, _, rfl⟩ := List.mem_map.1 hx; exact (val_any hc).1.1)
 ·have e : headT s o = [117, 112, 100, 97, 116, 101] ++ 32 :: joinN (o.sets.map (setT s)) [44] := (by unfold headT; rw [if_neg (by omega), if_pos k]; simp);have hT : opT s o = headT s o ++ (whereN ++ toldN s o.pred) := (by unfold opT; rw [if_pos (by omega)]);rw [if_neg (by omega), if_pos k] at he;unfold setsB at he;simp only [Bool.and_eq_true, decide_eq_true_eq] at he;refine try_some ?_ (told_some hs h (by omega));rw [hT, e]
  have := idx_hit2 (a := [117, 112, 100, 97, 116, 101]) (b := joinN (o.sets.map (setT s)) [44]) (t := toldN s o.pred) (by decide) (joinN_no fun x hx c hc => by obtain ⟨v, _, rfl⟩ := List.mem_map.1 hx; exact (setT_no hs hc).1.1) (fun ew => by
   cases el : o.sets with
   | nil => rw [el] at he; simp at he
   | cons x l =>
    have h61 : 61 ∈ joinN (o.sets.map (setT s)) [44] := by
     rw [el];refine mem_join1 ?_;unfold setT;cases x.add <;> simp
    rw [← ew] at h61
    simp [whereW] at h61)
  rw [← this];simp
 ·have e : headT s o = [100, 101, 108, 101, 116, 101] := (by unfold headT; rw [if_neg (by omega), if_neg (by omega), if_pos k]);have hT : opT s o = headT s o ++ (whereN ++ toldN s o.pred) := (by unfold opT; rw [if_pos (by omega)]);refine try_some ?_ (told_some hs h (by omega));rw [hT, e];exact idx_hit (by decide)
 ·have e : headT s o = [115, 99, 97, 110] ++ 32 :: joinN (o.cols.map (nameS s)) [44] := (by unfold headT; rw [if_neg (by omega), if_neg (by omega), if_neg (by omega), if_pos k]; simp);have hT : opT s o = headT s o ++ (whereN ++ toldN s o.pred) := (by unfold opT; rw [if_pos (by omega)]);rw [if_neg (by omega), if_neg (by omega), if_neg (by omega), if_pos k] at he;unfold colsB at he;simp only [Bool.and_eq_true, decide_eq_true_eq, Bool.not_eq_true', List.any_eq_false] at he;refine try_some ?_ (told_some hs h (by omega));rw [hT, e]
  have := idx_hit2 (a := [115, 99, 97, 110]) (b := joinN (o.cols.map (nameS s)) [44]) (t := toldN s o.pred) (by decide) (joinN_no fun x hx c hc => by obtain ⟨v, _, rfl⟩ := List.mem_map.1 hx; have := nameS_let hs hc; omega) (fun ew => by
   cases el : o.cols with
   | nil => rw [el] at he; simp at he
   | cons x l =>
    rw [el] at ew he;have hx := he.2.2 x List.mem_cons_self
    cases l with
    | nil => exact nameS_now hw (c := x) (by simpa using hx) (by rw [ew]; simp [joinN, joinT])
    | cons y l =>
     have h44 : 44 ∈ joinN ((x :: y :: l).map (nameS s)) [44] := (by simp [joinN, joinT]);rw [← ew] at h44
     simp [whereW] at h44)
  rw [← this];simp
 ·have e : headT s o = [97, 103, 103] ++ 32 :: (groupT s o.group ++ 32 :: joinN (o.aggs.map (aggT s)) [44]) := (by unfold headT; rw [if_neg (by omega), if_neg (by omega), if_neg (by omega), if_neg (by omega), if_pos k]; simp);have hT : opT s o = headT s o ++ (whereN ++ toldN s o.pred) := (by unfold opT; rw [if_pos (by omega)]);rw [if_neg (by omega), if_neg (by omega), if_neg (by omega), if_neg (by omega), if_pos k] at he;unfold aggsB at he;simp only [Bool.and_eq_true, Bool.or_eq_true, decide_eq_true_eq, Bool.not_eq_true', List.any_eq_false] at he;refine try_some ?_ (told_some hs h (by omega))
  rw [hT, e]
  have := idx_hit3 (a := [97, 103, 103]) (b := groupT s o.group) (d := joinN (o.aggs.map (aggT s)) [44]) (t := toldN s o.pred) (by decide) (fun c hc => (groupT_no hs hc).1) (fun ew => by
   rcases he.1.2 with g | g
   ·rw [g] at ew; exact absurd ew (by show ¬ whereW = [45]; decide)
   ·have := inB_iff.1 g
    exact nameS_now hw g (by rw [ew]; unfold groupT; rw [if_neg (by omega)])) (joinN_no fun x hx c hc => by obtain ⟨v, _, rfl⟩ := List.mem_map.1 hx; exact (aggT_no hs hc).1) (fun ew => by
   cases el : o.aggs with
   | nil => rw [el] at he; simp at he
   | cons x l =>
    rw [el] at ew he
    have hx : aggB s x = true := by have := he.2.2 x List.mem_cons_self; simpa using this
    have hk : x.kind = 1 ∨ x.kind = 2 ∨ x.kind = 3 ∨ x.kind = 4 := by
     unfold aggB at hx;split at hx
     ·rename_i k; exact .inl k
     ·split at hx
      ·rename_i k; exact .inr (.inl k)
      ·split at hx
       ·rename_i k; exact .inr (.inr k)
       ·cases hx
    have h0 := congrArg List.head? ew;rcases hk with k | k | k | k
    all_goals
     simp [joinN, aggT, k, aggW, whereW] at h0)
  rw [← this];simp
 ·have e : headT s o = [114, 111, 108, 108, 98, 97, 99, 107] := (by unfold headT; rw [if_neg (by omega), if_neg (by omega), if_neg (by omega), if_neg (by omega), if_neg (by omega)]);have hT : opT s o = headT s o := (by unfold opT; rw [if_neg (by omega)]);refine try_none ?_ (told_none hs h (h.prz (.inr k)) hT (by rw [e]; simp));rw [hT, e];exact idx_none1 (by decide)
theorem join_lt {B : Nat} {l : List (List Nat)} (h : ∀ x, x ∈ l → x.length ≤ B) (hl : l.length ≤ 6) : (joinN l [44]).length ≤ 6 * (B + 1) := Nat.le_trans (joinN_le h) (Nat.mul_le_mul_right _ hl)
theorem opT_small {s : Sch} (hs : OkS s) {o : Op} (h : OpR s o) : (opT s o).length < 100000 ∧ ∀ c, c ∈ opT s o → c < 256 := by
 have hk : o.kind = 1 ∨ o.kind = 2 ∨ o.kind = 3 ∨ o.kind = 4 ∨ o.kind = 5 ∨ o.kind = 6 := (by have := h.kind; omega);have he := h.expr;unfold exprB at he;have hl := hs.len
 have hA : 2 ≤ o.kind ∧ o.kind ≤ 5 → (toldN s o.pred).length ≤ 30000 ∧ ∀ c, c ∈ toldN s o.pred → c < 256 := fun h2 => by
  obtain ⟨p1, p2⟩ := h.pred h2.1 h2.2;have := told_cnt hs.short p1;exact ⟨by omega, told_lt hs p1⟩
 have jn : ∀ {l : List (List Nat)}, (∀ x, x ∈ l → ∀ c, c ∈ x → c < 256) → ∀ c, c ∈ joinN l [44] → c < 256 := fun hl c hc => by
  rcases mem_joinN hc with e | ⟨x, hx, e⟩
  ·omega
  ·exact hl x hx c e
 have fin : ∀ (w J : List Nat), (∀ c, c ∈ w → c < 256) → w.length ≤ 200 → J.length ≤ 4000 → (∀ c, c ∈ J → c < 256) → headT s o = w ++ J → (opT s o).length < 100000 ∧ ∀ c, c ∈ opT s o → c < 256 := fun w J h1 h2 h3 h4 e => by
  unfold opT;split
  ·rename_i hk2;obtain ⟨a1, a2⟩ := hA hk2;rw [e];refine ⟨by simp only [List.length_append, whereN, List.length_cons, List.length_nil]; omega, fun c hc => ?_⟩;rcases List.mem_append.1 hc with hc | hc
   ·rcases List.mem_append.1 hc with hc | hc
    ·exact h1 c hc
    ·exact h4 c hc
   ·rcases List.mem_append.1 hc with hc | hc
    ·have key : ∀ c, c ∈ whereN → c < 256 := (by decide);exact key c hc
    ·exact a2 c hc
  ·rw [e];refine ⟨by simp only [List.length_append]; omega, fun c hc => ?_⟩;rcases List.mem_append.1 hc with hc | hc
   ·exact h1 c hc
   ·exact h4 c hc
 rcases hk with k | k | k | k | k | k
 ·rw [if_pos k, Bool.and_eq_true] at he;have hfl := fitsB_len he.2;refine fin [105, 110, 115, 101, 114, 116, 32] (joinN (o.row.map valN) [44]) (by decide) (by simp) (Nat.le_trans (join_lt (B := 200) (fun x hx => ?_) (by rw [List.length_map]; omega)) (by omega)) (jn fun x hx c hc => ?_) (by unfold headT; rw [if_pos k])
  ·obtain ⟨v, hv, rfl⟩ := List.mem_map.1 hx;obtain ⟨i, hi⟩ := List.getElem?_of_mem hv;obtain ⟨c, _, hh⟩ := fitsB_at he.2 hi;exact val_any_len (holdsB_iff.1 hh).1
  ·obtain ⟨v, hv, rfl⟩ := List.mem_map.1 hx;exact (val_any hc).2
 ·rw [if_neg (by omega), if_pos k, Bool.and_eq_true] at he;have hss := he.2;unfold setsB at hss;simp only [Bool.and_eq_true, decide_eq_true_eq] at hss;refine fin [117, 112, 100, 97, 116, 101, 32] (joinN (o.sets.map (setT s)) [44]) (by decide) (by simp) (Nat.le_trans (join_lt (B := 400) (fun x hx => ?_) (by rw [List.length_map]; omega)) (by omega)) (jn fun x hx c hc => ?_) (by unfold headT; rw [if_neg (by omega), if_pos k])
  ·obtain ⟨v, hv, rfl⟩ := List.mem_map.1 hx;exact set_len hs (setsGo_all hss.1 v hv)
  ·obtain ⟨v, hv, rfl⟩ := List.mem_map.1 hx;exact (setT_no hs hc).2
 ·exact fin [100, 101, 108, 101, 116, 101] [] (by decide) (by simp) (by simp) (by simp) (by unfold headT; rw [if_neg (by omega), if_neg (by omega), if_pos k]; rfl)
 ·rw [if_neg (by omega), if_neg (by omega), if_neg (by omega), if_pos k, Bool.and_eq_true] at he;have hss := he.2;unfold colsB at hss;simp only [Bool.and_eq_true, decide_eq_true_eq] at hss;refine fin [115, 99, 97, 110, 32] (joinN (o.cols.map (nameS s)) [44]) (by decide) (by simp) (Nat.le_trans (join_lt (B := 100) (fun x hx => ?_) (by rw [List.length_map]; omega)) (by omega)) (jn fun x hx c hc => ?_) (by unfold headT; rw [if_neg (by omega), if_neg (by omega), if_neg (by omega), if_pos k])
  ·obtain ⟨v, hv, rfl⟩ := List.mem_map.1 hx;exact nameS_len hs.short
  ·obtain ⟨v, hv, rfl⟩ := List.mem_map.1 hx;have := nameS_let hs hc; omega
 ·rw [if_neg (by omega), if_neg (by omega), if_neg (by omega), if_neg (by omega), if_pos k, Bool.and_eq_true] at he;have hss := he.2;unfold aggsB at hss;simp only [Bool.and_eq_true, decide_eq_true_eq] at hss
  have hgl : (groupT s o.group).length ≤ 100 := by
   have := nameS_len hs.short (c := o.group);unfold groupT;split
   ·simp
   ·exact this
  refine fin ([97, 103, 103, 32] ++ groupT s o.group ++ [32]) (joinN (o.aggs.map (aggT s)) [44]) (fun c hc => ?_) (by simp; omega) (Nat.le_trans (join_lt (B := 400) (fun x hx => ?_) (by rw [List.length_map]; omega)) (by omega)) (jn fun x hx c hc => ?_) (by unfold headT; rw [if_neg (by omega), if_neg (by omega), if_neg (by omega), if_neg (by omega), if_pos k])
  ·rcases List.mem_append.1 hc with hc | hc
   ·rcases List.mem_append.1 hc with hc | hc
    ·have key : ∀ c, c ∈ ([97, 103, 103, 32] : List Nat) → c < 256 := (by decide);exact key c hc
    ·exact (groupT_no hs hc).2
   ·simp at hc; omega
  ·obtain ⟨v, hv, rfl⟩ := List.mem_map.1 hx;exact agg_len hs
  ·obtain ⟨v, hv, rfl⟩ := List.mem_map.1 hx;exact (aggT_no hs hc).2.2
 ·exact fin [114, 111, 108, 108, 98, 97, 99, 107] [] (by decide) (by simp) (by simp) (by simp) (by unfold headT; rw [if_neg (by omega), if_neg (by omega), if_neg (by omega), if_neg (by omega), if_neg (by omega)]; rfl)
end Go.Lib
end

section
namespace Go.Lib
open Go.Vm Go.Dv
set_option maxRecDepth 100000
abbrev K97 (F : Nat → Nat) : KC := .seq (.region [⟨some 3,.a (.box (.tmp 0)),none⟩,⟨some 6,.a (.new [.int .i64 (.ofNat 0),.nilslice,.int .i64 (.ofNat 0),.int .i64 (.ofNat 0),.int .i64 (.ofNat 0),.bool false,.int .i64 (.ofNat 0),.int .i64 (.ofNat 0),.nilslice,.nilslice,.nilslice,.nilslice,.int .i64 (.ofNat 0),.nilslice]),none⟩] [3] [1,2,3,6])
 (.seq (.region [mi 7 0] [] [1,2,3,6,7])
 (.seq (.seq (.region [mv 12 1,lb 13 12,bi 14 .gtr 13 0] [] [1,2,3,6,7,14])
 (.cond (.tmp 14) (.region [mv 15 1,mv 16 2,mv 17 1,lb 18 17,bt 19 .rem 16 18,ix 20 1 15 19,l1 21 20,mv 22 2,bi 23 .mul 22 7919,bt 24 .add 21 23,mv 7 24] [] [1,2,3,6,7])
 (.skip)))
 (.seq (.region [ln 25 1 3,mv 26 1,mv 27 2,bi 28 .rem 27 7,⟨some 29,.e (.call (F 99) [(.tmp 25),(.tmp 26),(.tmp 28),(.val (.int .i64 (.ofNat 3)))]),none⟩,⟨some 8,.a (.new [.int .i64 (.ofNat 0),.int .i64 (.ofNat 0),.int .i64 (.ofNat 0),.bool false,.int .i64 (.ofNat 0),.int .i64 (.ofNat 0),.nilslice,.nilslice]),none⟩,⟨none,.e (.store 8 (.tmp 8) (.tmp 29)),none⟩] [] [3,6,7,8])
 (.seq (.seq (.region [mv 30 7,⟨some 31,.p (.bin .shr (.tmp 30) (.val (.int .u64 (.ofNat 3)))),none⟩,bi 32 .and 31 3,bi 33 .eql 32 0] [] [3,6,7,8,33])
 (.cond (.tmp 33) (.region [mv 34 7,⟨some 35,.p (.bin .shr (.tmp 34) (.val (.int .u64 (.ofNat 5)))),none⟩,bi 36 .and 35 15,⟨some 37,.p (.build [.bool false,.int .i64 (.ofNat 0),.int .i64 (.ofNat 0),.nilslice] [(1,1,(.val (.int .i64 (.ofNat 1)))),(2,1,(.tmp 36))]),none⟩,⟨some 38,.p (.build [.int .i64 (.ofNat 0),.int .i64 (.ofNat 0),.int .i64 (.ofNat 0),.bool false,.int .i64 (.ofNat 0),.int .i64 (.ofNat 0),.nilslice,.nilslice] [(0,1,(.val (.int .i64 (.ofNat 2)))),(2,1,(.val (.int .i64 (.ofNat 1)))),(3,4,(.tmp 37))]),none⟩,⟨none,.e (.store 8 (.tmp 8) (.tmp 38)),none⟩] [] [3,6,7,8])
 (.skip)))
 (.seq (.region [mv 39 7,⟨some 40,.p (.bin .shr (.tmp 39) (.val (.int .u64 (.ofNat 9)))),none⟩,bi 41 .and 40 255,fa 42 0 3,l1 43 42,lb 44 43,bt 45 .rem 41 44,mv 9 45] [] [3,6,7,8,9])
 (.seq (.seq (.region [mv 46 7,bi 47 .and 46 7] [] [3,6,7,8,9,47])
 (.block 0 (.seq (.seq (.region [bi 49 .eql 47 0,mv 48 49] [] [3,6,7,8,9,47,48])
 (.cond (.tmp 48) (.skip)
 (.seq (.region [bi 50 .eql 47 1,mv 48 50] [] [3,6,7,8,9,47,48])
 (.cond (.tmp 48) (.skip)
 (.region [bi 51 .eql 47 2,mv 48 51] [] [3,6,7,8,9,47,48])))))
 (.cond (.tmp 48) (.seq (.region [ln 52 1 3,mv 53 7,⟨some 54,.p (.bin .shr (.tmp 53) (.val (.int .u64 (.ofNat 5)))),none⟩,⟨some 55,.e (.call (F 24) [(.tmp 52),(.tmp 54)]),none⟩,⟨some 56,.p (.build [.int .i64 (.ofNat 0),.nilslice,.int .i64 (.ofNat 0),.int .i64 (.ofNat 0),.int .i64 (.ofNat 0),.bool false,.int .i64 (.ofNat 0),.int .i64 (.ofNat 0),.nilslice,.nilslice,.nilslice,.nilslice,.int .i64 (.ofNat 0),.nilslice] [(0,1,(.val (.int .i64 (.ofNat 1)))),(1,1,(.tmp 55))]),none⟩,⟨none,.e (.store 14 (.tmp 6) (.tmp 56)),none⟩] [] [6])
 (.ret))
 (.seq (.seq (.region [bi 58 .eql 47 3,mv 57 58] [] [3,6,7,8,9,47,57])
 (.cond (.tmp 57) (.skip)
 (.region [bi 59 .eql 47 4,mv 57 59] [] [3,6,7,8,9,47,57])))
 (.cond (.tmp 57) (.seq (.seq (.region [mv 60 9,bi 61 .gtr 60 0] [] [3,6,7,8,9,61])
 (.cond (.tmp 61) (.seq (.region [mv 62 9,fa 63 0 3,l1 64 63,mv 65 9,ix 66 3 64 65,ln 67 3 66,mv 68 7,⟨some 69,.p (.bin .shr (.tmp 68) (.val (.int .u64 (.ofNat 17)))),none⟩,⟨some 70,.e (.call (F 25) [(.tmp 67),(.tmp 69)]),none⟩,⟨some 71,.p (.build [.int .i64 (.ofNat 0),.bool false,.bool false,.int .i64 (.ofNat 0),.int .i64 (.ofNat 0),.nilslice] [(0,1,(.tmp 62)),(2,4,(.tmp 70))]),none⟩,⟨some 10,.a (.new [.int .i64 (.ofNat 0),.bool false,.bool false,.int .i64 (.ofNat 0),.int .i64 (.ofNat 0),.nilslice]),none⟩,⟨none,.e (.store 6 (.tmp 10) (.tmp 71)),none⟩] [] [3,6,7,8,9,10])
 (.seq (.seq (.region [fa 72 0 3,l1 73 72,mv 74 9,ix 75 3 73 74,fa 76 1 75,l1 77 76,bi 78 .eql 77 1,mv 79 78,⟨some 80,.p (.faddr 2 (.tmp 10)),(some (79,true))⟩,⟨some 81,.p (.faddr 0 (.tmp 80)),(some (79,true))⟩,⟨some 82,.load1 (.tmp 81),(some (79,true))⟩,⟨some 83,.p (.not (.tmp 82)),(some (79,true))⟩,⟨some 84,.p (.pick (.tmp 79) (.tmp 83) (.val (.bool false))),none⟩,mv 85 84,⟨some 86,.p (.mov (.tmp 7)),(some (85,true))⟩,⟨some 87,.p (.bin .shr (.tmp 86) (.val (.int .u64 (.ofNat 13)))),(some (85,true))⟩,⟨some 88,.p (.bin .and (.tmp 87) (.val (.int .i64 (.ofNat 1)))),(some (85,true))⟩,⟨some 89,.p (.bin .eql (.tmp 88) (.val (.int .i64 (.ofNat 1)))),(some (85,true))⟩,⟨some 90,.p (.pick (.tmp 85) (.tmp 89) (.val (.bool false))),none⟩] [] [6,8,10,90])
 (.cond (.tmp 90) (.region [fa 91 1 10,⟨none,.e (.store 1 (.tmp 91) (.val (.bool true))),none⟩] [] [6,8,10])
 (.skip)))
 (.seq (.region [ln 92 8 8,ln 93 6 10,⟨some 94,.a (.bslice [.int .i64 (.ofNat 0),.bool false,.bool false,.int .i64 (.ofNat 0),.int .i64 (.ofNat 0),.nilslice] 6 1 [(0,6,(.tmp 93))]),none⟩,⟨some 95,.p (.build [.int .i64 (.ofNat 0),.nilslice,.int .i64 (.ofNat 0),.int .i64 (.ofNat 0),.int .i64 (.ofNat 0),.bool false,.int .i64 (.ofNat 0),.int .i64 (.ofNat 0),.nilslice,.nilslice,.nilslice,.nilslice,.int .i64 (.ofNat 0),.nilslice] [(0,1,(.val (.int .i64 (.ofNat 2)))),(2,8,(.tmp 92)),(10,1,(.tmp 94))]),none⟩,⟨none,.e (.store 14 (.tmp 6) (.tmp 95)),none⟩] [94] [6])
 (.ret))))
 (.skip)))
 (.seq (.region [ln 96 8 8,⟨some 97,.p (.build [.int .i64 (.ofNat 0),.nilslice,.int .i64 (.ofNat 0),.int .i64 (.ofNat 0),.int .i64 (.ofNat 0),.bool false,.int .i64 (.ofNat 0),.int .i64 (.ofNat 0),.nilslice,.nilslice,.nilslice,.nilslice,.int .i64 (.ofNat 0),.nilslice] [(0,1,(.val (.int .i64 (.ofNat 3)))),(2,8,(.tmp 96))]),none⟩,⟨none,.e (.store 14 (.tmp 6) (.tmp 97)),none⟩] [] [6])
 (.ret)))
 (.seq (.region [bi 99 .eql 47 5,mv 98 99] [] [6,7,8,9,47,98])
 (.cond (.tmp 98) (.seq (.region [ln 100 8 8,mv 101 9,⟨some 102,.a (.bslice [.int .i64 (.ofNat 0),.int .i64 (.ofNat 0)] 1 2 [(0,1,(.tmp 101)),(1,1,(.val (.int .i64 (.ofNat 0))))]),none⟩,⟨some 103,.p (.build [.int .i64 (.ofNat 0),.nilslice,.int .i64 (.ofNat 0),.int .i64 (.ofNat 0),.int .i64 (.ofNat 0),.bool false,.int .i64 (.ofNat 0),.int .i64 (.ofNat 0),.nilslice,.nilslice,.nilslice,.nilslice,.int .i64 (.ofNat 0),.nilslice] [(0,1,(.val (.int .i64 (.ofNat 4)))),(2,8,(.tmp 100)),(11,1,(.tmp 102))]),none⟩,⟨none,.e (.store 14 (.tmp 6) (.tmp 103)),none⟩] [102] [6])
 (.ret))
 (.seq (.region [bi 105 .eql 47 6,mv 104 105] [] [6,7,8,9,104])
 (.cond (.tmp 104) (.seq (.region [ln 106 8 8,mv 107 9,mv 108 7,⟨some 109,.p (.bin .shr (.tmp 108) (.val (.int .u64 (.ofNat 14)))),none⟩,bi 110 .and 109 1,mv 111 9,bi 112 .add 111 1,bt 113 .mul 110 112,bt 114 .sub 107 113,⟨some 115,.p (.build [.int .i64 (.ofNat 0),.int .i64 (.ofNat 0)] [(0,1,(.val (.int .i64 (.ofNat 1))))]),none⟩,mv 116 7,⟨some 117,.p (.bin .shr (.tmp 116) (.val (.int .u64 (.ofNat 15)))),none⟩,bi 118 .and 117 1,⟨some 119,.p (.bin .add (.val (.int .i64 (.ofNat 3))) (.tmp 118)),none⟩,mv 120 9,⟨some 121,.p (.build [.int .i64 (.ofNat 0),.int .i64 (.ofNat 0)] [(0,1,(.tmp 119)),(1,1,(.tmp 120))]),none⟩,⟨some 122,.p (.build [.int .i64 (.ofNat 0),.int .i64 (.ofNat 0)] [(0,1,(.val (.int .i64 (.ofNat 2))))]),none⟩,⟨some 123,.a (.bslice [.int .i64 (.ofNat 0),.int .i64 (.ofNat 0),.int .i64 (.ofNat 0),.int .i64 (.ofNat 0),.int .i64 (.ofNat 0),.int .i64 (.ofNat 0)] 2 3 [(0,2,(.tmp 115)),(2,2,(.tmp 121)),(4,2,(.tmp 122))]),none⟩,⟨some 124,.p (.build [.int .i64 (.ofNat 0),.nilslice,.int .i64 (.ofNat 0),.int .i64 (.ofNat 0),.int .i64 (.ofNat 0),.bool false,.int .i64 (.ofNat 0),.int .i64 (.ofNat 0),.nilslice,.nilslice,.nilslice,.nilslice,.int .i64 (.ofNat 0),.nilslice] [(0,1,(.val (.int .i64 (.ofNat 5)))),(2,8,(.tmp 106)),(12,1,(.tmp 114)),(13,1,(.tmp 123))]),none⟩,⟨some 11,.a (.new [.int .i64 (.ofNat 0),.nilslice,.int .i64 (.ofNat 0),.int .i64 (.ofNat 0),.int .i64 (.ofNat 0),.bool false,.int .i64 (.ofNat 0),.int .i64 (.ofNat 0),.nilslice,.nilslice,.nilslice,.nilslice,.int .i64 (.ofNat 0),.nilslice]),none⟩,⟨none,.e (.store 14 (.tmp 11) (.tmp 124)),none⟩] [123] [6,11])
 (.seq (.region [ln 125 14 11,⟨none,.e (.store 14 (.tmp 6) (.tmp 125)),none⟩] [] [6])
 (.ret)))
 (.skip)))))))))))
 (.seq (.seq (.region [mv 126 7,⟨some 127,.p (.bin .shr (.tmp 126) (.val (.int .u64 (.ofNat 18)))),none⟩,bi 128 .and 127 7,bi 129 .eql 128 0] [] [6,8,129])
 (.cond (.tmp 129) (.seq (.region [⟨some 130,.p (.build [.int .i64 (.ofNat 0),.nilslice,.int .i64 (.ofNat 0),.int .i64 (.ofNat 0),.int .i64 (.ofNat 0),.bool false,.int .i64 (.ofNat 0),.int .i64 (.ofNat 0),.nilslice,.nilslice,.nilslice,.nilslice,.int .i64 (.ofNat 0),.nilslice] [(0,1,(.val (.int .i64 (.ofNat 6))))]),none⟩,⟨none,.e (.store 14 (.tmp 6) (.tmp 130)),none⟩] [] [6])
 (.ret))
 (.skip)))
 (.seq (.region [ln 131 8 8,⟨some 132,.p (.build [.int .i64 (.ofNat 0),.nilslice,.int .i64 (.ofNat 0),.int .i64 (.ofNat 0),.int .i64 (.ofNat 0),.bool false,.int .i64 (.ofNat 0),.int .i64 (.ofNat 0),.nilslice,.nilslice,.nilslice,.nilslice,.int .i64 (.ofNat 0),.nilslice] [(0,1,(.val (.int .i64 (.ofNat 3)))),(2,8,(.tmp 131))]),none⟩,⟨none,.e (.store 14 (.tmp 6) (.tmp 132)),none⟩] [] [6])
 (.ret)))))))))
def M97 (F : Nat → Nat) : Fun := ⟨133,3,(K97 F).erase,[.celln 14 6]⟩
theorem ok97 {F : Nat → Nat} : (K97 F).ok = true := rfl
abbrev K98 (F : Nat → Nat) : KC := .seq (.region [⟨some 3,.a (.box (.tmp 0)),none⟩,⟨some 6,.p (.mov (.val (.nilslice))),none⟩] [3] [1,2,3])
 (.seq (.region [⟨some 7,.p (.mov (.val (.nilslice))),none⟩] [] [1,2,3,7])
 (.seq (.seq (.region [mi 8 0] [] [1,2,3,7,8])
 (.block 0 (.loop (.seq (.seq (.region [mv 9 8,mv 10 2,bi 11 .and 10 7,bt 12 .lss 9 11,mv 13 12,⟨some 14,.p (.mov (.tmp 8)),(some (13,true))⟩,⟨some 15,.p (.bin .lss (.tmp 14) (.val (.int .i64 (.ofNat 6)))),(some (13,true))⟩,⟨some 16,.p (.pick (.tmp 13) (.tmp 15) (.val (.bool false))),none⟩] [] [1,2,3,7,8,16])
 (.cond (.tmp 16) (.skip)
 (.exit 0)))
 (.seq (.block 1 (.region [mv 19 7,ln 20 1 3,mv 21 1,mv 22 2,⟨some 23,.p (.bin .shr (.tmp 22) (.val (.int .u64 (.ofNat 3)))),none⟩,bi 24 .and 23 63,mv 25 8,bt 26 .add 24 25,⟨some 27,.e (.call (F 97) [(.tmp 20),(.tmp 21),(.tmp 26)]),none⟩,⟨some 28,.a (.bslice [.int .i64 (.ofNat 0),.nilslice,.int .i64 (.ofNat 0),.int .i64 (.ofNat 0),.int .i64 (.ofNat 0),.bool false,.int .i64 (.ofNat 0),.int .i64 (.ofNat 0),.nilslice,.nilslice,.nilslice,.nilslice,.int .i64 (.ofNat 0),.nilslice] 14 1 [(0,14,(.tmp 27))]),none⟩,⟨some 29,.e (.append 14 208 (.tmp 19) (.tmp 28)),none⟩,mv 7 29] [28] [1,2,3,7,8]))
 (.region [mv 17 8,bi 18 .add 17 1,mv 8 18] [] [1,2,3,7,8]))))))
 (.seq (.region [mv 30 7,mv 6 30] [] [6])
 (.ret))))
def M98 (F : Nat → Nat) : Fun := ⟨31,3,(K98 F).erase,[.tmp 6]⟩
theorem ok98 {F : Nat → Nat} : (K98 F).ok = true := rfl
abbrev K99 (F : Nat → Nat) : KC := .seq (.region [⟨some 4,.a (.box (.tmp 0)),none⟩,⟨some 8,.a (.new [.int .i64 (.ofNat 0),.int .i64 (.ofNat 0),.int .i64 (.ofNat 0),.bool false,.int .i64 (.ofNat 0),.int .i64 (.ofNat 0),.nilslice,.nilslice]),none⟩] [4] [1,2,3,4,8])
 (.seq (.region [mv 16 2,bi 17 .mul 16 7919,mv 9 17] [] [1,2,3,4,8,9])
 (.seq (.seq (.region [mv 18 2,mv 19 1,lb 20 19,bt 21 .lss 18 20] [] [1,2,3,4,8,9,21])
 (.cond (.tmp 21) (.region [mv 22 1,mv 23 2,ix 24 1 22 23,l1 25 24,mv 9 25] [] [1,2,3,4,8,9])
 (.skip)))
 (.seq (.region [mv 26 9,bi 27 .and 26 7,mv 10 27] [] [1,2,3,4,8,9,10])
 (.seq (.seq (.region [mv 28 3,bi 29 .leq 28 1,mv 30 29,⟨some 31,.p (.mov (.tmp 10)),(some (30,true))⟩,⟨some 32,.p (.bin .gtr (.tmp 31) (.val (.int .i64 (.ofNat 4)))),(some (30,true))⟩,⟨some 33,.p (.pick (.tmp 30) (.tmp 32) (.val (.bool false))),none⟩] [] [1,2,3,4,8,9,10,33])
 (.cond (.tmp 33) (.region [mv 34 10,bi 35 .sub 34 4,mv 10 35] [] [1,2,3,4,8,9,10])
 (.skip)))
 (.seq (.region [mv 36 9,⟨some 37,.p (.bin .shr (.tmp 36) (.val (.int .u64 (.ofNat 3)))),none⟩,bi 38 .and 37 255,fa 39 0 4,l1 40 39,lb 41 40,bt 42 .rem 38 41,mv 11 42] [] [1,2,3,4,8,9,10,11])
 (.seq (.seq (.region [mv 43 10] [] [1,2,3,4,8,9,10,11,43])
 (.block 0 (.seq (.region [bi 45 .eql 43 0,mv 44 45] [] [1,2,3,4,8,9,10,11,43,44])
 (.cond (.tmp 44) (.seq (.region [⟨some 46,.p (.build [.int .i64 (.ofNat 0),.int .i64 (.ofNat 0),.int .i64 (.ofNat 0),.bool false,.int .i64 (.ofNat 0),.int .i64 (.ofNat 0),.nilslice,.nilslice] [(0,1,(.val (.int .i64 (.ofNat 1))))]),none⟩,⟨none,.e (.store 8 (.tmp 8) (.tmp 46)),none⟩] [] [8])
 (.ret))
 (.seq (.region [bi 48 .eql 43 1,mv 47 48] [] [1,2,3,4,8,9,10,11,43,47])
 (.cond (.tmp 47) (.seq (.region [mv 49 11,⟨some 50,.p (.build [.int .i64 (.ofNat 0),.int .i64 (.ofNat 0),.int .i64 (.ofNat 0),.bool false,.int .i64 (.ofNat 0),.int .i64 (.ofNat 0),.nilslice,.nilslice] [(0,1,(.val (.int .i64 (.ofNat 3)))),(1,1,(.tmp 49))]),none⟩,⟨none,.e (.store 8 (.tmp 8) (.tmp 50)),none⟩] [] [8])
 (.ret))
 (.seq (.seq (.region [bi 52 .eql 43 5,mv 51 52] [] [1,2,3,4,8,9,10,11,43,51])
 (.cond (.tmp 51) (.skip)
 (.region [bi 53 .eql 43 6,mv 51 53] [] [1,2,3,4,8,9,10,11,43,51])))
 (.cond (.tmp 51) (.seq (.region [mv 54 10,⟨some 55,.p (.bin .add (.val (.int .i64 (.ofNat 4))) (.tmp 54)),none⟩,bi 56 .sub 55 5,⟨some 57,.p (.build [.int .i64 (.ofNat 0),.int .i64 (.ofNat 0),.int .i64 (.ofNat 0),.bool false,.int .i64 (.ofNat 0),.int .i64 (.ofNat 0),.nilslice,.nilslice] [(0,1,(.tmp 56))]),none⟩,⟨some 12,.a (.new [.int .i64 (.ofNat 0),.int .i64 (.ofNat 0),.int .i64 (.ofNat 0),.bool false,.int .i64 (.ofNat 0),.int .i64 (.ofNat 0),.nilslice,.nilslice]),none⟩,⟨none,.e (.store 8 (.tmp 12) (.tmp 57)),none⟩] [] [1,2,3,4,8,9,12])
 (.seq (.seq (.region [mi 13 0] [] [1,2,3,4,8,9,12,13])
 (.block 1 (.loop (.seq (.seq (.region [mv 58 13,mv 59 9,⟨some 60,.p (.bin .shr (.tmp 59) (.val (.int .u64 (.ofNat 11)))),none⟩,bi 61 .and 60 3,bt 62 .lss 58 61] [] [1,2,3,4,8,9,12,13,62])
 (.cond (.tmp 62) (.skip)
 (.exit 1)))
 (.seq (.block 2 (.dregion [⟨ln 67 1 4,0,9⟩,⟨mv 68 1,0,9⟩,⟨mv 69 2,0,9⟩,⟨⟨some 70,.p (.bin .mul (.val (.int .i64 (.ofNat 3))) (.tmp 69)),none⟩,0,9⟩,⟨mv 71 13,0,9⟩,⟨bt 72 .add 70 71,0,9⟩,⟨bi 73 .add 72 1,0,9⟩,⟨mv 74 3,0,9⟩,⟨bi 75 .sub 74 1,0,9⟩,⟨⟨some 76,.e (.call (F 99) [(.tmp 67),(.tmp 68),(.tmp 73),(.tmp 75)]),none⟩,0,13⟩,⟨fa 65 7 12,0,13⟩,⟨l1 66 65,0,13⟩,⟨⟨some 77,.a (.bslice [.int .i64 (.ofNat 0),.int .i64 (.ofNat 0),.int .i64 (.ofNat 0),.bool false,.int .i64 (.ofNat 0),.int .i64 (.ofNat 0),.nilslice,.nilslice] 8 1 [(0,8,(.tmp 76))]),none⟩,10,13⟩,⟨⟨some 78,.e (.append 8 96 (.tmp 66) (.tmp 77)),none⟩,10,15⟩,⟨fa 79 7 12,14,15⟩,⟨⟨none,.e (.store 1 (.tmp 79) (.tmp 78)),none⟩,14,16⟩] [1,2,3,4,8,9,12,13]))
 (.region [mv 63 13,bi 64 .add 63 1,mv 13 64] [] [1,2,3,4,8,9,12,13]))))))
 (.seq (.region [ln 80 8 12,⟨none,.e (.store 8 (.tmp 8) (.tmp 80)),none⟩] [] [8])
 (.ret))))
 (.seq (.region [bi 82 .eql 43 7,mv 81 82] [] [1,2,3,4,8,9,11,81])
 (.cond (.tmp 81) (.seq (.region [ln 83 1 4,mv 84 1,mv 85 2,⟨some 86,.p (.bin .mul (.val (.int .i64 (.ofNat 3))) (.tmp 85)),none⟩,bi 87 .add 86 1,mv 88 3,bi 89 .sub 88 1,⟨some 90,.e (.call (F 99) [(.tmp 83),(.tmp 84),(.tmp 87),(.tmp 89)]),none⟩,⟨some 91,.a (.bslice [.int .i64 (.ofNat 0),.int .i64 (.ofNat 0),.int .i64 (.ofNat 0),.bool false,.int .i64 (.ofNat 0),.int .i64 (.ofNat 0),.nilslice,.nilslice] 8 1 [(0,8,(.tmp 90))]),none⟩,⟨some 92,.p (.build [.int .i64 (.ofNat 0),.int .i64 (.ofNat 0),.int .i64 (.ofNat 0),.bool false,.int .i64 (.ofNat 0),.int .i64 (.ofNat 0),.nilslice,.nilslice] [(0,1,(.val (.int .i64 (.ofNat 6)))),(7,1,(.tmp 91))]),none⟩,⟨none,.e (.store 8 (.tmp 8) (.tmp 92)),none⟩] [] [8])
 (.ret))
 (.skip)))))))))))
 (.seq (.region [fa 93 0 4,l1 94 93,mv 95 11,ix 96 3 94 95,ln 97 3 96,⟨some 14,.a (.new [.str [],.int .i64 (.ofNat 0),.bool false]),none⟩,⟨none,.e (.store 3 (.tmp 14) (.tmp 97)),none⟩] [] [8,9,11,14])
 (.seq (.region [fa 98 2 14,⟨none,.e (.store 1 (.tmp 98) (.val (.bool false))),none⟩] [] [8,9,11,14])
 (.seq (.region [ln 99 3 14,mv 100 9,⟨some 101,.p (.bin .shr (.tmp 100) (.val (.int .u64 (.ofNat 11)))),none⟩,⟨some 102,.e (.call (F 25) [(.tmp 99),(.tmp 101)]),none⟩,⟨some 15,.a (.new [.bool false,.int .i64 (.ofNat 0),.int .i64 (.ofNat 0),.nilslice]),none⟩,⟨none,.e (.store 4 (.tmp 15) (.tmp 102)),none⟩] [] [8,9,11,15])
 (.seq (.seq (.region [mv 103 11,bi 104 .eql 103 0] [] [8,9,11,15,104])
 (.cond (.tmp 104) (.region [mv 105 9,⟨some 106,.p (.bin .shr (.tmp 105) (.val (.int .u64 (.ofNat 11)))),none⟩,bi 107 .and 106 15,⟨some 108,.p (.build [.bool false,.int .i64 (.ofNat 0),.int .i64 (.ofNat 0),.nilslice] [(1,1,(.val (.int .i64 (.ofNat 1)))),(2,1,(.tmp 107))]),none⟩,⟨none,.e (.store 4 (.tmp 15) (.tmp 108)),none⟩] [] [8,9,11,15])
 (.skip)))
 (.seq (.region [mv 109 11,mv 110 9,⟨some 111,.p (.bin .shr (.tmp 110) (.val (.int .u64 (.ofNat 17)))),none⟩,bi 112 .and 111 255,bi 113 .rem 112 6,bi 114 .add 113 1,ln 115 4 15,⟨some 116,.p (.build [.int .i64 (.ofNat 0),.int .i64 (.ofNat 0),.int .i64 (.ofNat 0),.bool false,.int .i64 (.ofNat 0),.int .i64 (.ofNat 0),.nilslice,.nilslice] [(0,1,(.val (.int .i64 (.ofNat 2)))),(1,1,(.tmp 109)),(2,1,(.tmp 114)),(3,4,(.tmp 115))]),none⟩,⟨none,.e (.store 8 (.tmp 8) (.tmp 116)),none⟩] [] [8])
 (.ret))))))))))))
def M99 (F : Nat → Nat) : Fun := ⟨117,4,(K99 F).erase,[.celln 8 8]⟩
theorem ok99 {F : Nat → Nat} : (K99 F).ok = true := rfl
end Go.Lib
end

section
set_option maxRecDepth 10000
namespace Go.Lib
open Go.Vm Go.Dv Go.Srt
variable {p : Prog} {ext : Ext} {F : Nat → Nat}
attribute [-simp] bin_and bin_xor
structure HPredL (p : Prog) (ext : Ext) (F : Nat → Nat) : Prop where
 law6 : HLaw6s p ext F
 h99 : Has p ext F 99 M99
@[simp] def nilPr : List D := [.lit (.int .i64 0), .lit (.int .i64 0), .lit (.int .i64 0), .lit (.bool false), .lit (.int .i64 0), .lit (.int .i64 0), .lit .nilslice, .lit .nilslice]
def P7a (s : Sch) (m : Md) (l : List Int) (a d : Nat) (H : HpD) (n : Int) (fr : FrD) (H' : HpD) : Prop :=
 fr = [(1, intsD m l), (2, .lit (.int .i64 (a : Int))), (3, .lit (.int .i64 (d : Int))), (4, .rptr [schR s] 0), (8, .ptr H.next 0), (9, .lit (.int .i64 n))] ∧ H' = H.new (.cells nilPr false)
def P7b (s : Sch) (m : Md) (l : List Int) (a d : Nat) (H : HpD) (n k : Int) (fr : FrD) (H' : HpD) : Prop :=
 fr = [(1, intsD m l), (2, .lit (.int .i64 (a : Int))), (3, .lit (.int .i64 (d : Int))), (4, .rptr [schR s] 0), (8, .ptr H.next 0), (9, .lit (.int .i64 n)), (10, .lit (.int .i64 k))] ∧ H' = H.new (.cells nilPr false)
theorem VDl_last {h : Hp} {ψ : Nat → Option Nat} {S : Nat → Prop} {d : D} : ∀ {pre : List D} {l : List V}, VDl h ψ S (pre ++ [d]) l → ∃ l1 v, l = l1 ++ [v] ∧ VDl h ψ S pre l1 ∧ VD h ψ S d v
 | [], l, k => by
  simp only [List.nil_append, VDl] at k;obtain ⟨v, r, rfl, k, rfl⟩ := k;exact ⟨[], v, rfl, by simp only [VDl], k⟩
 | x :: pre, l, k => by
  simp only [List.cons_append, VDl] at k;obtain ⟨v, r, rfl, k1, k⟩ := k;obtain ⟨l1, w, rfl, k2, k3⟩ := VDl_last (pre := pre) k;exact ⟨v :: l1, w, rfl, by simp only [VDl]; exact ⟨v, l1, rfl, k1, k2⟩, k3⟩
theorem WeakV.aggLast {pre : List D} {d d2 : D} {H H2 : HpD} (k : WeakV d H d2 H2) : WeakV (.agg (pre ++ [d])) H (.agg (pre ++ [d2])) H2 := by
 intro G ψ S hp v s kv;simp only [VD] at kv;obtain ⟨l, rfl, kl⟩ := kv;obtain ⟨l1, w, rfl, k1, k2⟩ := VDl_last kl;obtain ⟨ψ', S', x1, s1, k3⟩ := k _ ψ S hp w s k2;refine ⟨ψ', S', x1, s1, ?_⟩;simp only [VD];exact ⟨_, rfl, (VDl.mono x1 _ k1).append (by simp only [VDl]; exact ⟨w, [], rfl, k3, rfl⟩)⟩
theorem predF_eq {s : Sch} {l : List Int} {d a : Nat} : predF s l d a = predG s (numP l a) (kP d (numP l a)) (fun i => match d with | 0 => prT | d' + 1 => predF s l d' (3 * a + i + 1)) := by
 cases d <;> rfl
def head7 (k : Int) : List D := [.lit (.int .i64 k), .lit (.int .i64 0), .lit (.int .i64 0), .lit (.bool false), .lit (.int .i64 0), .lit (.int .i64 0), .lit .nilslice]
def P7I (H : HpD) (s : Sch) (m : Md) (l : List Int) (a d : Nat) (n k : Int) (sons : List Pr) (w : Nat) (fr : FrD) (H' : HpD) : Prop :=
 ∃ (i : Nat) (t : D), w = sons.length - i ∧ i ≤ sons.length ∧ fr = [(1, intsD m l), (2, .lit (.int .i64 (a : Int))), (3, .lit (.int .i64 (d : Int))), (4, .rptr [schR s] 0), (8, .ptr H.next 0), (9, .lit (.int .i64 n)), (12, .ptr (H.next + 1) 0), (13, .lit (.int .i64 (i : Int)))] ∧
  Gr ⟨H.next + 2, H'.blk⟩ H' 8 t ((sons.take i).map Pr.c) ∧ H'.blk (H.next + 1) = .cells (head7 k ++ [t]) false ∧ H'.blk H.next = .cells nilPr false ∧ Sub H H'
theorem fin_sons {H X : HpD} {t : D} {sons : List Pr} {kk : Int} {N : Nat} (hs : Dv.Sub H X) (g : Gr ⟨N, X.blk⟩ X 8 t (sons.map Pr.c)) (hN : H.next ≤ N) : Dv.Fin H (.agg (Pr.mk kk 0 0 zv sons).c) (.agg (head7 kk ++ [t])) X := by
 obtain ⟨H2, w, sub2, _⟩ := g.fin (underss_map (fun q => pr_unders q) _) (m := .p) (by simp);have hn2 := sub2.next;simp at hn2;exact ⟨H2, (WeakV.aggLast (pre := head7 _) w).trans (.le (by simp [head7, pr_c, Pr.kind, Pr.col, Pr.op, Pr.v, Pr.l, zv, D.le, byD, byE, prsD, D.less_refl])), ⟨by omega, fun x hx => by rw [sub2.blk x (by simp; omega), ← hs.blk x hx]⟩, by simp [D.under]⟩
theorem pred7_1 (L : HPredL p ext F) {s : Sch} {m : Md} {l : List Int} {a d : Nat} (hs0 : 0 < s.length) (hs : s.length < 1000) (ha : a < 1000000) (hd : d < 1000) (ih : ∀ d' a' : Nat, d = d' + 1 → 1 ≤ d' → a' ≤ 3 * a + 10 → FnD p ext (F 99) [schD s, intsD m l, .lit (.int .i64 (a' : Int)), .lit (.int .i64 (d' : Int))] (.agg (predF s l d' a').c)) : FnD p ext (F 99) [schD s, intsD m l, .lit (.int .i64 (a : Int)), .lit (.int .i64 (d : Int))] (.agg (predF s l d a).c) := by
 refine fn_of L.h99 (M := M99) rfl ok99 rfl fun H => sem_run 14 _ ?_;simp;refine sem_cut (P7a s m l a d H (numP l a)) (sem_run 9000 _ ?_) ?_
 ·by_cases c : a < l.length
  ·have hn : numP l a = l[a] := (by simp [numP, c]);rw [hn];simp [c];exact sem_ok ⟨rfl, rfl⟩
  ·have hn : numP l a = wr .i64 ((a : Int) * 7919) := (by simp [numP, c]);rw [hn];simp [c];refine sem_as_ok [(1, intsD m l), (2, .lit (.int .i64 (a : Int))), (3, .lit (.int .i64 (d : Int))), (4, .rptr [schR s] 0), (8, .ptr H.next 0), (9, .lit (.int .i64 (wr .i64 ((a : Int) * 7919))))] (by simp [D.le_refl, intsD]) ?_;exact sem_ok ⟨rfl, rfl⟩
 rintro fr H1 ⟨rfl, rfl⟩;obtain ⟨n, hn⟩ : ∃ n, numP l a = n := ⟨_, rfl⟩;rw [hn];refine sem_run 9 _ ?_;simp;refine sem_cut (P7b s m l a d H n (kP d n)) (sem_run 9000 _ ?_) ?_
 ·obtain ⟨q, hq, hq7⟩ := andI_small (a := n) (m := 7) (by simp);have hq' : andI n 7 = q := hq
  by_cases c : d ≤ 1
  ·have c' : (d : Int) ≤ 1 := by omega
   by_cases c2 : 4 < q
   ·have c2' : (4 : Int) < q := (by omega);have hk : kP d n = (q : Int) - 4 := (by unfold kP; rw [hq', if_pos ⟨c, by omega⟩]);have w : wr .i64 ((q : Int) - 4) = (q : Int) - 4 := (by rw [wr_of] <;> omega);rw [hk];simp [hq', c', c2', w];exact sem_ok ⟨rfl, rfl⟩
   ·have c2' : ¬ (4 : Int) < q := (by omega);have hk : kP d n = (q : Int) := (by unfold kP; rw [hq', if_neg (by omega)]);rw [hk];simp [hq', c', c2'];refine sem_as_ok [(1, intsD m l), (2, .lit (.int .i64 (a : Int))), (3, .lit (.int .i64 (d : Int))), (4, .rptr [schR s] 0), (8, .ptr H.next 0), (9, .lit (.int .i64 n)), (10, .lit (.int .i64 (q : Int)))] (by simp [D.le_refl, intsD]) ?_;exact sem_ok ⟨rfl, rfl⟩
  ·have c' : ¬ (d : Int) ≤ 1 := (by omega);have hk : kP d n = (q : Int) := (by unfold kP; rw [hq', if_neg (by omega)]);rw [hk];simp [hq', c'];refine sem_as_ok [(1, intsD m l), (2, .lit (.int .i64 (a : Int))), (3, .lit (.int .i64 (d : Int))), (4, .rptr [schR s] 0), (8, .ptr H.next 0), (9, .lit (.int .i64 n)), (10, .lit (.int .i64 (q : Int)))] (by simp [D.le_refl, intsD]) ?_;exact sem_ok ⟨rfl, rfl⟩
 rintro fr H1 ⟨rfl, rfl⟩;obtain ⟨k, hk, hk7, hk4⟩ := kP_at (d := d) (n := n);rw [hk];have hz : (s.length : Int) ≠ 0 := (by omega);have hsz : ¬ s.length = 0 := (by omega);have hc : Int.tmod (andI (shrI .i64 n 3) 255) (s.length : Int) = cP s n := rfl
 obtain ⟨c, hcn, hcl⟩ : ∃ c : Nat, cP s n = c ∧ c < s.length := by
  obtain ⟨q, hq, hq1⟩ := andI_small (a := shrI .i64 n 3) (m := 255) (by simp);have hq' : andI (shrI .i64 n 3) 255 = q := hq;refine ⟨q % s.length, ?_, Nat.mod_lt _ hs0⟩;unfold cP;rw [hq', Int.tmod_eq_emod_of_nonneg (by omega)]; omega
 refine sem_run 9000 _ ?_;simp [hsz, hc, hcn];have hF := predF_eq (s := s) (l := l) (d := d) (a := a);rw [hn, hk] at hF
 generalize hson : (fun i => match d with | 0 => prT | d' + 1 => predF s l d' (3 * a + i + 1)) = son at hF
 rw [hF]
 have hih : ∀ i : Nat, 1 < d → i ≤ 3 → FnD p ext (F 99) [schD s, intsD m l, .lit (.int .i64 (3 * (a : Int) + (i : Int) + 1)), .lit (.int .i64 ((d : Int) - 1))] (.agg (son i).c) := fun i hd hi => by
  obtain ⟨d', rfl⟩ : ∃ d', d = d' + 1 := ⟨d - 1, by omega⟩;have := ih d' (3 * a + i + 1) rfl (by omega) (by omega);rw [← hson];rw [show (((d' + 1 : Nat) : Int) - 1) = (d' : Int) by omega, show 3 * (a : Int) + (i : Int) + 1 = ((3 * a + i + 1 : Nat) : Int) by omega];exact this
 clear ih hson hF;have hkk : k = 0 ∨ k = 1 ∨ k = 5 ∨ k = 6 ∨ k = 7 ∨ k = 2 ∨ k = 3 ∨ k = 4 := (by omega);rcases hkk with rfl | rfl | h
 ·simp;refine sem_ret ?_;simp [M99];exact .le sR (by simp [predG, prT, pr_c, Pr.kind, Pr.col, Pr.op, Pr.v, Pr.l, zv, D.le, byD, byE, prsD]) (by simp [D.under])
 ·simp;refine sem_ret ?_;simp [M99];exact .le sR (by simp [predG, hcn, pr_c, Pr.kind, Pr.col, Pr.op, Pr.v, Pr.l, zv, D.le, byD, byE, prsD]) (by simp [D.under])
 ·have hh : ((k = 5 ∨ k = 6) ∧ 1 < d) ∨ (k = 7 ∧ 1 < d) ∨ (k = 2 ∨ k = 3 ∨ k = 4) := (by omega);rcases hh with ⟨h5, hd⟩ | ⟨rfl, hd⟩ | h2
  ·have w1 : wr .i64 ((d : Int) - 1) = (d : Int) - 1 := (by rw [wr_of] <;> omega);have hw : ∃ kk : Int, predG s n (k : Int) son = .mk kk 0 0 zv (sonsP n son) ∧ kk = (k : Int) - 1 := ⟨(k : Int) - 1, by rcases h5 with rfl | rfl <;> simp [predG], rfl⟩;obtain ⟨q, hq, hq3⟩ := andI_small (a := shrI .i64 n 11) (m := 3) (by simp);have hq' : andI (shrI .i64 n 11) 3 = q := hq;have hsl : (sonsP n son).length = q := (by simp [sonsP, hq']);have hsg : ∀ i, i < q → (sonsP n son)[i]? = some (son i) := fun i hi => (by simp [sonsP, hq', hi]);have g0 : ∀ HB : HpD, HB.next = H.next + 2 → Gr ⟨H.next + 2, HB.blk⟩ HB 8 (.lit .nilslice) (((sonsP n son).take 0).map Pr.c) := fun HB e => ⟨⟨by simp [e], fun _ _ => rfl⟩, by simp, .inl ⟨rfl, by simp⟩⟩
   obtain ⟨kk, hG, hkk⟩ := hw;rw [hG];clear hG;generalize sonsP n son = sons at hsl hsg g0;rcases h5 with rfl | rfl
   case' inl => simp [show wr .i64 9 = 9 from rfl, show wr .i64 4 = 4 from rfl]
   case' inl => obtain rfl : kk = 4 := by omega
   case' inl => refine sem_loop (P7I H s m l a d n 4 sons) ?_ (k := sons.length) ⟨0, .lit .nilslice, by simp, by simp, by simp, g0 _ (by simp), by simp [head7], by simp, sR⟩
   case' inr => simp [show wr .i64 10 = 10 from rfl, show wr .i64 5 = 5 from rfl]
   case' inr => obtain rfl : kk = 5 := by omega
   case' inr => refine sem_loop (P7I H s m l a d n 5 sons) ?_ (k := sons.length) ⟨0, .lit .nilslice, by simp, by simp, by simp, g0 _ (by simp), by simp [head7], by simp, sR⟩
   all_goals
    rintro w fr H' ⟨i, t, rfl, hi, rfl, g, hb, hb8, hsub⟩;have hnx := g.sub.next;simp at hnx;refine sem_run 9000 _ ?_;simp
    by_cases c : i < sons.length
    ·have ci : (i : Int) < (q : Int) := (by omega);have w2 : wr .i64 (wr .i64 (3 * (a : Int)) + (i : Int)) = 3 * (a : Int) + (i : Int) := (by rw [wr_of (n := 3 * (a : Int)) (by omega) (by omega), wr_of] <;> omega);have w3 : wr .i64 (3 * (a : Int) + (i : Int) + 1) = 3 * (a : Int) + (i : Int) + 1 := (by rw [wr_of] <;> omega);have wi : wr .i64 ((i : Int) + 1) = ((i + 1 : Nat) : Int) := (by rw [wr_of] <;> omega);simp [hq', ci, w1, w2, w3];refine sem_dfn (hih i hd (by omega)) (by first | exact D.les_refl _ | simp) (sem_run 9000 _ ?_)
     have hl1 : H.next + 1 < H'.next := by omega
     have hrg : rigid t = true := by
      rcases g.at_ with ⟨rfl, _⟩ | ⟨b, ex, el0, rfl, _⟩ <;> rfl
     have hfar : ∀ x, t.hasB x → H.next + 2 ≤ x ∧ x < H'.next := fun x hx => g.far hx;simp [hb, hl1, head7, hrg];rw [appendD_slice1 (b := H'.next) (cs := (son i).c) (ro := false) (by simp) (by simp)];refine sem_push (g.rest (by simp) fun x hx => by rw [new_blk, if_neg (by have := (hfar x hx).2; omega)]) (by simp) (by simp) (roomyD (by simp; omega) (by simp; omega)) fun t' H2 g2 k2 n2 => ?_
     have b12 : H2.blk (H.next + 1) = H'.blk (H.next + 1) := by
      rw [k2 _ (by simp; omega) (fun h => by have := (hfar _ h).1; omega), new_blk, if_neg (by omega)]
     rw [hb] at b12
     have b8 : H2.blk H.next = .cells nilPr false := by
      rw [k2 _ (by simp; omega) (fun h => by have := (hfar _ h).1; omega), new_blk, if_neg (by omega), hb8]
     have hrg2 : cellsD t' = some [t'] ∧ flatD t' = true := by
      rcases g2.at_ with ⟨rfl, _⟩ | ⟨b, ex, el0, rfl, _⟩ <;> exact ⟨rfl, rfl⟩
     obtain ⟨n2, _⟩ := n2;simp at n2;have l12 : H.next + 1 < H2.next := (by omega);simp [b12, head7, hrg2.1, hrg2.2];refine sem_ok ?_;have hdrop : sons.take (i + 1) = sons.take i ++ [son i] := (by rw [List.take_add_one, hsg i (by omega)]; rfl);refine ⟨sons.length - (i + 1), by omega, i + 1, t', rfl, by omega, by rw [wi], ?_, by simp [head7], by simp [b8], ⟨by simp; omega, fun x hx => ?_⟩⟩
     ·rw [hdrop];have g3 := fun B => g2.rest (H3 := H2.put (H.next + 1) B) (by simp) fun x hx => (by rw [put_blk, if_neg (by have := (g2.far hx).1; simp at this; omega)]);simpa using g3 _
     ·rw [put_blk, if_neg (by omega), k2 x (by simp; have := hsub.next; omega) (fun h => by have := (hfar _ h).1; omega), new_blk, if_neg (by omega), hsub.blk x hx]
    ·have : i = sons.length := (by omega);subst this
     have ci : ¬ ((sons.length : Nat) : Int) < (q : Int) := by omega
     have hft : flatD t = true := by
      rcases g.at_ with ⟨rfl, _⟩ | ⟨b, ex, el0, rfl, _⟩ <;> rfl
     simp [hq', ci];refine sem_exit (sem_run 9000 _ ?_);have hl1 : H.next + 1 < H'.next := (by omega);have hl0 : H.next < H'.next := (by omega);simp [hb, hb8, head7, hft];refine sem_ret ?_;simp [M99];rw [List.take_length] at g;exact fin_sons (N := H.next + 2) (hsub.put (Nat.le_refl _)) (g.rest (by simp) fun x hx => by rw [put_blk, if_neg (by have := (g.far hx).1; simp at this; omega)]) (by omega)
  ·have w1 : wr .i64 ((d : Int) - 1) = (d : Int) - 1 := (by rw [wr_of] <;> omega);have w2 : wr .i64 (wr .i64 (3 * (a : Int)) + 1) = 3 * (a : Int) + 1 := (by rw [wr_of (n := 3 * (a : Int)) (by omega) (by omega), wr_of] <;> omega);have h7 := hih 0 hd (by omega);rw [show 3 * (a : Int) + ((0 : Nat) : Int) + 1 = 3 * (a : Int) + 1 by omega] at h7;simp [w1, w2];refine sf h7 ?_;simp;refine sem_ret ?_;simp [M99];rw [show predG s n 7 son = .mk 6 0 0 zv [son 0] by simp [predG]];refine fin_sons (N := H.next + 1) sR ⟨⟨by simp, fun _ _ => rfl⟩, by simp, .inr ⟨H.next + 1, true, [(son 0).c], by simp, by simp, by simp, by simp, D.less_refl _⟩⟩ (by omega)
  ·obtain ⟨cl, hcl⟩ : ∃ cl, s[c]? = some cl := ⟨s[c], by simp⟩;have hG : predG s n (k : Int) son = leafP s n := (by rcases h2 with rfl | rfl | rfl <;> simp [predG]);rw [hG]
   have hop : ∃ o : Int, Int.tmod (andI (shrI .i64 n 17) 255) 6 = o ∧ wr .i64 (o + 1) = o + 1 := by
    obtain ⟨q, hq, hq1⟩ := andI_small (a := shrI .i64 n 17) (m := 255) (by simp);have hq' : andI (shrI .i64 n 17) 255 = q := hq;refine ⟨_, rfl, ?_⟩;rw [hq', Int.tmod_eq_emod_of_nonneg (by omega), wr_of] <;> omega
   obtain ⟨o, ho, wo⟩ := hop;have hfl : ∀ v : Vl, flatsD (v.c ++ [.lit .nilslice]) = true := fun v => rfl;have hsp : spliceD cl.c 2 [.lit (.bool false)] = Cl.c ⟨cl.name, cl.kind, false⟩ := rfl
   have hleaf : (leafP s n).c = [.lit (.int .i64 2), .lit (.int .i64 (c : Int)), .lit (.int .i64 (o + 1)), .lit (.bool (vP s n).null), .lit (.int .i64 (vP s n).kind), .lit (.int .i64 (vP s n).n), byD (vP s n).bytes, prsD []] := by
    rw [pr_c]; simp [leafP, Pr.kind, Pr.col, Pr.op, Pr.v, Pr.l, hcn, ho]
   rw [hleaf]
   by_cases hc0 : c = 0
   ·have hv : vP s n = nV (andI (shrI .i64 n 11) 15) := (by unfold vP; rw [if_pos (by omega)]);rw [hv];rcases h2 with rfl | rfl | rfl
    all_goals
     simp [hcl, hsp, -getElem?_pos];refine sf (law6_value L.law6 (c := ⟨cl.name, cl.kind, false⟩) (n := shrI .i64 n 11)) ?_;simp [hc0, ho, wo];refine sem_ret ?_;simp [M99];exact .le sR (by simp [nV, D.le, byD, byE, prsD]) (by simp [D.under])
   ·have hv : vP s n = valF ⟨cl.name, cl.kind, false⟩ (shrI .i64 n 11) := by
     unfold vP; rw [if_neg (by omega), hcn]; simp [hcl]
    rw [hv];rcases h2 with rfl | rfl | rfl
    all_goals
     simp [hcl, hsp, -getElem?_pos];refine sf (law6_value L.law6 (c := ⟨cl.name, cl.kind, false⟩) (n := shrI .i64 n 11)) ?_;simp [hc0, ho, wo, hfl];refine sem_ret ?_;simp [M99, Vl.c];exact .le sR (by simp [D.le, D.le_refl, prsD]) (by simp [D.under])
theorem pred7 (L : HPredL p ext F) {s : Sch} {m : Md} {l : List Int} (hs0 : 0 < s.length) (hs : s.length < 1000) : ∀ {d a : Nat}, d < 1000 → (a + 20) * 4 ^ d < 1000000 → FnD p ext (F 99) [schD s, intsD m l, .lit (.int .i64 (a : Int)), .lit (.int .i64 (d : Int))] (.agg (predF s l d a).c)
 | 0, a, hd, ha => pred7_1 L hs0 hs (by simp at ha; omega) (by omega) fun d' a' e => by omega
 | d + 1, a, hd, ha => pred7_1 L hs0 hs (by have := Nat.mul_le_mul_left (a + 20) (Nat.one_le_two_pow (n := 2 * (d + 1))); rw [Nat.pow_mul, show (2 : Nat) ^ 2 = 4 from rfl] at this; omega) (by omega) fun d' a' e h1 h2 => by
  obtain rfl : d' = d := (by omega);refine pred7 L hs0 hs (by omega) (Nat.lt_of_le_of_lt ?_ ha);rw [Nat.pow_succ, Nat.mul_comm (4 ^ d') 4, ← Nat.mul_assoc];exact Nat.mul_le_mul_right _ (by omega)
end Go.Lib
end

section
set_option maxRecDepth 10000
namespace Go.Lib
open Go.Vm Go.Dv Go.Srt
variable {p : Prog} {ext : Ext} {F : Nat → Nat}
attribute [-simp] bin_and bin_xor
structure HLaw15 (p : Prog) (ext : Ext) (F : Nat → Nat) : Prop where
 pr : HPredL p ext F
 law6 : HLaw6r p ext F
 h97 : Has p ext F 97 M97
@[simp] def nilOp : List D := [.lit (.int .i64 0), .lit .nilslice, .lit (.int .i64 0), .lit (.int .i64 0), .lit (.int .i64 0), .lit (.bool false), .lit (.int .i64 0), .lit (.int .i64 0), .lit .nilslice, .lit .nilslice, .lit .nilslice, .lit .nilslice, .lit (.int .i64 0), .lit .nilslice]
def O15a (s : Sch) (m : Md) (l : List Int) (a : Nat) (H : HpD) (n : Int) (fr : FrD) (H' : HpD) : Prop :=
 fr = [(1, intsD m l), (2, .lit (.int .i64 (a : Int))), (3, .rptr [schR s] 0), (6, .ptr H.next 0), (7, .lit (.int .i64 n))] ∧ H' = H.new (.cells nilOp false)
def O15b (s : Sch) (H : HpD) (n : Int) (q : Pr) (fr : FrD) (H' : HpD) : Prop :=
 fr = [(3, .rptr [schR s] 0), (6, .ptr H.next 0), (7, .lit (.int .i64 n)), (8, .ptr (H.next + 1) 0)] ∧ H'.next = H.next + 2 ∧ Sub H H' ∧ H'.blk H.next = .cells nilOp false ∧ H'.blk (H.next + 1) = .cells q.c false
theorem Weak.cell {a : List D} {fr : FrD} {H : HpD} {b : Nat} {cs cs' : List D} {ro : Bool} (hb : H.blk b = .cells cs ro) (hl : D.les cs cs') : Weak a fr H a fr (H.put b (.cells cs' ro)) := by
 intro G ψ S h fv vs sr kf kv;exact ⟨ψ, S, .refl, sr.tellV hb fun l' k => VDl.le _ _ hl k, kf, kv⟩
theorem opF_of (L : HLaw15 p ext F) {s : Sch} {m : Md} {l : List Int} {a : Nat} (hs0 : 0 < s.length) (hs : s.length < 1000) (ha : a < 1000000) : FnD p ext (F 97) [schD s, intsD m l, .lit (.int .i64 (a : Int))] (.agg (opF s l a).c) := by
 refine fn_of L.h97 (M := M97) rfl ok97 rfl fun H => sem_run 12 _ ?_;simp;refine sem_cut (O15a s m l a H (numO l a)) (sem_run 9000 _ ?_) ?_
 ·by_cases c : 0 < l.length
  ·obtain ⟨x, hx⟩ : ∃ x, l[a % l.length]? = some x := ⟨_, List.getElem?_eq_getElem (Nat.mod_lt _ c)⟩;have hn : numO l a = wr .i64 (x + wr .i64 ((a : Int) * 7919)) := (by simp only [numO, hx]);obtain ⟨r, hr⟩ : ∃ r, a % l.length = r := ⟨_, rfl⟩;have ht : Int.tmod (a : Int) (l.length : Int) = (r : Int) := (by rw [Int.tmod_eq_emod_of_nonneg (by omega)]; omega);have hz : (l.length : Int) ≠ 0 := (by omega);have hsz : ¬ l.length = 0 := (by omega);rw [hr] at hx;rw [hn];simp [c, hsz, ht, hx, -getElem?_pos];exact sem_ok ⟨rfl, rfl⟩
  ·have hl0 : l = [] := by
    cases l with
    | nil => rfl
    | cons x l => simp at c
   subst hl0;have hn : numO [] a = 0 := (by simp [numO]);rw [hn];simp;refine sem_as_ok [(1, intsD m []), (2, .lit (.int .i64 (a : Int))), (3, .rptr [schR s] 0), (6, .ptr H.next 0), (7, .lit (.int .i64 0))] (by simp [D.le_refl, intsD]) ?_;exact sem_ok ⟨rfl, rfl⟩
 rintro fr H1 ⟨rfl, rfl⟩;obtain ⟨n, hn⟩ : ∃ n, numO l a = n := ⟨_, rfl⟩;rw [hn];have h7 : Int.tmod (a : Int) 7 = ((a % 7 : Nat) : Int) := (by rw [Int.tmod_eq_emod_of_nonneg (by omega)]; omega);refine sem_run 9000 _ ?_;simp [h7];refine sem_fn (pred7 L.pr hs0 hs (d := 3) (a := a % 7) (by omega) (by omega)) (by first | exact D.les_refl _ | simp) (sem_run 5 _ ?_);simp;refine sem_cut (O15b s H n (predO s l a)) (sem_run 9000 _ ?_) ?_
 ·by_cases c : andI (shrI .i64 n 3) 3 = 0
  ·have hp : predO s l a = prK (andI (shrI .i64 n 5) 15) := (by unfold predO; rw [hn, if_pos c]);rw [hp];simp [c];refine sem_weak_ok (Weak.cell (b := H.next + 1) (cs := [.lit (.int .i64 2), .lit (.int .i64 0), .lit (.int .i64 1), .lit (.bool false), .lit (.int .i64 1), .lit (.int .i64 (andI (shrI .i64 n 5) 15)), .lit .nilslice, .lit .nilslice]) (ro := false) (cs' := (prK (andI (shrI .i64 n 5) 15)).c) (by simp) (by simp [pr_c, prK, nV, Pr.kind, Pr.col, Pr.op, Pr.v, Pr.l, D.les, D.le, byD, byE, prsD])) ?_;exact sem_ok ⟨rfl, by simp, sR, by simp, by simp⟩
  ·have hp : predO s l a = predF s l 3 (a % 7) := (by unfold predO; rw [hn, if_neg c]);rw [hp];simp [c];refine sem_as_ok [(3, .rptr [schR s] 0), (6, .ptr H.next 0), (7, .lit (.int .i64 n)), (8, .ptr (H.next + 1) 0)] (by simp [D.le_refl]) ?_;exact sem_ok ⟨rfl, by simp, sR, by simp, by simp⟩
 rintro fr H1 ⟨rfl, hnx, hsub, hb6, hb8⟩;obtain ⟨q, hq⟩ : ∃ q, predO s l a = q := ⟨_, rfl⟩;rw [hq, pr_c] at hb8;obtain ⟨k, hk, hk7⟩ := andI_small (a := n) (m := 7) (by simp);have hk' : andI n 7 = k := hk
 obtain ⟨c, hcn, hcl⟩ : ∃ c : Nat, colO s n = c ∧ c < s.length := by
  obtain ⟨q, hq, hq1⟩ := andI_small (a := shrI .i64 n 9) (m := 255) (by simp);have hq' : andI (shrI .i64 n 9) 255 = q := hq;refine ⟨q % s.length, ?_, Nat.mod_lt _ hs0⟩;unfold colO;rw [hq', Int.tmod_eq_emod_of_nonneg (by omega)]; omega
 have hc : Int.tmod (andI (shrI .i64 n 9) 255) (s.length : Int) = c := hcn;have hop : opF s l a = opG s n k c q := (by unfold opF; rw [hn, hk', hcn, hq]);rw [hop];have hz : (s.length : Int) ≠ 0 := (by omega);have hsz : ¬ s.length = 0 := (by omega);have l6 : H.next < H1.next := (by omega);have l8 : H.next + 1 < H1.next := (by omega);have h61 : ¬ H.next = H1.next := (by omega);have h81 : ¬ H.next + 1 = H1.next := (by omega);refine sem_run 9000 _ ?_;simp [hsz, hc, hk'];obtain ⟨cl, hcl'⟩ : ∃ cl, s[c]? = some cl := ⟨s[c], by simp⟩;have hkk : (k = 0 ∨ k = 1 ∨ k = 2) ∨ (k = 3 ∨ k = 4) ∨ k = 5 ∨ k = 6 ∨ k = 7 := (by omega)
 rcases hkk with h | h | rfl | rfl | rfl
 ·have hG : opG s n (k : Int) c q = insO (rowF s (shrI .i64 n 5)) := (by rcases h with rfl | rfl | rfl <;> rfl);rw [hG];rcases h with rfl | rfl | rfl
  all_goals
   simp;refine sf (law6_row L.law6 (s := s) (n := shrI .i64 n 5) hs) ?_;simp [hb6];refine sem_ret ?_;simp [M97];exact .le (sB hsub) (by simp [op_c, insO, pr0, zv, Pr.kind, Pr.col, Pr.op, Pr.v, Pr.l, D.le, byD, byE, prsD, rowD, rowE, sxsD, sxsE, intsD, agsD, agsE]) (by simp [D.under, op_unders])
 ·by_cases c0 : 0 < c
  ·have hG : opG s n (k : Int) c q = setO q (sxO c cl n) := (by rcases h with rfl | rfl <;> simp [opG, c0, hcl']);rw [hG];rcases h with rfl | rfl
   all_goals
    by_cases k1 : cl.kind = 1
    ·cases hvn : (valF cl (shrI .i64 n 17)).null with
     | true =>
      have hadd : addO cl n = false := (by simp [addO, hvn]);simp [c0, hcl', -getElem?_pos];refine sf (law6_value L.law6) ?_;simp;simp [hcl', k1, hvn, hb6, hb8, h61, h81, -getElem?_pos];refine sem_ret ?_;simp [M97];exact .le (sB hsub) (by simp [op_c, setO, sxO, hadd, Sx.c, Vl.c, D.le, D.les, D.less, D.le_refl, rowD, rowE, sxsD, sxsE, intsD, agsD, agsE]) (by simp [D.under, op_unders])
     | false =>
      by_cases kb : andI (shrI .i64 n 13) 1 = 1
      ·have hadd : addO cl n = true := (by simp [addO, hvn, k1, kb]);simp [c0, hcl', -getElem?_pos];refine sf (law6_value L.law6) ?_;simp;simp [hcl', k1, hvn, kb, hb6, hb8, h61, h81, -getElem?_pos];refine sem_ret ?_;simp [M97];exact .le (sB hsub) (by simp [op_c, setO, sxO, hadd, Sx.c, Vl.c, D.le, D.les, D.less, D.le_refl, rowD, rowE, sxsD, sxsE, intsD, agsD, agsE]) (by simp [D.under, op_unders])
      ·have hadd : addO cl n = false := (by simp [addO, kb]);simp [c0, hcl', -getElem?_pos];refine sf (law6_value L.law6) ?_;simp;simp [hcl', k1, hvn, kb, hb6, hb8, h61, h81, -getElem?_pos];refine sem_ret ?_;simp [M97];exact .le (sB hsub) (by simp [op_c, setO, sxO, hadd, Sx.c, Vl.c, D.le, D.les, D.less, D.le_refl, rowD, rowE, sxsD, sxsE, intsD, agsD, agsE]) (by simp [D.under, op_unders])
    ·have hadd : addO cl n = false := (by simp [addO, k1]);simp [c0, hcl', -getElem?_pos];refine sf (law6_value L.law6) ?_;simp;simp [hcl', k1, hb6, hb8, h61, h81, -getElem?_pos];refine sem_ret ?_;simp [M97];exact .le (sB hsub) (by simp [op_c, setO, sxO, hadd, Sx.c, Vl.c, D.le, D.les, D.less, D.le_refl, rowD, rowE, sxsD, sxsE, intsD, agsD, agsE]) (by simp [D.under, op_unders])
  ·have hG : opG s n (k : Int) c q = delO q := (by rcases h with rfl | rfl <;> simp [opG, c0]);rw [hG];rcases h with rfl | rfl
   all_goals
    simp [c0, hb6, hb8];refine sem_ret ?_;simp [M97];exact .le (sB hsub) (by simp [op_c, delO, D.le, D.le_refl, rowD, rowE, sxsD, sxsE, intsD, agsD, agsE]) (by simp [D.under, op_unders])
 ·rw [show opG s n ((5 : Nat) : Int) c q = scanO q [(c : Int), 0] by simp [opG]];simp [hb6, hb8];refine sem_ret ?_;simp [M97];exact .le (sB hsub) (by simp [op_c, scanO, D.le, D.le_refl, rowD, rowE, sxsD, sxsE, intsD, agsD, agsE]) (by simp [D.under, op_unders])
 ·rw [show opG s n ((6 : Nat) : Int) c q = aggO q (wr .i64 (c - wr .i64 (andI (shrI .i64 n 14) 1 * wr .i64 (c + 1)))) [⟨1, 0⟩, ⟨wr .i64 (3 + andI (shrI .i64 n 15) 1), c⟩, ⟨2, 0⟩] by simp [opG]];simp [hb6, hb8, h61];refine sem_ret ?_;simp [M97];exact .le (sB hsub) (by simp [op_c, aggO, Ag.c, D.le, D.les, D.less, D.le_refl, rowD, rowE, sxsD, sxsE, intsD, agsD, agsE]) (by simp [D.under, op_unders])
 ·by_cases e : andI (shrI .i64 n 18) 7 = 0
  ·rw [show opG s n ((7 : Nat) : Int) c q = rollO by simp [opG, e]];simp [e, hb6];refine sem_ret ?_;simp [M97];exact .le (sB hsub) (by simp [op_c, rollO, pr0, zv, Pr.kind, Pr.col, Pr.op, Pr.v, Pr.l, D.le, byD, byE, prsD, rowD, rowE, sxsD, sxsE, intsD, agsD, agsE]) (by simp [D.under, op_unders])
  ·rw [show opG s n ((7 : Nat) : Int) c q = delO q by simp [opG, e]];simp [e, hb6, hb8];refine sem_ret ?_;simp [M97];exact .le (sB hsub) (by simp [op_c, delO, D.le, D.le_refl, rowD, rowE, sxsD, sxsE, intsD, agsD, agsE]) (by simp [D.under, op_unders])
end Go.Lib
end

section
set_option maxRecDepth 10000
namespace Go.Lib
open Go.Vm Go.Dv Go.Srt
variable {p : Prog} {ext : Ext} {F : Nat → Nat}
attribute [-simp] bin_and bin_xor
structure HProg (p : Prog) (ext : Ext) (F : Nat → Nat) : Prop where
 op : HLaw15 p ext F
 h98 : Has p ext F 98 M98
def lenG (n : Int) : Nat := min (andI n 7).toNat 6
def atG (n : Int) : Nat := (andI (shrI .i64 n 3) 63).toNat
def progF (s : Sch) (l : List Int) (n : Int) : List Op := (List.range (lenG n)).map fun i => opF s l (atG n + i)
theorem progF_len {s : Sch} {l : List Int} {n : Int} : (progF s l n).length = lenG n := by simp [progF]
theorem progF_get {s : Sch} {l : List Int} {n : Int} {i : Nat} (h : i < lenG n) : (progF s l n)[i]? = some (opF s l (atG n + i)) := by simp [progF, h]
def ProgI (H0 : HpD) (s : Sch) (m : Md) (l : List Int) (n : Int) (P : List Op) (k : Nat) (fr : FrD) (H : HpD) : Prop :=
 ∃ (i : Nat) (t : D), k = P.length - i ∧ i ≤ P.length ∧ fr = [(1, intsD m l), (2, .lit (.int .i64 n)), (3, .rptr [schR s] 0), (7, t), (8, .lit (.int .i64 (i : Int)))] ∧ Gr H0 H 14 t ((P.take i).map Op.c)
theorem law15_program_own (L : HProg p ext F) {s : Sch} {m : Md} {l : List Int} {n : Int} {H : HpD} (hs0 : 0 < s.length) (hs : s.length < 1000) : WcD p ext (F 98) [schD s, intsD m l, .lit (.int .i64 n)] H (fun d H' => Gr H H' 14 d ((progF s l n).map Op.c)) := by
 refine wc_of L.h98 (M := M98) rfl ok98 rfl (sem_run 9000 _ ?_);simp;obtain ⟨q, hq, hq7⟩ := andI_small (a := n) (m := 7) (by simp);have hq' : andI n 7 = q := hq;obtain ⟨g, hg, hg7⟩ := andI_small (a := shrI .i64 n 3) (m := 63) (by simp);have hg' : andI (shrI .i64 n 3) 63 = g := hg;have hL : lenG n = min q 6 := (by unfold lenG; rw [hq']; rfl);have hA : atG n = g := (by unfold atG; rw [hg']; rfl);have hlen := progF_len (s := s) (l := l) (n := n);have hget := fun (i : Nat) => progF_get (s := s) (l := l) (n := n) (i := i);rw [hL] at hlen;rw [hL, hA] at hget;generalize progF s l n = P at hlen hget;refine sem_loop (ProgI H s m l n P) ?_ (k := P.length) ⟨0, .lit .nilslice, by simp, by simp, by simp, by simpa using Gr.start⟩
 rintro k fr H' ⟨i, t, rfl, hi, rfl, gr⟩;refine sem_run 9000 _ ?_;simp
 by_cases c : i < P.length
 ·have c1 : (i : Int) < (q : Int) := (by omega);have c2 : (i : Int) < 6 := (by omega);have w1 : wr .i64 ((g : Int) + (i : Int)) = (g : Int) + (i : Int) := (by rw [wr_of] <;> omega);have wi : wr .i64 ((i : Int) + 1) = ((i + 1 : Nat) : Int) := (by rw [wr_of] <;> omega);have ho := opF_of L.op (s := s) (m := m) (l := l) (a := g + i) hs0 hs (by omega);rw [show (((g + i : Nat)) : Int) = (g : Int) + (i : Int) by omega] at ho;simp [hq', hg', c1, c2, w1];refine sf ho ?_;simp;refine sem_push (gr.mono sR) (by simp) (by simp) (roomyD (by simp; omega) (by simp; omega)) fun t' H2 g2 _ _ => ?_;simp;refine sem_ok ?_
  have e : (P.take (i + 1)).map Op.c = (P.take i).map Op.c ++ [(opF s l (g + i)).c] := (by rw [List.take_add_one, hget i (by omega)]; simp);exact ⟨P.length - (i + 1), by omega, i + 1, t', rfl, by omega, by rw [wi], by rw [e]; exact g2⟩
 ·have : i = P.length := (by omega);subst this;rw [List.take_length] at gr
  by_cases c1 : ((P.length : Nat) : Int) < (q : Int)
  case' pos => simp [hq', c1, show ¬ ((P.length : Nat) : Int) < 6 by omega]
  case' neg => simp [hq', c1]
  all_goals
   refine sem_exit (sem_run 9000 _ ?_);simp;refine sem_ret ?_;simp [M98];exact gr
theorem law15_program (L : HProg p ext F) {s : Sch} {m : Md} {l : List Int} {n : Int} (hs0 : 0 < s.length) (hs : s.length < 1000) : FnD p ext (F 98) [schD s, intsD m l, .lit (.int .i64 n)] (opsD (progF s l n)) :=
 own_fn (fun _ => law15_program_own L hs0 hs) fun _ => underss_map (fun _ => op_unders) _
end Go.Lib
end

section
set_option maxRecDepth 10000
namespace Go.Lib
open Go.Vm Go.Dv Go.Srt
variable {p : Prog} {ext : Ext} {F : Nat → Nat}
end Go.Lib
end

section
set_option maxRecDepth 10000
namespace Go.Lib
open Go.Vm Go.Dv Go.Srt
variable {p : Prog} {ext : Ext} {F : Nat → Nat}
structure FitV (c : Cl) (v : Vl) : Prop where
 good : v.Good
 kind : v.kind = c.kind
 short : v.bytes.length ≤ 64
 null : v.null = true → c.null = true
def FitR (s : Sch) (r : Row) : Prop := r.length = s.length ∧ ∀ (i : Nat) (c : Cl) (v : Vl), s[i]? = some c → r[i]? = some v → FitV c v
end Go.Lib
end

section
set_option maxRecDepth 10000
namespace Go.Lib
open Go.Vm Go.Dv Go.Srt
theorem colO_at {s : Sch} {n : Int} (h : 0 < s.length) : ∃ c : Nat, colO s n = c ∧ c < s.length := by
 obtain ⟨q, hq, hq1⟩ := andI_small (a := shrI .i64 n 9) (m := 255) (by simp);have hq' : andI (shrI .i64 n 9) 255 = q := hq;refine ⟨q % s.length, ?_, Nat.mod_lt _ h⟩;unfold colO;rw [hq', Int.tmod_eq_emod_of_nonneg (by omega)]; omega
end Go.Lib
end

section
set_option maxRecDepth 10000
namespace Go.Lib
open Go.Vm Go.Dv Go.Srt
variable {p : Prog} {ext : Ext} {F : Nat → Nat}
end Go.Lib
end

section
set_option maxRecDepth 10000
namespace Go.Lib
open Go.Vm Go.Dv Go.Srt
variable {p : Prog} {ext : Ext} {F : Nat → Nat}
end Go.Lib
end

section
set_option maxRecDepth 10000
namespace Go.Lib
open Go.Vm Go.Dv Go.Srt
theorem lenG_le {x : Int} : lenG x ≤ 6 := Nat.min_le_right _ _
end Go.Lib
end

section
set_option maxRecDepth 10000
namespace Go.Lib
open Go.Vm Go.Dv Go.Srt
theorem valF_fit {c : Cl} (hc : c.kind = 1 ∨ c.kind = 2) {x : Int} : FitV c (valF c x) := by
 refine ⟨valF_good hc, valF_kind, ?_, ?_⟩
 ·unfold valF;split
  ·simp
  ·split
   ·simp
   ·show ((abc.drop _).take _).length ≤ 64;rw [List.length_take, List.length_drop]; simp [abc]; omega
 ·unfold valF;split
  ·rename_i h; exact fun _ => h.1
  ·split <;> (intro h; simp at h)
theorem rowF_fit {n x : Int} : FitR (schF n) (rowF (schF n) x) := by
 refine ⟨rowF_len, fun i c v hc hv => ?_⟩;rw [rowF_get, hc] at hv;simp at hv; subst hv;have hk := schF_kinds (n := n) c (List.mem_of_getElem? hc);unfold cellF;split
 ·rename_i h0;subst h0;rw [schF_cons] at hc;simp at hc; subst hc;exact ⟨⟨fun h => by simp at h, .inl ⟨rfl, rfl⟩, in64_and (m := 15) (by simp)⟩, rfl, by simp, fun h => by simp at h⟩
 ·exact valF_fit hk
end Go.Lib
end

section
set_option maxRecDepth 10000
namespace Go.Lib
open Go.Vm Go.Dv Go.Srt
variable {p : Prog} {ext : Ext} {F : Nat → Nat}
attribute [-simp] bin_and bin_xor
theorem cP_at {n x : Int} : 0 ≤ cP (schF n) x ∧ cP (schF n) x < (schF n).length := by
 obtain ⟨q, hq, _⟩ := andI_small (a := shrI .i64 x 3) (m := 255) (by simp);have hq' : andI (shrI .i64 x 3) 255 = q := hq;have hl := (schF_small (n := n)).2;unfold cP;rw [hq', Int.tmod_eq_emod_of_nonneg (by omega)];have := Int.emod_lt_of_pos (q : Int) (show (0 : Int) < ((schF n).length : Int) by omega);have := Int.emod_nonneg (q : Int) (show ((schF n).length : Int) ≠ 0 by omega);omega
theorem schF_at {n : Int} {i : Nat} {c : Cl} (h : (schF n)[i]? = some c) : i < 6 ∧ c.name = (([107, 101, 121] :: colNames)[i]?).getD [] ∧ (c.kind = 1 ∨ c.kind = 2) := by
 have hm := (more_le (n := n)).1;unfold schF at h
 cases i with
 | zero => simp at h; subst h; exact ⟨by omega, rfl, .inl rfl⟩
 | succ i =>
  simp only [List.getElem?_cons_succ, List.getElem?_map, Option.map_eq_some_iff] at h;obtain ⟨j, hj, rfl⟩ := h;obtain ⟨hl, hj⟩ := List.getElem?_eq_some_iff.1 hj;simp at hl hj;subst hj;refine ⟨by omega, rfl, ?_⟩;obtain ⟨q, hq, hq1⟩ := andI_small (a := shrI .i64 n (8 + 2 * i)) (m := 1) (by simp);have hq' : andI (shrI .i64 n (8 + 2 * i)) 1 = q := hq;show bitI n (8 + 2 * i) + 1 = 1 ∨ bitI n (8 + 2 * i) + 1 = 2;have : bitI n (8 + 2 * i) = q := hq';omega
theorem schF_names {n : Int} : Names (schF n) := by
 refine ⟨fun c hc x hx => ?_, fun i j c c' h1 h2 h => ?_⟩
 ·obtain ⟨i, hi⟩ := List.getElem?_of_mem hc;obtain ⟨h1, h2, _⟩ := schF_at hi;rw [h2] at hx;have key : ∀ i : Fin 6, ∀ x, x ∈ (([107, 101, 121] :: colNames)[i.val]?).getD [] → x ≠ 32 ∧ x ≠ 40 ∧ x ≠ 41 ∧ x ≠ 44 := (by decide);exact key ⟨i, h1⟩ x hx
 ·obtain ⟨a1, a2, _⟩ := schF_at h1;obtain ⟨b1, b2, _⟩ := schF_at h2;rw [a2, b2] at h;have key : ∀ i j : Fin 6, (([107, 101, 121] :: colNames)[i.val]?).getD [] = (([107, 101, 121] :: colNames)[j.val]?).getD [] → i = j := (by decide);have := key ⟨i, a1⟩ ⟨j, b1⟩ h;simpa using this
theorem leafP_one {n x : Int} : OneP (schF n) (leafP (schF n) x) := by
 obtain ⟨q, hq, _⟩ := andI_small (a := shrI .i64 x 17) (m := 255) (by simp);have hq' : andI (shrI .i64 x 17) 255 = q := hq;have hc := cP_at (n := n) (x := x);obtain ⟨c, hci⟩ : ∃ c, (schF n)[(cP (schF n) x).toNat]? = some c := ⟨_, List.getElem?_eq_getElem (by omega)⟩;obtain ⟨_, _, hk⟩ := schF_at hci
 have hop : 1 ≤ Int.tmod (andI (shrI .i64 x 17) 255) 6 + 1 ∧ Int.tmod (andI (shrI .i64 x 17) 255) 6 + 1 ≤ 6 := by
  rw [hq', Int.tmod_eq_emod_of_nonneg (by omega)]; omega
 have hv : (vP (schF n) x).null = false ∧ isB (vP (schF n) x) = true ∧ (vP (schF n) x).kind = c.kind ∧ In64 (vP (schF n) x).n := by
  unfold vP
  by_cases h0 : cP (schF n) x = 0
  ·rw [if_pos h0];rw [h0] at hci;have : c = keyC := (by unfold schF at hci; simpa using hci.symm);subst this;obtain ⟨r, hr, hr1⟩ := andI_small (a := shrI .i64 x 11) (m := 15) (by simp);have hr' : andI (shrI .i64 x 11) 15 = r := hr;refine ⟨rfl, by simp [isB, nV], rfl, ?_⟩;show In64 (andI (shrI .i64 x 11) 15);rw [hr']; unfold In64; omega
  ·rw [if_neg h0, hci];show (valF ⟨c.name, c.kind, false⟩ (shrI .i64 x 11)).null = false ∧ isB (valF ⟨c.name, c.kind, false⟩ (shrI .i64 x 11)) = true ∧ (valF ⟨c.name, c.kind, false⟩ (shrI .i64 x 11)).kind = c.kind ∧ In64 (valF ⟨c.name, c.kind, false⟩ (shrI .i64 x 11)).n;generalize shrI .i64 x 11 = y;rcases hk with k | k
   ·obtain ⟨r, hr, hr1⟩ := andI_small (a := shrI .i64 y 3) (m := 7) (by simp);have hr' : andI (shrI .i64 y 3) 7 = r := hr
    have e : valF ⟨c.name, c.kind, false⟩ y = ⟨false, c.kind, if andI (shrI .i64 y 6) 15 = 0 then wr .i64 (y * 712544676207699905) else if andI (shrI .i64 y 6) 15 = 1 then wr .i64 (-andI (shrI .i64 y 3) 7) else if andI (shrI .i64 y 6) 15 = 2 then wr .i64 (9223372036854775807 - andI (shrI .i64 y 3) 7) else andI (shrI .i64 y 3) 7, [], by simp⟩ := by
     unfold valF; simp [k]
    rw [e];refine ⟨rfl, by simp [isB, k], rfl, ?_⟩;show In64 (if _ then _ else _);split
    ·exact in64_wr
    ·split
     ·exact in64_wr
     ·split
      ·exact in64_wr
      ·rw [hr']; unfold In64; omega
   ·have hb : (valF ⟨c.name, c.kind, false⟩ y).null = false ∧ (valF ⟨c.name, c.kind, false⟩ y).kind = c.kind ∧ (valF ⟨c.name, c.kind, false⟩ y).n = 0 ∧ (valF ⟨c.name, c.kind, false⟩ y).bytes.length ≤ 64 := by
     unfold valF;simp only [Bool.false_eq_true, false_and, if_false];rw [if_neg (by show ¬ c.kind = 1; omega)];refine ⟨rfl, rfl, rfl, ?_⟩;show (List.take _ (List.drop _ abc)).length ≤ 64;rw [List.length_take, List.length_drop]; simp [abc]; omega
    refine ⟨hb.1, ?_, hb.2.1, by rw [hb.2.2.1]; unfold In64; omega⟩;unfold isB;rw [decide_eq_true_iff, if_neg (by rw [hb.1]; simp), if_neg (by rw [hb.2.1]; omega)];exact ⟨.inr (by rw [hb.2.1]; exact k), hb.2.2⟩
 exact .inr (.inl ⟨rfl, hc, hop, hv.1, hv.2.1, ⟨c, hci, hv.2.2.1⟩, rfl, hv.2.2.2⟩)
def capC : Nat → Nat
 | 0 => 1
 | d + 1 => 1 + 3 * capC d
theorem cntPs_le {B : Nat} : ∀ {l : List Pr}, (∀ x, x ∈ l → cntP x ≤ B) → cntPs l ≤ l.length * B
 | [], _ => by simp [cntPs]
 | x :: l, h => by
  have h1 := cntPs_le (l := l) (fun y hy => h y (List.mem_cons_of_mem _ hy));have h2 := h x List.mem_cons_self;simp only [cntPs, List.length_cons, Nat.add_mul]; omega
theorem predG_right {n x : Int} {k d B : Nat} {son : Nat → Pr} (hson : ∀ i, 2 ≤ d → PrL (schF n) d (son i) ∧ cntP (son i) ≤ B) (hk : k ≤ 7) (hk4 : d ≤ 1 → k ≤ 4) : PrL (schF n) (d + 1) (predG (schF n) x k son) ∧ cntP (predG (schF n) x k son) ≤ 1 + 3 * B := by
 unfold predG;split
 ·exact ⟨⟨.inl ⟨rfl, rfl, rfl, rfl, rfl⟩, fun y hy => by simp [prT, Pr.l] at hy⟩, by simp [cntP_eq, prT, Pr.l, cntPs]⟩
 ·split
  ·exact ⟨⟨.inr (.inr (.inl ⟨rfl, cP_at, rfl, rfl, rfl⟩)), fun y hy => by simp [Pr.l] at hy⟩, by simp [cntP_eq, Pr.l, cntPs]⟩
  ·split
   ·rename_i h5;obtain ⟨q, hq, hq3⟩ := andI_small (a := shrI .i64 x 11) (m := 3) (by simp);have hq' : andI (shrI .i64 x 11) 3 = q := hq;have hd : 2 ≤ d := (by omega)
    have hl : (sonsP x son).length ≤ 3 := by simp [sonsP, hq']; omega
    have hy : ∀ y, y ∈ sonsP x son → PrL (schF n) d y ∧ cntP y ≤ B := fun y hy => by
     simp only [sonsP, List.mem_map] at hy;obtain ⟨i, _, rfl⟩ := hy;exact hson i hd
    have hcs := cntPs_le (fun y h => (hy y h).2);have := Nat.mul_le_mul_right B hl;refine ⟨⟨.inr (.inr (.inr (.inl ⟨?_, rfl, rfl, rfl, by show (sonsP x son).length ≤ 8; omega⟩))), fun y h => (hy y h).1⟩, ?_⟩
    ·show (k : Int) - 1 = 4 ∨ (k : Int) - 1 = 5;omega
    ·rw [cntP_eq]; show 1 + cntPs (sonsP x son) ≤ _; omega
   ·split
    ·have hd : 2 ≤ d := (by omega);refine ⟨⟨.inr (.inr (.inr (.inr ⟨rfl, rfl, rfl, rfl, rfl⟩))), fun y hy => ?_⟩, ?_⟩
     ·simp [Pr.l] at hy; subst hy; exact (hson 0 hd).1
     ·rw [cntP_eq]; show 1 + cntPs [son 0] ≤ _;have := (hson 0 hd).2;simp [cntPs]; omega
    ·exact ⟨⟨leafP_one, fun y hy => by simp [leafP, Pr.l] at hy⟩, by simp [cntP_eq, leafP, Pr.l, cntPs]⟩
theorem predF_right {n : Int} {l : List Int} : ∀ {d a : Nat}, PrL (schF n) (d + 1) (predF (schF n) l d a) ∧ cntP (predF (schF n) l d a) ≤ capC d
 | 0, a => by
  obtain ⟨k, hk, hk7, hk4⟩ := kP_at (d := 0) (n := numP l a);have := predG_right (n := n) (x := numP l a) (k := k) (d := 0) (B := 0) (son := fun _ => prT) (fun i h => by omega) hk7 (fun h => hk4 (by omega));show PrL _ _ (predG (schF n) (numP l a) (kP 0 (numP l a)) fun _ => prT) ∧ cntP (predG (schF n) (numP l a) (kP 0 (numP l a)) fun _ => prT) ≤ 1;rw [hk]; exact this
 | d + 1, a => by
  obtain ⟨k, hk, hk7, hk4⟩ := kP_at (d := d + 1) (n := numP l a);have := predG_right (n := n) (x := numP l a) (k := k) (d := d + 1) (B := capC d) (son := fun i => predF (schF n) l d (3 * a + i + 1)) (fun i h => predF_right) hk7 (fun h => hk4 (by omega));show PrL _ _ (predG (schF n) (numP l a) (kP (d + 1) (numP l a)) fun i => predF (schF n) l d (3 * a + i + 1)) ∧ cntP (predG (schF n) (numP l a) (kP (d + 1) (numP l a)) fun i => predF (schF n) l d (3 * a + i + 1)) ≤ _;rw [hk]; exact this
theorem PrL.more {s : Sch} : ∀ {k : Nat} {q : Pr}, PrL s k q → PrL s (k + 1) q
 | 0, _, h => h.elim
 | _ + 1, _, ⟨h1, h2⟩ => ⟨h1, fun x hx => (h2 x hx).more⟩
end Go.Lib
end

section
namespace Go.Lib
open Go.Vm Go.Dv
set_option maxRecDepth 100000
end Go.Lib
end

section
set_option maxRecDepth 10000
namespace Go.Lib
open Go.Vm Go.Dv Go.Srt
variable {p : Prog} {ext : Ext} {F : Nat → Nat}
attribute [-simp] bin_and bin_xor
end Go.Lib
end

section
set_option maxRecDepth 10000
namespace Go.Lib
open Go.Vm Go.Dv Go.Srt
variable {p : Prog} {ext : Ext} {F : Nat → Nat}
attribute [-simp] bin_and bin_xor
end Go.Lib
end

section
set_option maxRecDepth 10000
namespace Go.Lib
open Go.Vm Go.Dv Go.Srt
variable {p : Prog} {ext : Ext} {F : Nat → Nat}
attribute [-simp] bin_and bin_xor
end Go.Lib
end

section
set_option maxRecDepth 10000
namespace Go.Lib
open Go.Vm Go.Dv Go.Srt
variable {p : Prog} {ext : Ext} {F : Nat → Nat}
attribute [-simp] bin_and bin_xor
end Go.Lib
end

section
set_option maxRecDepth 10000
namespace Go.Lib
open Go.Vm Go.Dv Go.Srt
variable {p : Prog} {ext : Ext} {F : Nat → Nat}
attribute [-simp] bin_and bin_xor
end Go.Lib
end

section
set_option maxRecDepth 10000
namespace Go.Lib
open Go.Vm Go.Dv Go.Srt
variable {p : Prog} {ext : Ext} {F : Nat → Nat}
attribute [-simp] bin_and bin_xor
end Go.Lib
end

section
set_option maxRecDepth 10000
namespace Go.Lib
open Go.Vm Go.Dv Go.Srt
variable {p : Prog} {ext : Ext} {F : Nat → Nat}
attribute [-simp] bin_and bin_xor
def capT : Nat → Nat
 | 0 => 1
 | 1 => 1
 | d + 2 => 1 + 3 * capT (d + 1)
theorem predF_few {n : Int} {l : List Int} : ∀ {d a : Nat}, PrL (schF n) (d + 1) (predF (schF n) l d a) ∧ cntP (predF (schF n) l d a) ≤ capT d
 | 0, a => predF_right
 | 1, a => by
  obtain ⟨k, hk, hk7, hk4⟩ := kP_at (d := 1) (n := numP l a);have := predG_right (n := n) (x := numP l a) (k := k) (d := 1) (B := 0) (son := fun i => predF (schF n) l 0 (3 * a + i + 1)) (fun i h => by omega) hk7 (fun h => hk4 (by omega));show PrL _ _ (predG (schF n) (numP l a) (kP 1 (numP l a)) fun i => predF (schF n) l 0 (3 * a + i + 1)) ∧ cntP (predG (schF n) (numP l a) (kP 1 (numP l a)) fun i => predF (schF n) l 0 (3 * a + i + 1)) ≤ _;rw [hk]; exact this
 | d + 2, a => by
  obtain ⟨k, hk, hk7, hk4⟩ := kP_at (d := d + 2) (n := numP l a);have := predG_right (n := n) (x := numP l a) (k := k) (d := d + 2) (B := capT (d + 1)) (son := fun i => predF (schF n) l (d + 1) (3 * a + i + 1)) (fun i h => predF_few) hk7 (fun h => hk4 (by omega));show PrL _ _ (predG (schF n) (numP l a) (kP (d + 2) (numP l a)) fun i => predF (schF n) l (d + 1) (3 * a + i + 1)) ∧ cntP (predG (schF n) (numP l a) (kP (d + 2) (numP l a)) fun i => predF (schF n) l (d + 1) (3 * a + i + 1)) ≤ _;rw [hk]; exact this
end Go.Lib
end
