/-
  Texts that the claim's last one rests on, joined.
-/
import Derived.Test.YtnbmmnjihipahaaBModlPlaysg

section
set_option maxRecDepth 10000
namespace Go.Lib
open Go.Vm Go.Dv Go.Srt
variable {p : Prog} {ext : Ext} {F : Nat → Nat} {α : Type}
structure HSrt (p : Prog) (ext : Ext) (F : Nat → Nat) : Prop where
  h26 : Has p ext F 26 M26
  h27 : Has p ext F 27 M27
  h28 : Has p ext F 28 M28
  h29 : Has p ext F 29 M29
  h30 : Has p ext F 30 M30
  h31 : Has p ext F 31 M31
structure Enc (α : Type) where
  d : α → D
  flat : ∀ x, flatD (d x) = true
  cells : ∀ x, cellsD (d x) = some [d x]
attribute [simp] Enc.flat Enc.cells
def hp (E : Enc α) (H : HpD) (bs : Nat) (L : List α) : HpD := H.put bs (.cells (L.map E.d) false)
theorem hp_blk {E : Enc α} {H : HpD} {bs : Nat} {L : List α} : (hp E H bs L).blk bs = .cells (L.map E.d) false := by simp [hp]
theorem put_put {H : HpD} {bs : Nat} {x y : BD} : (H.put bs x).put bs y = H.put bs y := by
  simp only [HpD.put]
  congr 1
  funext c
  by_cases h : c = bs <;> simp [h]
theorem hp_put {E : Enc α} {H : HpD} {bs : Nat} {L : List α} {l : List D} : (hp E H bs L).put bs (.cells l false) = H.put bs (.cells l false) := by
  simp only [hp, HpD.put]
  congr 1
  funext c
  by_cases h : c = bs <;> simp [h]
theorem hp_self {E : Enc α} {H : HpD} {bs : Nat} {L : List α} (h : H.blk bs = .cells (L.map E.d) false) : hp E H bs L = H := by
  simp only [hp, HpD.put];rw [← h];cases H;simp only [HpD.mk.injEq, true_and];funext c
  by_cases h : c = bs <;> simp [h]
theorem hp_next {E : Enc α} {H : HpD} {bs : Nat} {L : List α} : (hp E H bs L).next = H.next := rfl
attribute [simp] hp_blk hp_next hp_put put_put
abbrev sl (bs n c : Nat) (ex : Bool) : D := .slice bs 0 1 n c ex
abbrev iD (n : Nat) : D := .lit (.int .i64 (n : Int))
def SwpI (E : Enc α) (H : HpD) (bs c : Nat) (ex : Bool) (X : List α) (a b m k : Nat) (fr : FrD) (H' : HpD) : Prop :=
  ∃ i : Nat, k = m - i ∧ i ≤ m ∧ fr = [(0, sl bs X.length c ex), (1, iD a), (2, iD b), (3, iD m), (10, iD i)] ∧ H' = hp E H bs (swpR X a b i)
theorem set_map {E : Enc α} {X : List α} {i : Nat} {x : α} : (X.map E.d).set i (E.d x) = (X.set i x).map E.d := by rw [List.map_set]
theorem hp_swp {E : Enc α} {H : HpD} {bs : Nat} {X : List α} {i j : Nat} {x y : α} (hx : X[i]? = some x) (hy : X[j]? = some y) : H.put bs (.cells (((X.map E.d).set i (E.d y)).set j (E.d x)) false) = hp E H bs (swp X i j) := by
  rw [set_map, set_map, swp_eq hx hy, hp]
theorem get_of {X : List α} {n : Nat} (h : n < X.length) : ∃ x, X[n]? = some x := ⟨X[n], by simp [h]⟩
theorem spliceD_one : ∀ {X : List D} {i : Nat} {x : D}, i < X.length → spliceD X i [x] = X.set i x
  | d :: l, 0, x, _ => rfl
  | d :: l, i + 1, x, h => by
    simp only [spliceD, List.set_cons_succ];rw [spliceD_one (by simpa using h)]
  | [], _, _, h => by simp at h
theorem swapRange (L : HSrt p ext F) {E : Enc α} {H : HpD} {bs c : Nat} {ex : Bool} {X : List α} {cv : D} (hbs : bs < H.next) (hX : X.length < 1000000) {a b m : Nat} (h1 : a + m ≤ b) (h2 : b + m ≤ X.length) : WcD p ext (F 31) [sl bs X.length c ex, iD a, iD b, iD m, cv] (hp E H bs X) (fun d H' => d = .tup [] ∧ H' = hp E H bs (swpR X a b m)) := by
  refine wc_of L.h31 (M := M31) rfl ok31 rfl (sem_run 9000 _ ?_);simp;refine sem_loop (SwpI E H bs c ex X a b m) ?_ (k := m) ⟨0, by simp, by simp, by simp, rfl⟩;rintro k fr H' ⟨i, rfl, hi, rfl, rfl⟩;refine sem_run 9000 _ ?_;simp
  by_cases c1 : i < m
  · have w1 : wr .i64 ((a : Int) + i) = ((a + i : Nat) : Int) := (by rw [wr_of] <;> omega);have w2 : wr .i64 ((b : Int) + i) = ((b + i : Nat) : Int) := (by rw [wr_of] <;> omega);have w3 : wr .i64 ((i : Int) + 1) = ((i + 1 : Nat) : Int) := (by rw [wr_of] <;> omega);have ha : a + i < X.length := (by omega);have hb : b + i < X.length := (by omega);obtain ⟨x, gx⟩ := get_of (X := swpR X a b i) (n := a + i) (by rw [swpR_length]; omega);obtain ⟨y, gy⟩ := get_of (X := swpR X a b i) (n := b + i) (by rw [swpR_length]; omega);have s1 := spliceD_one (X := (swpR X a b i).map E.d) (i := a + i) (x := E.d y) (by simp [swpR_length]; omega);have s2 := spliceD_one (X := ((swpR X a b i).map E.d).set (a + i) (E.d y)) (i := b + i) (x := E.d x) (by simp [swpR_length]; omega)
    have l1 : a + i + 1 ≤ X.length := (by omega);have l2 : b + i + 1 ≤ X.length := (by omega);simp [c1, w1, w2, w3, ha, hb, gx, gy, s1, s2, hbs, swpR_length, l1, l2, hp_swp gx gy, -Int.natCast_add, -List.map_set, -getElem?_pos];refine sem_ok ?_;exact ⟨_, by omega, i + 1, rfl, by omega, rfl, by simp [hp, swpR]⟩
  · have : i = m := (by omega);subst this;simp [c1];refine sem_exit (sem_run 9000 _ ?_);simp;refine sem_ok ?_;simp [M31]
def RotI (E : Enc α) (H : HpD) (bs c : Nat) (ex : Bool) (X : List α) (cv : D) (a m b k : Nat) (fr : FrD) (H' : HpD) : Prop :=
  ∃ (i j : Nat) (Y : List α), k = i + j ∧ 0 < i ∧ 0 < j ∧ i ≤ m ∧ m + j ≤ X.length ∧ fr = [(0, sl bs X.length c ex), (2, iD m), (4, cv), (10, iD i), (11, iD j)] ∧
    H' = hp E H bs Y ∧ Y.Perm X ∧ ∀ Z, RotR Y Z (m - i) m (m + j) → RotR X Z a m b
theorem rotate (L : HSrt p ext F) {E : Enc α} {H : HpD} {bs c : Nat} {ex : Bool} {X : List α} {cv : D} (hbs : bs < H.next) (hX : X.length < 1000000) {a m b : Nat} (h1 : a < m) (h2 : m < b) (h3 : b ≤ X.length) : WcD p ext (F 30) [sl bs X.length c ex, iD a, iD m, iD b, cv] (hp E H bs X) (fun d H' => d = .tup [] ∧ ∃ X', H' = hp E H bs X' ∧ X'.Perm X ∧ RotR X X' a m b) := by
  refine wc_of L.h30 (M := M30) rfl ok30 rfl (sem_run 9000 _ ?_);have w1 : wr .i64 ((m : Int) - a) = ((m - a : Nat) : Int) := (by rw [wr_of] <;> omega);have w2 : wr .i64 ((b : Int) - m) = ((b - m : Nat) : Int) := (by rw [wr_of] <;> omega);simp [w1, w2]
  refine sem_loop (RotI E H bs c ex X cv a m b) ?_ (k := (m - a) + (b - m)) ⟨m - a, b - m, X, rfl, by omega, by omega, by omega, by omega, by simp, rfl, .refl _, fun Z hr => by
      rwa [show m - (m - a) = a by omega, show m + (b - m) = b by omega] at hr⟩
  rintro k fr H' ⟨i, j, Y, rfl, hi0, hj0, hi, hj, rfl, rfl, hp, hr⟩;refine sem_run 9000 _ ?_;simp;have hl : Y.length = X.length := hp.length_eq;have w3 : wr .i64 ((m : Int) - i) = ((m - i : Nat) : Int) := (by rw [wr_of] <;> omega);rcases Nat.lt_trichotomy i j with c1 | c1 | c1
  · have d1 : ¬ ((i : Int) = j) := (by omega);have d2 : ¬ j < i := (by omega);have w4 : wr .i64 ((m : Int) + j) = ((m + j : Nat) : Int) := (by rw [wr_of] <;> omega);have w5 : wr .i64 (((m + j : Nat) : Int) - i) = ((m + j - i : Nat) : Int) := (by rw [wr_of] <;> omega);have w6 : wr .i64 ((j : Int) - i) = ((j - i : Nat) : Int) := (by rw [wr_of] <;> omega);simp [d1, d2, w3, w4, w5, -Int.natCast_add];have sp := swapRange L (E := E) (H := H) (c := c) (ex := ex) (X := Y) (cv := cv) hbs (by omega) (a := m - i) (b := m + j - i) (m := i) (by omega) (by omega);rw [hl] at sp;refine sem_call sp ?_;rintro _ _ ⟨rfl, rfl⟩;refine sem_run 9000 _ ?_;simp [w6];refine sem_ok ?_;exact ⟨i + (j - i), by omega, i, j - i, swpR Y (m - i) (m + j - i) i, rfl, hi0, by omega, hi, by omega, rfl, rfl, swpR_perm.trans hp, fun Z h => hr Z (rot_less hi c1 (by omega) h)⟩
  · subst c1;simp;refine sem_exit (sem_run 9000 _ ?_);simp [w3];have sp := swapRange L (E := E) (H := H) (c := c) (ex := ex) (X := Y) (cv := cv) hbs (by omega) (a := m - i) (b := m) (m := i) (by omega) (by omega);rw [hl] at sp;refine sem_call sp ?_;rintro _ _ ⟨rfl, rfl⟩;refine sem_run 9000 _ ?_;simp;refine sem_ok ?_;simp [M30];exact ⟨_, rfl, swpR_perm.trans hp, hr _ (rot_same hi (by omega))⟩
  · have d1 : ¬ ((i : Int) = j) := (by omega);have w6 : wr .i64 ((i : Int) - j) = ((i - j : Nat) : Int) := (by rw [wr_of] <;> omega);simp [d1, c1, w3];have sp := swapRange L (E := E) (H := H) (c := c) (ex := ex) (X := Y) (cv := cv) hbs (by omega) (a := m - i) (b := m) (m := j) (by omega) (by omega);rw [hl] at sp;refine sem_call sp ?_;rintro _ _ ⟨rfl, rfl⟩;refine sem_run 9000 _ ?_;simp [w6];refine sem_ok ?_;exact ⟨i - j + j, by omega, i - j, j, swpR Y (m - i) m j, rfl, by omega, hj0, by omega, by omega, rfl, rfl, swpR_perm.trans hp, fun Z h => hr Z (rot_more hi c1 (by omega) (by rwa [show m - i + j = m - (i - j) by omega]))⟩
structure Cmp (p : Prog) (ext : Ext) (E : Enc α) (D : α → Prop) (cv : Dv.D) (cmp : α → α → Int) : Prop where
  fn : ∃ g a c, cv = .func g a c ∧ ∀ x y, D x → D y → FnD p ext g (a ++ E.d x :: E.d y :: c) (.lit (.int .i64 (cmp x y)))
  anti : ∀ x y, D x → D y → cmp x y < 0 → ¬ cmp y x < 0
  trans : ∀ x y z, D x → D y → D z → ¬ cmp y x < 0 → ¬ cmp z y < 0 → ¬ cmp z x < 0
def InsI (E : Enc α) (H : HpD) (bs c : Nat) (ex : Bool) (n : Nat) (cv : D) (cmp : α → α → Int) (X : List α) (a b i k : Nat) (fr : FrD) (H' : HpD) : Prop :=
  ∃ (j : Nat) (Y : List α), k = j ∧ a ≤ j ∧ j ≤ i ∧ fr = [(0, sl bs n c ex), (1, iD a), (2, iD b), (3, cv), (8, iD i), (9, iD j)] ∧
    H' = hp E H bs Y ∧ Mix X Y a b ∧ (∀ p q x y, a ≤ p → p < q → q ≤ i → p ≠ j → q ≠ j → Y[p]? = some x → Y[q]? = some y → ¬ cmp y x < 0) ∧ ∀ q x y, j < q → q ≤ i → Y[j]? = some x → Y[q]? = some y → ¬ cmp y x < 0
def InsO (E : Enc α) (H : HpD) (bs c : Nat) (ex : Bool) (n : Nat) (cv : D) (cmp : α → α → Int) (X : List α) (a b k : Nat) (fr : FrD) (H' : HpD) : Prop :=
  ∃ (i : Nat) (Y : List α), k = b + 1 - i ∧ a < i ∧ i ≤ max b (a + 1) ∧ fr = [(0, sl bs n c ex), (1, iD a), (2, iD b), (3, cv), (8, iD i)] ∧
    H' = hp E H bs Y ∧ Mix X Y a b ∧ Srt cmp Y a i
theorem insertion (L : HSrt p ext F) {E : Enc α} {H : HpD} {bs c : Nat} {ex : Bool} {X : List α} {cv : D} {G : α → Prop} {cmp : α → α → Int} (hc : Cmp p ext E G cv cmp) (hbs : bs < H.next) (hX : X.length < 1000000) (hG : ∀ x, x ∈ X → G x) {a b : Nat} (hab : a ≤ b) (hbl : b ≤ X.length) : WcD p ext (F 28) [sl bs X.length c ex, iD a, iD b, cv] (hp E H bs X) (fun d H' => d = .tup [] ∧ ∃ X', H' = hp E H bs X' ∧ Mix X X' a b ∧ Srt cmp X' a b) := by
  refine wc_of L.h28 (M := M28) rfl ok28 rfl (sem_run 9000 _ ?_);obtain ⟨g, ga, gc, rfl, hcall⟩ := hc.fn;have w1 : wr .i64 ((a : Int) + 1) = ((a + 1 : Nat) : Int) := (by rw [wr_of] <;> omega);simp [w1, -Int.natCast_add];refine sem_loop (InsO E H bs c ex X.length (.func g ga gc) cmp X a b) ?_ (k := b + 1 - (a + 1)) ⟨a + 1, X, rfl, by omega, by omega, rfl, rfl, .refl, fun p q x y h1 h2 h3 => by omega⟩;rintro k fr H' ⟨i, Y, rfl, hai, hib, rfl, rfl, hm, hsrt⟩;refine sem_run 9000 _ ?_;simp
  by_cases c1 : i < b
  · have hl : Y.length = X.length := hm.perm.length_eq;simp [c1];refine sem_loop (InsI E H bs c ex X.length (.func g ga gc) cmp X a b i) ?_ (k := i) ⟨i, Y, rfl, by omega, by omega, rfl, rfl, hm, fun p q x y h1 h2 h3 h4 h5 => hsrt p q x y h1 h2 (by omega), fun q x y h1 h2 => by omega⟩;rintro j fr H' ⟨_, Z, rfl, haj, hji, rfl, rfl, hm2, hso, hsj⟩;refine sem_run 9000 _ ?_;simp;have hl2 : Z.length = X.length := hm2.perm.length_eq
    have w4 : wr .i64 ((i : Int) + 1) = ((i + 1 : Nat) : Int) := by rw [wr_of] <;> omega
    by_cases c2 : a < j
    · have w5 : wr .i64 ((j : Int) - 1) = ((j - 1 : Nat) : Int) := (by rw [wr_of] <;> omega);obtain ⟨x, gx⟩ := get_of (X := Z) (n := j) (by omega);obtain ⟨y, gy⟩ := get_of (X := Z) (n := j - 1) (by omega);have hxm : x ∈ X := hm2.perm.mem_iff.1 (List.mem_of_getElem? gx);have hym : y ∈ X := hm2.perm.mem_iff.1 (List.mem_of_getElem? gy);have l1 : j < X.length := (by omega);have l2 : j - 1 < X.length := (by omega);simp [c2, w5, gx, gy, l1, l2, hbs, -getElem?_pos];refine sem_dfn (hcall x y (hG x hxm) (hG y hym)) (by first | exact D.les_refl _ | simp) (sem_run 9000 _ ?_);simp
      by_cases c3 : cmp x y < 0
      · have s1 := spliceD_one (X := Z.map E.d) (i := j) (x := E.d y) (by simp; omega);have s2 := spliceD_one (X := (Z.map E.d).set j (E.d y)) (i := j - 1) (x := E.d x) (by simp; omega);have l3 : j + 1 ≤ X.length := (by omega);have l4 : j - 1 + 1 ≤ X.length := (by omega);simp [c3, w5, gx, gy, l1, l2, l3, l4, hl2, s1, s2, hbs, hp_swp gx gy, -List.map_set, -getElem?_pos];refine sem_ok ?_;have hlj : j < Z.length := (by omega);have hlj1 : j - 1 < Z.length := (by omega);have hg := swp_get hlj hlj1;refine ⟨j - 1, by omega, j - 1, swp Z j (j - 1), rfl, by omega, by omega, rfl, by simp [hp], hm2.trans (Mix.swp (by omega) (by omega) (by omega)), fun p q u v h1 h2 h3 h4 h5 h6 h7 => ?_, fun q u v h1 h2 h3 h4 => ?_⟩
        · rw [hg, if_neg h4] at h6;rw [hg, if_neg h5] at h7;split at h6
          · rename_i hp;rw [if_neg (by omega)] at h7;exact hso (j - 1) q u v (by omega) (by omega) h3 (by omega) (by omega) h6 h7
          · rename_i hp;split at h7
            · exact hso p (j - 1) u v h1 (by omega) (by omega) hp (by omega) h6 h7
            · rename_i hq';exact hso p q u v h1 h2 h3 hp hq' h6 h7
        · rw [hg, if_pos rfl, gx] at h3;rw [hg, if_neg (by omega)] at h4;cases h3;split at h4
          · rw [gy] at h4; cases h4;exact hc.anti _ _ (hG _ hxm) (hG _ hym) c3
          · exact hsj q x v (by omega) h2 gx h4
      · simp [c3];refine sem_exit (sem_run 9000 _ ?_);simp [w4];refine sem_ok ?_;refine ⟨b + 1 - (i + 1), by omega, i + 1, Z, rfl, by omega, by omega, by simp, rfl, hm2, fun p q u v h1 h2 h3 h4 h5 => ?_⟩
        by_cases hp : p = j
        · subst hp; exact hsj q u v h2 (by omega) h4 h5
        · by_cases hq' : q = j
          · subst hq';rw [gx] at h5; cases h5
            by_cases hp1 : p = q - 1
            · subst hp1; rw [gy] at h4; cases h4; exact c3
            · have hGu : G u := hG u (hm2.perm.mem_iff.1 (List.mem_of_getElem? h4));exact hc.trans u y x hGu (hG y hym) (hG x hxm) (hso p (q - 1) u y h1 (by omega) (by omega) hp (by omega) h4 gy) c3
          · exact hso p q u v h1 h2 (by omega) hp hq' h4 h5
    · have : j = a := (by omega);subst this;simp;refine sem_exit (sem_run 9000 _ ?_);simp [w4];refine sem_ok ?_;refine ⟨b + 1 - (i + 1), by omega, i + 1, Z, rfl, by omega, by omega, by simp, rfl, hm2, fun p q x y h1 h2 h3 h4 h5 => ?_⟩
      by_cases hp : p = j
      · subst hp; exact hsj q x y h2 (by omega) h4 h5
      · exact hso p q x y h1 h2 (by omega) hp (by omega) h4 h5
  · simp [c1];refine sem_exit (sem_run 9000 _ ?_);simp;refine sem_ok ?_;simp [M28];exact ⟨Y, rfl, hm, fun p q x y h1 h2 h3 => hsrt p q x y h1 h2 (by omega)⟩
theorem mid_of {n : Nat} (h : n < 4000000) : wr .i64 (shrI .u64 (wr .u64 (n : Int)) 1) = ((n / 2 : Nat) : Int) := by
  have e0 : Nat.blt n (hiN .u64) = true := nblt.2 (by simp only [hiN]; omega)
  have e1 : wr .u64 (n : Int) = (n : Int) := by
    show cond (Nat.blt n (hiN .u64)) _ _ = _;rw [e0]; rfl
  rw [e1];have e2 : shrI .u64 (n : Int) 1 = ((n / 2 : Nat) : Int) := rfl;rw [e2, wr_of] <;> omega
def SymI1 (E : Enc α) (H : HpD) (bs c : Nat) (ex : Bool) (n : Nat) (cv : D) (cmp : α → α → Int) (X : List α) (a m b k : Nat) (fr : FrD) (H' : HpD) : Prop :=
  ∃ (i j : Nat), k = j - i ∧ m ≤ i ∧ i ≤ j ∧ j ≤ b ∧ fr = [(0, sl bs n c ex), (1, iD a), (4, cv), (10, iD i), (11, iD j)] ∧ H' = hp E H bs X ∧
    (∀ q x y, X[a]? = some x → X[q]? = some y → m ≤ q → q < i → cmp y x < 0) ∧ ∀ q x y, X[a]? = some x → X[q]? = some y → j ≤ q → q < b → ¬ cmp y x < 0
def SymS1 (E : Enc α) (H : HpD) (bs c : Nat) (ex : Bool) (n : Nat) (X : List α) (a b i k : Nat) (fr : FrD) (H' : HpD) : Prop :=
  ∃ (t : Nat) (Y : List α), k = i - 1 - t ∧ a ≤ t ∧ t ≤ i - 1 ∧ fr = [(0, sl bs n c ex), (10, iD i), (13, iD t)] ∧ H' = hp E H bs Y ∧
    Mix X Y a b ∧ (∀ p, a ≤ p → p < t → Y[p]? = X[p + 1]?) ∧ Y[t]? = X[a]? ∧ ∀ p, t < p → Y[p]? = X[p]?
def SymI2 (E : Enc α) (H : HpD) (bs c : Nat) (ex : Bool) (n : Nat) (cv : D) (cmp : α → α → Int) (X : List α) (a m _b k : Nat) (fr : FrD) (H' : HpD) : Prop :=
  ∃ (i j : Nat), k = j - i ∧ a ≤ i ∧ i ≤ j ∧ j ≤ m ∧ fr = [(0, sl bs n c ex), (2, iD m), (4, cv), (14, iD i), (15, iD j)] ∧ H' = hp E H bs X ∧
    (∀ q x y, X[m]? = some x → X[q]? = some y → a ≤ q → q < i → ¬ cmp x y < 0) ∧ ∀ q x y, X[m]? = some x → X[q]? = some y → j ≤ q → q < m → cmp x y < 0
def SymS2 (E : Enc α) (H : HpD) (bs c : Nat) (ex : Bool) (n : Nat) (X : List α) (a m b i k : Nat) (fr : FrD) (H' : HpD) : Prop :=
  ∃ (t : Nat) (Y : List α), k = t - i ∧ i ≤ t ∧ t ≤ m ∧ fr = [(0, sl bs n c ex), (14, iD i), (17, iD t)] ∧ H' = hp E H bs Y ∧
    Mix X Y a b ∧ (∀ p, p < t → Y[p]? = X[p]?) ∧ Y[t]? = X[m]? ∧ ∀ p, t < p → p ≤ m → Y[p]? = X[p - 1]?
def SymI3 (E : Enc α) (H : HpD) (bs c : Nat) (ex : Bool) (n : Nat) (cv : D) (cmp : α → α → Int) (X : List α) (a m b md S R k : Nat) (fr : FrD) (H' : HpD) : Prop :=
  ∃ (i j : Nat), k = j - i ∧ S ≤ i ∧ i ≤ j ∧ j ≤ R ∧ fr = [(0, sl bs n c ex), (1, iD a), (2, iD m), (3, iD b), (4, cv), (18, iD md), (19, iD (md + m)), (20, iD i), (21, iD j), (22, iD (md + m - 1))] ∧ H' = hp E H bs X ∧
    (S < i → ∀ x y, X[i - 1]? = some x → X[md + m - i]? = some y → ¬ cmp y x < 0) ∧ (j < R → ∀ x y, X[j]? = some x → X[md + m - 1 - j]? = some y → cmp y x < 0)
structure Sym4 (cmp : α → α → Int) (Y : List α) (a s md e b : Nat) : Prop where
  s1 : Srt cmp Y a s
  s2 : Srt cmp Y s md
  s3 : Srt cmp Y md e
  s4 : Srt cmp Y e b
  part : Parted cmp Y a md b
theorem rot_mix {X Y : List α} {s m e a b : Nat} (hr : RotR X Y s m e) (hp : Y.Perm X) (h1 : a ≤ s) (h2 : s ≤ m) (h3 : m ≤ e) (h4 : e ≤ b) : Mix X Y a b :=
  ⟨hp, fun k hk => by rw [hr k, if_neg (by omega), if_neg (by omega)]⟩
theorem rot_id {X : List α} {s m e : Nat} (h : s = m ∨ e = m) (h2 : s ≤ m) (h3 : m ≤ e) : RotR X X s m e := fun k => by
  split
  · congr 1; omega
  · split
    · congr 1; omega
    · rfl
theorem sym4 {E : Enc α} {cv : D} {G : α → Prop} {cmp : α → α → Int} (hc : Cmp p ext E G cv cmp) {X Y : List α} {a m b md s S R : Nat} (hG : ∀ x, x ∈ X → G x) (h1 : a < m) (h2 : m < b) (hmd : a < md ∧ md < b) (hb : b ≤ X.length)
    (hs1 : Srt cmp X a m) (hs2 : Srt cmp X m b) (hq : md = (a + b) / 2) (hS : S = if md < m then md + m - b else a) (hR : R = min m md) (hSs : S ≤ s) (hsR : s ≤ R)
    (hlo : S < s → ∀ x y, X[s - 1]? = some x → X[md + m - s]? = some y → ¬ cmp y x < 0) (hhi : s < R → ∀ x y, X[s]? = some x → X[md + m - 1 - s]? = some y → cmp y x < 0)
    (hr : RotR X Y s m (md + m - s)) : Sym4 cmp Y a s md (md + m - s) b := by
  have hk : a ≤ s ∧ s ≤ m ∧ s ≤ md ∧ md + m - s ≤ b ∧ m ≤ md + m - s := by
    have : R ≤ m ∧ R ≤ md := (by omega);split at hS <;> omega
  have hSc : S = s → s = a ∨ md + m - s = b := by
    intro e; split at hS <;> omega
  have hRc : s = R → s = m ∨ md + m - s = m := (by omega);have y1 : ∀ k, k < s → Y[k]? = X[k]? := fun k h => (by rw [hr k, if_neg (by omega), if_neg (by omega)])
  have y2 : ∀ k, s ≤ k → k < md → Y[k]? = X[m + (k - s)]? := fun k h h' => by rw [hr k, if_pos (by omega)]
  have y3 : ∀ k, md ≤ k → k < md + m - s → Y[k]? = X[k - (md - s)]? := fun k h h' => by
    rw [hr k, if_neg (by omega), if_pos (by omega)]; congr 1; omega
  have y4 : ∀ k, md + m - s ≤ k → Y[k]? = X[k]? := fun k h => (by rw [hr k, if_neg (by omega), if_neg (by omega)]);have hGm : ∀ {k x}, X[k]? = some x → G x := fun h => hG _ (List.mem_of_getElem? h);refine ⟨fun p q x y k1 k2 k3 k4 k5 => ?_, fun p q x y k1 k2 k3 k4 k5 => ?_, fun p q x y k1 k2 k3 k4 k5 => ?_, fun p q x y k1 k2 k3 k4 k5 => ?_, fun p q x y k1 k2 k3 k4 k5 k6 => ?_⟩
  · rw [y1 p (by omega)] at k4; rw [y1 q (by omega)] at k5;exact hs1 p q x y k1 k2 (by omega) k4 k5
  · rw [y2 p (by omega) (by omega)] at k4; rw [y2 q (by omega) (by omega)] at k5;exact hs2 _ _ x y (by omega) (by omega) (by omega) k4 k5
  · rw [y3 p (by omega) (by omega)] at k4; rw [y3 q (by omega) (by omega)] at k5;exact hs1 _ _ x y (by omega) (by omega) (by omega) k4 k5
  · rw [y4 p (by omega)] at k4; rw [y4 q (by omega)] at k5;exact hs2 p q x y (by omega) k2 k3 k4 k5
  · by_cases cp : p < s
    · rw [y1 p cp] at k5
      by_cases cq : q < md + m - s
      · rw [y3 q k3 cq] at k6;exact hs1 p _ x y k1 (by omega) (by omega) k5 k6
      · rw [y4 q (by omega)] at k6
        have hlt : S < s := by
          rcases Nat.lt_or_ge S s with h | h
          · exact h
          · have := hSc (by omega); omega
        obtain ⟨u, gu⟩ := get_of (X := X) (n := s - 1) (by omega);obtain ⟨v, gv⟩ := get_of (X := X) (n := md + m - s) (by omega);have huv := hlo hlt u v gu gv
        have hxu : ¬ cmp v x < 0 := by
          by_cases e : p = s - 1
          · subst e; rw [gu] at k5; cases k5; exact huv
          · exact hc.trans x u v (hGm k5) (hGm gu) (hGm gv) (hs1 p (s - 1) x u k1 (by omega) (by omega) k5 gu) huv
        by_cases e : q = md + m - s
        · subst e; rw [gv] at k6; cases k6; exact hxu
        · exact hc.trans x v y (hGm k5) (hGm gv) (hGm k6) hxu (hs2 _ q v y (by omega) (by omega) k4 gv k6)
    · rw [y2 p (by omega) k2] at k5
      by_cases cq : q < md + m - s
      · rw [y3 q k3 cq] at k6
        have hlt : s < R := by
          rcases Nat.lt_or_ge s R with h | h
          · exact h
          · have := hRc (by omega); omega
        obtain ⟨u, gu⟩ := get_of (X := X) (n := s) (by omega);obtain ⟨v, gv⟩ := get_of (X := X) (n := md + m - 1 - s) (by omega);have huv := hc.anti _ _ (hGm gv) (hGm gu) (hhi hlt u v gu gv)
        have hxu : ¬ cmp u x < 0 := by
          by_cases e : m + (p - s) = md + m - 1 - s
          · rw [e, gv] at k5; cases k5; exact huv
          · exact hc.trans x v u (hGm k5) (hGm gv) (hGm gu) (hs2 _ _ x v (by omega) (by omega) (by omega) k5 gv) huv
        by_cases e : q - (md - s) = s
        · rw [e, gu] at k6; cases k6; exact hxu
        · exact hc.trans x u y (hGm k5) (hGm gu) (hGm k6) hxu (hs1 _ _ u y (by omega) (by omega) (by omega) gu k6)
      · rw [y4 q (by omega)] at k6;exact hs2 _ q x y (by omega) (by omega) k4 k5 k6
theorem Srt.of_out {cmp : α → α → Int} {Y Z : List α} {a b c d : Nat} (h : Srt cmp Y a b) (hm : Mix Y Z c d) (ho : b ≤ c ∨ d ≤ a) : Srt cmp Z a b := fun p q x y k1 k2 k3 k4 k5 => by
  rw [hm.out p (by omega)] at k4;rw [hm.out q (by omega)] at k5;exact h p q x y k1 k2 k3 k4 k5
theorem Mix.wide {Y Z : List α} {a b c d : Nat} (h : Mix Y Z c d) (h1 : a ≤ c) (h2 : d ≤ b) : Mix Y Z a b := ⟨h.perm, fun k hk => h.out k (by omega)⟩
theorem sym_end {cmp : α → α → Int} {X Y Z W : List α} {a s md e b : Nat} (h4 : Sym4 cmp Y a s md e b) (h0 : Mix X Y a b) (hmd : a ≤ md ∧ md ≤ b) (m1 : Mix Y Z a md) (t1 : Srt cmp Z a md) (m2 : Mix Z W md b) (t2 : Srt cmp W md b) : Mix X W a b ∧ Srt cmp W a b := by
  refine ⟨h0.trans ((Mix.wide m1 (Nat.le_refl _) hmd.2).trans (Mix.wide m2 hmd.1 (Nat.le_refl _))), ?_⟩;exact Srt.join (Srt.of_out t1 m2 (.inl (Nat.le_refl _))) t2 ((h4.part.mix m1 (.inl ⟨Nat.le_refl _, Nat.le_refl _⟩)).mix m2 (.inr ⟨Nat.le_refl _, Nat.le_refl _⟩))
def SymJ (E : Enc α) (H : HpD) (bs c : Nat) (ex : Bool) (n : Nat) (cv : D) (X : List α) (a m b md S R : Nat) (fr : FrD) (H' : HpD) : Prop :=
  fr = [(0, sl bs n c ex), (1, iD a), (2, iD m), (3, iD b), (4, cv), (18, iD md), (19, iD (md + m)), (20, iD S), (21, iD R)] ∧ H' = hp E H bs X
def SymJ2 (E : Enc α) (H : HpD) (bs c : Nat) (ex : Bool) (n : Nat) (cv : D) (X : List α) (a m b md s e : Nat) (fr : FrD) (H' : HpD) : Prop :=
  ∃ Y, (lk fr 0 = sl bs n c ex ∧ lk fr 1 = iD a ∧ lk fr 3 = iD b ∧ lk fr 4 = cv ∧ lk fr 18 = iD md ∧ lk fr 20 = iD s ∧ lk fr 24 = iD e) ∧ H' = hp E H bs Y ∧ Y.Perm X ∧ RotR X Y s m e
def SymJ3 (E : Enc α) (H : HpD) (bs c : Nat) (ex : Bool) (n : Nat) (cv : D) (cmp : α → α → Int) (Y : List α) (a b md e : Nat) (fr : FrD) (H' : HpD) : Prop :=
  ∃ Z, (lk fr 0 = sl bs n c ex ∧ lk fr 3 = iD b ∧ lk fr 4 = cv ∧ lk fr 18 = iD md ∧ lk fr 24 = iD e) ∧ H' = hp E H bs Z ∧ Mix Y Z a md ∧ Srt cmp Z a md
set_option maxHeartbeats 2000000 in
theorem symMerge (L : HSrt p ext F) {E : Enc α} {H : HpD} {bs c : Nat} {ex : Bool} {n : Nat} {cv : D} {G : α → Prop} {cmp : α → α → Int} (hc : Cmp p ext E G cv cmp) (hbs : bs < H.next) (hn : n < 1000000) : ∀ (w : Nat) {X : List α} {a m b : Nat},
    b - a ≤ w → X.length = n → (∀ x, x ∈ X → G x) → a < m → m < b → b ≤ n → Srt cmp X a m → Srt cmp X m b →
    WcD p ext (F 29) [sl bs n c ex, iD a, iD m, iD b, cv] (hp E H bs X) fun d H' => d = .tup [] ∧ ∃ X', H' = hp E H bs X' ∧ Mix X X' a b ∧ Srt cmp X' a b := by
  obtain ⟨g, ga, gc, rfl, hcall⟩ := hc.fn;intro w
  induction w with
  | zero => intro X a m b hw _ _ h1 h2; omega
  | succ w ih =>
  intro X a m b hw hl hG h1 h2 h3 hs1 hs2;refine wc_of L.h29 (M := M29) rfl ok29 rfl (sem_run 57 _ ?_);have w1 : wr .i64 ((m : Int) - a) = ((m - a : Nat) : Int) := (by rw [wr_of] <;> omega);simp [w1];refine sem_if (fun c1 => ?_) fun c1 => ?_
  · simp;refine sem_loop (SymI1 E H bs c ex n (.func g ga gc) cmp X a m b) ?_ (k := b - m) ⟨m, b, rfl, by omega, by omega, by omega, rfl, rfl, fun q x y _ _ h4 h5 => by omega, fun q x y _ _ h4 h5 => by omega⟩;rintro k fr H' ⟨i, j, rfl, hmi, hij, hjb, rfl, rfl, hlo, hhi⟩;refine sem_run 9000 _ ?_;simp
    by_cases c2 : i < j
    · have w2 : wr .i64 ((i : Int) + j) = ((i + j : Nat) : Int) := (by rw [wr_of] <;> omega);have w3 := mid_of (n := i + j) (by omega);have hmid : m ≤ (i + j) / 2 ∧ (i + j) / 2 < b ∧ i ≤ (i + j) / 2 ∧ (i + j) / 2 < j := (by omega);generalize (i + j) / 2 = t at w3 hmid;obtain ⟨x, gx⟩ := get_of (X := X) (n := t) (by omega);obtain ⟨y, gy⟩ := get_of (X := X) (n := a) (by omega);have hxm : x ∈ X := List.mem_of_getElem? gx;have hym : y ∈ X := List.mem_of_getElem? gy;have w4 : wr .i64 ((t : Int) + 1) = ((t + 1 : Nat) : Int) := (by rw [wr_of] <;> omega);have l1 : t < n := (by omega);have l2 : a < n := (by omega)
      simp [c2, w2, w3, gx, gy, l1, l2, hbs, -Int.natCast_add, -getElem?_pos];refine sem_dfn (hcall x y (hG x hxm) (hG y hym)) (by first | exact D.les_refl _ | simp) (sem_run 9000 _ ?_);simp
      by_cases c3 : cmp x y < 0
      · simp [c3, w4, -Int.natCast_add];refine sem_ok ?_;refine ⟨j - (t + 1), by omega, t + 1, j, rfl, by omega, by omega, hjb, rfl, rfl, fun q u v hu hv h4 h5 => ?_, hhi⟩;rw [gy] at hu; cases hu;have hGv : G v := hG v (List.mem_of_getElem? hv)
        by_cases hqt : q = t
        · subst hqt; rw [gx] at hv; cases hv; exact c3
        · exact Decidable.byContradiction fun hne => hc.trans y v x (hG y hym) hGv (hG x hxm) hne (hs2 q t v x h4 (by omega) (by omega) hv gx) c3
      · simp [c3];refine sem_ok ?_;refine ⟨t - i, by omega, i, t, rfl, by omega, by omega, by omega, rfl, rfl, hlo, fun q u v hu hv h4 h5 => ?_⟩;rw [gy] at hu; cases hu;have hGv : G v := hG v (List.mem_of_getElem? hv)
        by_cases hqt : q = t
        · subst hqt; rw [gx] at hv; cases hv; exact c3
        · exact hc.trans y x v (hG y hym) (hG x hxm) hGv c3 (hs2 t q x v (by omega) (by omega) h5 gx hv)
    · obtain rfl : i = j := (by omega);simp;refine sem_exit (sem_run 9000 _ ?_);simp;have w5 : wr .i64 ((i : Int) - 1) = ((i - 1 : Nat) : Int) := (by rw [wr_of] <;> omega);refine sem_loop (SymS1 E H bs c ex n X a b i) ?_ (k := i - 1 - a) ⟨a, X, rfl, by omega, by omega, rfl, rfl, .refl, fun p _ _ => by omega, rfl, fun _ _ => rfl⟩;rintro k fr H' ⟨t, Y, rfl, hat1, hti, rfl, rfl, hmt, hlt, hxt, hgt⟩;refine sem_run 9000 _ ?_;simp;have hl1 : Y.length = n := hmt.perm.length_eq.trans hl
      by_cases c3 : t < i - 1
      · have w6 : wr .i64 ((t : Int) + 1) = ((t + 1 : Nat) : Int) := (by rw [wr_of] <;> omega);have hlj : t < Y.length := (by omega);have hlj1 : t + 1 < Y.length := (by omega);obtain ⟨x, gx⟩ := get_of hlj;obtain ⟨y, gy⟩ := get_of hlj1;have s1 := spliceD_one (X := Y.map E.d) (i := t) (x := E.d y) (by simp; omega);have s2 := spliceD_one (X := (Y.map E.d).set t (E.d y)) (i := t + 1) (x := E.d x) (by simp; omega);have l1 : t < n := (by omega);have l2 : t + 1 < n := (by omega);have l3 : t + 1 ≤ n := (by omega);have l4 : t + 1 + 1 ≤ n := (by omega);simp [c3, w5, w6, gx, gy, l1, l2, l3, l4, hl1, s1, s2, hbs, hp_swp gx gy, -List.map_set, -getElem?_pos, -Int.natCast_add];refine sem_ok ?_;have hg := swp_get hlj hlj1;refine ⟨i - 1 - (t + 1), by omega, t + 1, swp Y t (t + 1), rfl, by omega, by omega, rfl, by simp [hp], hmt.trans (Mix.swp (by omega) (by omega) (by omega)), fun p h4 h5 => ?_, ?_, fun p h4 => ?_⟩
        · rw [hg, if_neg (by omega)];split
          · rename_i hp; subst hp; exact hgt _ (by omega)
          · exact hlt p h4 (by omega)
        · rw [hg, if_pos rfl]; exact hxt
        · rw [hg, if_neg (by omega), if_neg (by omega)]; exact hgt p (by omega)
      · obtain rfl : t = i - 1 := (by omega);simp [w5];refine sem_exit (sem_run 9000 _ ?_);simp;refine sem_ret ?_;simp [M29];refine ⟨Y, rfl, hmt, fun p q u v h4 h5 h6 h7 h8 => ?_⟩;obtain ⟨y, gy⟩ := get_of (X := X) (n := a) (by omega);have hGy : G y := hG y (List.mem_of_getElem? gy);rw [gy] at hxt;rcases Nat.lt_trichotomy p (i - 1) with cp | cp | cp
        · rw [hlt p h4 cp] at h7;rcases Nat.lt_trichotomy q (i - 1) with cq | cq | cq
          · rw [hlt q (by omega) cq] at h8;exact hs2 (p + 1) (q + 1) u v (by omega) (by omega) (by omega) h7 h8
          · subst cq;rw [hxt] at h8; cases h8;exact hc.anti _ _ (hG u (List.mem_of_getElem? h7)) hGy (hlo (p + 1) v u gy h7 (by omega) (by omega))
          · rw [hgt q cq] at h8;exact hs2 (p + 1) q u v (by omega) (by omega) h6 h7 h8
        · subst cp;rw [hxt] at h7; cases h7;rw [hgt q h5] at h8;exact hhi q u v gy h8 (by omega) h6
        · rw [hgt p cp] at h7;rw [hgt q (by omega)] at h8;exact hs2 p q u v (by omega) h5 h6 h7 h8
  have w1 : wr .i64 ((b : Int) - m) = ((b - m : Nat) : Int) := (by rw [wr_of] <;> omega);simp [w1];refine sem_if (fun c1 => ?_) fun c1 => ?_
  · simp;refine sem_loop (SymI2 E H bs c ex n (.func g ga gc) cmp X a m b) ?_ (k := m - a) ⟨a, m, rfl, by omega, by omega, by omega, rfl, rfl, fun q x y _ _ h4 h5 => by omega, fun q x y _ _ h4 h5 => by omega⟩;rintro k fr H' ⟨i, j, rfl, hmi, hij, hjb, rfl, rfl, hlo, hhi⟩;refine sem_run 9000 _ ?_;simp
    by_cases c2 : i < j
    · have w2 : wr .i64 ((i : Int) + j) = ((i + j : Nat) : Int) := (by rw [wr_of] <;> omega);have w3 := mid_of (n := i + j) (by omega);have hmid : a ≤ (i + j) / 2 ∧ (i + j) / 2 < m ∧ i ≤ (i + j) / 2 ∧ (i + j) / 2 < j := (by omega);generalize (i + j) / 2 = t at w3 hmid;obtain ⟨x, gx⟩ := get_of (X := X) (n := t) (by omega);obtain ⟨y, gy⟩ := get_of (X := X) (n := m) (by omega);have hxm : x ∈ X := List.mem_of_getElem? gx;have hym : y ∈ X := List.mem_of_getElem? gy;have w4 : wr .i64 ((t : Int) + 1) = ((t + 1 : Nat) : Int) := (by rw [wr_of] <;> omega);have l1 : t < n := (by omega);have l2 : m < n := (by omega)
      simp [c2, w2, w3, gx, gy, l1, l2, hbs, -Int.natCast_add, -getElem?_pos];refine sem_dfn (hcall y x (hG y hym) (hG x hxm)) (by first | exact D.les_refl _ | simp) (sem_run 9000 _ ?_);simp
      by_cases c3 : cmp y x < 0
      · simp [c3];refine sem_ok ?_;refine ⟨t - i, by omega, i, t, rfl, by omega, by omega, by omega, rfl, rfl, hlo, fun q u v hu hv h4 h5 => ?_⟩;rw [gy] at hu; cases hu;have hGv : G v := hG v (List.mem_of_getElem? hv)
        by_cases hqt : q = t
        · subst hqt; rw [gx] at hv; cases hv; exact c3
        · exact Decidable.byContradiction fun hne => hc.trans x v y (hG x hxm) hGv (hG y hym) (hs1 t q x v (by omega) (by omega) h5 gx hv) hne c3
      · simp [c3, w4, -Int.natCast_add];refine sem_ok ?_;refine ⟨j - (t + 1), by omega, t + 1, j, rfl, by omega, by omega, hjb, rfl, rfl, fun q u v hu hv h4 h5 => ?_, hhi⟩;rw [gy] at hu; cases hu;have hGv : G v := hG v (List.mem_of_getElem? hv)
        by_cases hqt : q = t
        · subst hqt; rw [gx] at hv; cases hv; exact c3
        · exact hc.trans v x y hGv (hG x hxm) (hG y hym) (hs1 q t v x h4 (by omega) (by omega) hv gx) c3
    · obtain rfl : i = j := (by omega);simp;refine sem_exit (sem_run 9000 _ ?_);simp;refine sem_loop (SymS2 E H bs c ex n X a m b i) ?_ (k := m - i) ⟨m, X, rfl, by omega, by omega, rfl, rfl, .refl, fun _ _ => rfl, rfl, fun p _ _ => by omega⟩;rintro k fr H' ⟨t, Y, rfl, hat1, hti, rfl, rfl, hmt, hlt, hxt, hgt⟩;refine sem_run 9000 _ ?_;simp;have hl1 : Y.length = n := hmt.perm.length_eq.trans hl
      by_cases c3 : i < t
      · have w6 : wr .i64 ((t : Int) - 1) = ((t - 1 : Nat) : Int) := (by rw [wr_of] <;> omega);have hlj : t < Y.length := (by omega);have hlj1 : t - 1 < Y.length := (by omega);obtain ⟨x, gx⟩ := get_of hlj;obtain ⟨y, gy⟩ := get_of hlj1;have s1 := spliceD_one (X := Y.map E.d) (i := t) (x := E.d y) (by simp; omega);have s2 := spliceD_one (X := (Y.map E.d).set t (E.d y)) (i := t - 1) (x := E.d x) (by simp; omega);have l1 : t < n := (by omega);have l2 : t - 1 < n := (by omega);have l3 : t + 1 ≤ n := (by omega);have l4 : t - 1 + 1 ≤ n := (by omega);simp [c3, w6, gx, gy, l1, l2, l3, l4, hl1, s1, s2, hbs, hp_swp gx gy, -List.map_set, -getElem?_pos];refine sem_ok ?_;have hg := swp_get hlj hlj1;refine ⟨t - 1 - i, by omega, t - 1, swp Y t (t - 1), rfl, by omega, by omega, rfl, by simp [hp], hmt.trans (Mix.swp (by omega) (by omega) (by omega)), fun p h4 => ?_, ?_, fun p h4 h5 => ?_⟩
        · rw [hg, if_neg (by omega), if_neg (by omega)]; exact hlt p (by omega)
        · rw [hg, if_pos rfl]; exact hxt
        · rw [hg, if_neg (by omega)];split
          · rename_i hp; subst hp; exact hlt _ (by omega)
          · exact hgt p (by omega) h5
      · obtain rfl : t = i := (by omega);simp;refine sem_exit (sem_run 9000 _ ?_);simp;refine sem_ret ?_;simp [M29];refine ⟨Y, rfl, hmt, fun p q u v h4 h5 h6 h7 h8 => ?_⟩;obtain ⟨y, gy⟩ := get_of (X := X) (n := m) (by omega);rw [gy] at hxt;rcases Nat.lt_trichotomy p t with cp | cp | cp
        · rw [hlt p cp] at h7;rcases Nat.lt_trichotomy q t with cq | cq | cq
          · rw [hlt q cq] at h8;exact hs1 p q u v h4 h5 (by omega) h7 h8
          · subst cq;rw [hxt] at h8; cases h8;exact hlo p v u gy h7 h4 cp
          · rw [hgt q cq (by omega)] at h8;exact hs1 p (q - 1) u v h4 (by omega) (by omega) h7 h8
        · subst cp;rw [hxt] at h7; cases h7;rw [hgt q h5 (by omega)] at h8;exact hc.anti _ _ (hG u (List.mem_of_getElem? gy)) (hG v (List.mem_of_getElem? h8)) (hhi (q - 1) u v gy h8 (by omega) (by omega))
        · rw [hgt p cp (by omega)] at h7;rw [hgt q (by omega) (by omega)] at h8;exact hs1 (p - 1) (q - 1) u v (by omega) (by omega) (by omega) h7 h8
  have w2 : wr .i64 ((a : Int) + b) = ((a + b : Nat) : Int) := (by rw [wr_of] <;> omega);have w3 := mid_of (n := a + b) (by omega);obtain ⟨md, hmd⟩ : ∃ md, md = (a + b) / 2 := ⟨_, rfl⟩;rw [← hmd] at w3;have w4 : wr .i64 ((md : Int) + m) = ((md + m : Nat) : Int) := (by rw [wr_of] <;> omega);have w5 : wr .i64 (((md + m : Nat) : Int) - 1) = ((md + m - 1 : Nat) : Int) := (by rw [wr_of] <;> omega)
  have w6 : md < m → wr .i64 (((md + m : Nat) : Int) - b) = ((md + m - b : Nat) : Int) := fun _ => by rw [wr_of] <;> omega
  obtain ⟨S, hS⟩ : ∃ S, S = if md < m then md + m - b else a := ⟨_, rfl⟩
  obtain ⟨R, hR⟩ : ∃ R, R = min m md := ⟨_, rfl⟩;simp [w2, w3, w4, -Int.natCast_add];refine sem_cut (SymJ E H bs c ex n (.func g ga gc) X a m b md S R) (sem_run 9000 _ ?_) ?_
  · simp [-Int.natCast_add];refine sem_if (fun e => ?_) fun e => ?_
    · simp [w6 e, -Int.natCast_add];refine sem_ok ?_;simp only [okQ_ok];refine ⟨?_, rfl⟩;rw [hS, hR, if_pos e, Nat.min_eq_right (by omega)]
    · simp [-Int.natCast_add];refine sem_ok ?_;simp only [okQ_ok];refine ⟨?_, rfl⟩;rw [hS, hR, if_neg e, Nat.min_eq_left (by omega)]
  rintro fr _ ⟨rfl, rfl⟩;refine sem_run 9000 _ ?_;simp [w5, -Int.natCast_add]
  have hSR : a ≤ S ∧ S ≤ R ∧ R ≤ m ∧ R ≤ md ∧ md < b ∧ a < md ∧ md + m - S ≤ b ∧ m ≤ md + m - R := by
    rw [hS, hR];split <;> omega
  refine sem_loop (SymI3 E H bs c ex n (.func g ga gc) cmp X a m b md S R) ?_ (k := R - S) ⟨S, R, rfl, by omega, by omega, by omega, rfl, rfl, fun h => by omega, fun h => by omega⟩;rintro k fr H' ⟨i, j, rfl, hSi, hij, hjR, rfl, rfl, hlo, hhi⟩;refine sem_run 9000 _ ?_;simp
  by_cases c2 : i < j
  · have v2 : wr .i64 ((i : Int) + j) = ((i + j : Nat) : Int) := (by rw [wr_of] <;> omega);have v3 := mid_of (n := i + j) (by omega);have hmid : i ≤ (i + j) / 2 ∧ (i + j) / 2 < j := (by omega);generalize (i + j) / 2 = t at v3 hmid;have v4 : wr .i64 ((t : Int) + 1) = ((t + 1 : Nat) : Int) := (by rw [wr_of] <;> omega);have v5 : wr .i64 (((md + m - 1 : Nat) : Int) - t) = ((md + m - 1 - t : Nat) : Int) := (by rw [wr_of] <;> omega);obtain ⟨x, gx⟩ := get_of (X := X) (n := t) (by omega);obtain ⟨y, gy⟩ := get_of (X := X) (n := md + m - 1 - t) (by omega);have hxm : x ∈ X := List.mem_of_getElem? gx;have hym : y ∈ X := List.mem_of_getElem? gy
    have l1 : t < n := (by omega);have l2 : md + m - 1 - t < n := (by omega);simp [c2, v2, v3, v5, gx, gy, l1, l2, hbs, -Int.natCast_add, -getElem?_pos];refine sem_dfn (hcall y x (hG y hym) (hG x hxm)) (by first | exact D.les_refl _ | simp) (sem_run 9000 _ ?_);simp
    by_cases c3 : cmp y x < 0
    · simp [c3];refine sem_ok ?_;refine ⟨t - i, by omega, i, t, rfl, hSi, by omega, by omega, rfl, rfl, hlo, fun _ u v hu hv => ?_⟩;rw [gx] at hu; rw [gy] at hv; cases hu; cases hv; exact c3
    · simp [c3, v4, -Int.natCast_add];refine sem_ok ?_;refine ⟨j - (t + 1), by omega, t + 1, j, rfl, by omega, by omega, hjR, rfl, rfl, fun _ u v hu hv => ?_, hhi⟩;rw [Nat.add_sub_cancel, gx] at hu;rw [show md + m - (t + 1) = md + m - 1 - t by omega, gy] at hv;cases hu; cases hv; exact c3
  obtain rfl : i = j := (by omega);have v6 : wr .i64 (((md + m : Nat) : Int) - i) = ((md + m - i : Nat) : Int) := (by rw [wr_of] <;> omega);simp;refine sem_exit (sem_run 11 _ ?_);simp [v6, -Int.natCast_add];obtain ⟨e, he⟩ : ∃ e, e = md + m - i := ⟨_, rfl⟩;rw [← he];refine sem_cut (SymJ2 E H bs c ex n (.func g ga gc) X a m b md i e) (sem_run 9000 _ ?_) ?_
  · simp
    by_cases d1 : i < m
    · by_cases d2 : m < e
      · simp [d1, d2];have sp := rotate L (E := E) (H := H) (c := c) (ex := ex) (X := X) (cv := .func g ga gc) hbs (by omega) d1 d2 (by omega);rw [hl] at sp;refine sem_call sp ?_;rintro _ _ ⟨rfl, Y, rfl, hp1, hr1⟩;refine sem_run 9000 _ ?_;simp;refine sem_ok ?_;exact ⟨Y, by simp, rfl, hp1, hr1⟩
      · simp [d1, d2];refine sem_ok ?_;exact ⟨X, by simp, rfl, .refl _, rot_id (.inr (by omega)) (by omega) (by omega)⟩
    · simp [d1];refine sem_ok ?_;exact ⟨X, by simp, rfl, .refl _, rot_id (.inl (by omega)) (by omega) (by omega)⟩
  rintro fr _ ⟨Y, ⟨e0, e1, e3, e4, e18, e20, e24⟩, rfl, hp1, hr1⟩;have hm1 := rot_mix hr1 hp1 (a := a) (b := b) (by omega) (by omega) (by omega) (by omega);have h4 := sym4 hc hG h1 h2 ⟨by omega, by omega⟩ (by omega) hs1 hs2 hmd hS hR hSi hjR hlo hhi (he ▸ hr1);rw [← he] at h4;have hlY : Y.length = n := hp1.length_eq.trans hl;have hGY : ∀ x, x ∈ Y → G x := fun x h => hG x (hp1.mem_iff.1 h);refine sem_run 2 _ ?_;simp;refine sem_cut (SymJ3 E H bs c ex n (.func g ga gc) cmp Y a b md e) (sem_run 9000 _ ?_) ?_
  · simp [e1, e20]
    by_cases d1 : a < i
    · by_cases d2 : i < md
      · simp [d1, d2, e0, e1, e3, e4, e18, e20, e24];refine sem_call (ih (X := Y) (by omega) hlY hGY d1 d2 (by omega) h4.s1 h4.s2) ?_;rintro _ _ ⟨rfl, Z, rfl, hm2, hz⟩;refine sem_run 9000 _ ?_;simp;refine sem_ok ?_;exact ⟨Z, by simp, rfl, hm2, hz⟩
      · simp [d1, d2, e0, e1, e3, e4, e18, e20, e24];refine sem_ok ?_;obtain rfl : i = md := (by omega);exact ⟨Y, by simp, rfl, .refl, h4.s1⟩
    · simp [d1, e0, e1, e3, e4, e18, e20, e24];refine sem_ok ?_;obtain rfl : i = a := (by omega);exact ⟨Y, by simp, rfl, .refl, h4.s2⟩
  rintro fr _ ⟨Z, ⟨e0, e3, e4, e18, e24⟩, rfl, hm2, hz⟩;have hlZ : Z.length = n := hm2.perm.length_eq.trans hlY;have hGZ : ∀ x, x ∈ Z → G x := fun x h => hGY x (hm2.perm.mem_iff.1 h);have z3 := Srt.of_out h4.s3 hm2 (.inr (Nat.le_refl _));have z4 := Srt.of_out h4.s4 hm2 (.inr (by omega));refine sem_run 9000 _ ?_;simp [e18, e24]
  by_cases d1 : md < e
  · by_cases d2 : e < b
    · simp [d1, d2, e0, e3, e4, e18, e24];refine sem_call (ih (X := Z) (by omega) hlZ hGZ d1 d2 (by omega) z3 z4) ?_;rintro _ _ ⟨rfl, W, rfl, hm3, hw3⟩;refine sem_run 9000 _ ?_;simp;refine sem_ok ?_;simp [M29];exact ⟨W, rfl, sym_end h4 hm1 ⟨by omega, by omega⟩ hm2 hz hm3 hw3⟩
    · simp [d1, d2, e0, e3, e4, e18, e24];refine sem_ok ?_;simp [M29];obtain rfl : e = b := (by omega);exact ⟨Z, rfl, sym_end h4 hm1 ⟨by omega, by omega⟩ hm2 hz .refl z3⟩
  · simp [d1, e0, e3, e4, e18, e24];refine sem_ok ?_;simp [M29];obtain rfl : e = md := (by omega);exact ⟨Z, rfl, sym_end h4 hm1 ⟨by omega, by omega⟩ hm2 hz .refl z4⟩
end Go.Lib
end

section
set_option maxRecDepth 10000
namespace Go.Lib
open Go.Vm Go.Dv Go.Srt
variable {p : Prog} {ext : Ext} {F : Nat → Nat} {α : Type}
theorem dvd_step {d c a : Nat} (h1 : d ∣ c) (h2 : d ∣ a) (h : c < a) : c + d ≤ a := by
  have := Nat.le_of_dvd (show 0 < a - c by omega) (Nat.dvd_sub h2 h1);omega
def Blk (cmp : α → α → Int) (Y : List α) (z lo n : Nat) : Prop := ∀ a, lo ≤ a → z ∣ a → Srt cmp Y a (min (a + z) n)
def Blb (cmp : α → α → Int) (Y : List α) (z hi : Nat) : Prop := ∀ a, a < hi → z ∣ a → Srt cmp Y a (a + z)
def StI1 (E : Enc α) (H : HpD) (bs c : Nat) (ex : Bool) (n : Nat) (cv : D) (cmp : α → α → Int) (X : List α) (k : Nat) (fr : FrD) (H' : HpD) : Prop :=
  ∃ (a : Nat) (Y : List α), k = n - a ∧ a ≤ n ∧ 20 ∣ a ∧ fr = [(0, sl bs n c ex), (1, iD n), (2, cv), (6, iD 20), (7, iD a), (8, iD (a + 20))] ∧ H' = hp E H bs Y ∧ Y.Perm X ∧ Blb cmp Y 20 a
def StI2 (E : Enc α) (H : HpD) (bs c : Nat) (ex : Bool) (n : Nat) (cv : D) (cmp : α → α → Int) (X : List α) (k : Nat) (fr : FrD) (H' : HpD) : Prop :=
  ∃ (z : Nat) (Y : List α), k = 2 * n + 40 - z ∧ 20 ≤ z ∧ z ≤ 2 * n + 20 ∧ fr = [(0, sl bs n c ex), (1, iD n), (2, cv), (6, iD z)] ∧ H' = hp E H bs Y ∧ Y.Perm X ∧ Blk cmp Y z 0 n
def StI3 (E : Enc α) (H : HpD) (bs c : Nat) (ex : Bool) (n : Nat) (cv : D) (cmp : α → α → Int) (X : List α) (z k : Nat) (fr : FrD) (H' : HpD) : Prop :=
  ∃ (a : Nat) (Y : List α), k = n - a ∧ a ≤ n ∧ 2 * z ∣ a ∧ fr = [(0, sl bs n c ex), (1, iD n), (2, cv), (6, iD z), (7, iD a), (8, iD (a + 2 * z))] ∧ H' = hp E H bs Y ∧ Y.Perm X ∧ Blb cmp Y (2 * z) a ∧ Blk cmp Y z a n
set_option maxHeartbeats 2000000 in
theorem stable (L : HSrt p ext F) {E : Enc α} {H : HpD} {bs c : Nat} {ex : Bool} {X : List α} {cv : D} {n : Nat} {G : α → Prop} {cmp : α → α → Int} (hc : Cmp p ext E G cv cmp) (hbs : bs < H.next) (hX : X.length = n) (hn : n < 1000000) (hG : ∀ x, x ∈ X → G x) : WcD p ext (F 27) [sl bs n c ex, iD n, cv] (hp E H bs X) (fun d H' => d = .tup [] ∧ ∃ X', H' = hp E H bs X' ∧ X'.Perm X ∧ Srt cmp X' 0 n) := by
  refine wc_of L.h27 (M := M27) rfl ok27 rfl (sem_run 9000 _ ?_);simp;refine sem_loop (StI1 E H bs c ex n cv cmp X) ?_ (k := n) ⟨0, X, by simp, by omega, ⟨0, rfl⟩, by simp, rfl, .refl _, fun a h => by omega⟩;rintro k fr H' ⟨a, Y, rfl, ha, hda, rfl, rfl, hp1, hb1⟩;refine sem_run 9000 _ ?_;simp;have hlY : Y.length = n := hp1.length_eq.trans hX;have hGY : ∀ x, x ∈ Y → G x := fun x h => hG x (hp1.mem_iff.1 h)
  by_cases c1 : a + 20 ≤ n
  · have c1' : (a : Int) + 20 ≤ n := (by omega);have w1 : wr .i64 ((a : Int) + 20 + 20) = ((a + 20 + 20 : Nat) : Int) := (by rw [wr_of] <;> omega);simp [c1'];have sp := insertion L (X := Y) (c := c) (ex := ex) hc hbs (by omega) hGY (a := a) (b := a + 20) (by omega) (by omega);rw [hlY] at sp;refine sem_call (by simpa [iD] using sp) ?_;rintro _ _ ⟨rfl, Z, rfl, hm, hz⟩;refine sem_run 9000 _ ?_;simp [w1];refine sem_ok ?_;refine ⟨n - (a + 20), by omega, a + 20, Z, rfl, c1, (Nat.dvd_add_right hda).2 ⟨1, rfl⟩, by simp, rfl, hm.perm.trans hp1, fun q h1 h2 => ?_⟩
    by_cases e : q < a
    · exact Srt.of_out (hb1 q e h2) hm (.inl (dvd_step h2 hda e))
    · by_cases e2 : q = a
      · subst e2; exact hz
      · have := dvd_step hda h2 (by omega); omega
  · have c1' : ¬ (a : Int) + 20 ≤ n := (by omega);simp [c1'];refine sem_exit (sem_run 9000 _ ?_);simp;have sp := insertion L (X := Y) (c := c) (ex := ex) hc hbs (by omega) hGY (a := a) (b := n) (by omega) (by omega);rw [hlY] at sp;refine sem_call sp ?_;rintro _ _ ⟨rfl, Z, rfl, hm, hz⟩;refine sem_run 9000 _ ?_;simp
    have hb2 : Blk cmp Z 20 0 n := fun q _ h2 => by
      by_cases e : q < a
      · exact (Srt.of_out (hb1 q e h2) hm (.inl (dvd_step h2 hda e))).mono (Nat.le_refl _) (by omega)
      · by_cases e2 : q = a
        · subst e2; exact hz.mono (Nat.le_refl _) (by omega)
        · intro p' q' x y k1 k2 k3;have := dvd_step hda h2 (by omega); omega
    refine sem_loop (StI2 E H bs c ex n cv cmp X) ?_ (k := 2 * n + 40 - 20) ⟨20, Z, rfl, by omega, by omega, rfl, rfl, hm.perm.trans hp1, hb2⟩;rintro k fr H' ⟨z, Y, rfl, hz1, hz2, rfl, rfl, hp2, hb3⟩;refine sem_run 9000 _ ?_;simp
    by_cases c2 : z < n
    · have w2 : wr .i64 (2 * (z : Int)) = ((2 * z : Nat) : Int) := (by rw [wr_of] <;> omega);have w3 : wr .i64 ((z : Int) * 2) = ((2 * z : Nat) : Int) := (by rw [wr_of] <;> omega);simp [c2, w2, -Int.natCast_mul];refine sem_loop (StI3 E H bs c ex n cv cmp X z) ?_ (k := n) ⟨0, Y, by simp, by omega, ⟨0, by simp⟩, by simp, rfl, hp2, fun a h => by omega, hb3⟩;rintro k fr H' ⟨a, Y, rfl, ha, hda, rfl, rfl, hp1, hb1, hb2⟩;refine sem_run 9000 _ ?_;simp;have hlY : Y.length = n := hp1.length_eq.trans hX;have hGY : ∀ x, x ∈ Y → G x := fun x h => hG x (hp1.mem_iff.1 h);have hdz : z ∣ a := Nat.dvd_trans ⟨2, by omega⟩ hda
      have w4 : wr .i64 ((a : Int) + z) = ((a + z : Nat) : Int) := by rw [wr_of] <;> omega
      by_cases c3 : a + 2 * z ≤ n
      · have c3' : (a : Int) + 2 * (z : Int) ≤ n := (by omega);have w1 : wr .i64 ((a : Int) + 2 * (z : Int) + 2 * (z : Int)) = ((a + 2 * z + 2 * z : Nat) : Int) := (by rw [wr_of] <;> omega);have w1' : wr .i64 (((a + 2 * z : Nat) : Int) + ((2 * z : Nat) : Int)) = ((a + 2 * z + 2 * z : Nat) : Int) := (by rw [wr_of] <;> omega);have w5 : wr .i64 (2 * (z : Int)) = 2 * (z : Int) := (by rw [wr_of] <;> omega);simp [c3', w4];have sp := symMerge L (X := Y) (c := c) (ex := ex) hc hbs hn n (a := a) (m := a + z) (b := a + 2 * z) (by omega) hlY hGY (by omega) (by omega) c3 ((hb2 a (Nat.le_refl _) hdz).mono (Nat.le_refl _) (by omega)) ((hb2 (a + z) (by omega) ((Nat.dvd_add_right hdz).2 ⟨1, by omega⟩)).mono (Nat.le_refl _) (by omega));refine sem_call (by simpa [iD] using sp) ?_;rintro _ _ ⟨rfl, Z, rfl, hm, hz⟩;refine sem_run 9000 _ ?_;simp [w1, w5];refine sem_ok ?_;refine ⟨n - (a + 2 * z), by omega, a + 2 * z, Z, rfl, c3, (Nat.dvd_add_right hda).2 ⟨1, by omega⟩, by simp, rfl, hm.perm.trans hp1, fun q h1 h2 => ?_, fun q h1 h2 => ?_⟩
        · by_cases e : q < a
          · exact Srt.of_out (hb1 q e h2) hm (.inl (dvd_step h2 hda e))
          · by_cases e2 : q = a
            · subst e2; exact hz
            · have := dvd_step hda h2 (by omega); omega
        · exact Srt.of_out (hb2 q (by omega) h2) hm (.inr h1)
      · have c3' : ¬ (a : Int) + 2 * (z : Int) ≤ n := (by omega);simp [c3'];refine sem_exit (sem_run 9000 _ ?_);simp [w4]
        have fin : ∀ Z : List α, Mix Y Z a n → Srt cmp Z a n → Blk cmp Z (2 * z) 0 n := fun Z hm hz q _ h2 => by
          by_cases e : q < a
          · exact (Srt.of_out (hb1 q e h2) hm (.inl (dvd_step h2 hda e))).mono (Nat.le_refl _) (by omega)
          · by_cases e2 : q = a
            · subst e2; exact hz.mono (Nat.le_refl _) (by omega)
            · intro p' q' x y k1 k2 k3;have := dvd_step hda h2 (by omega); omega
        by_cases c4 : a + z < n
        · have c4' : (a : Int) + (z : Int) < n := (by omega);simp [c4'];have sp := symMerge L (X := Y) (c := c) (ex := ex) hc hbs hn n (a := a) (m := a + z) (b := n) (by omega) hlY hGY (by omega) (by omega) (Nat.le_refl _) ((hb2 a (Nat.le_refl _) hdz).mono (Nat.le_refl _) (by omega)) ((hb2 (a + z) (by omega) ((Nat.dvd_add_right hdz).2 ⟨1, by omega⟩)).mono (Nat.le_refl _) (by omega));refine sem_call (by simpa [iD] using sp) ?_;rintro _ _ ⟨rfl, Z, rfl, hm, hz⟩;refine sem_run 9000 _ ?_;simp [w3];refine sem_ok ?_;exact ⟨2 * n + 40 - 2 * z, by omega, 2 * z, Z, rfl, by omega, by omega, by simp, rfl, hm.perm.trans hp1, fin Z hm hz⟩
        · have c4' : ¬ (a : Int) + (z : Int) < n := (by omega);simp [c4', w3];refine sem_ok ?_;exact ⟨2 * n + 40 - 2 * z, by omega, 2 * z, Y, rfl, by omega, by omega, by simp, rfl, hp1, fin Y .refl ((hb2 a (Nat.le_refl _) hdz).mono (Nat.le_refl _) (by omega))⟩
    · simp [c2];refine sem_exit (sem_run 9000 _ ?_);simp;refine sem_ok ?_;simp [M27];refine ⟨Y, rfl, hp2, ?_⟩;have := hb3 0 (Nat.le_refl _) ⟨0, by simp⟩
      rwa [Nat.min_eq_right (by omega)] at this
theorem sortStable (L : HSrt p ext F) {E : Enc α} {H : HpD} {bs c : Nat} {ex : Bool} {X : List α} {cv : D} {n : Nat} {G : α → Prop} {cmp : α → α → Int} (hc : Cmp p ext E G cv cmp) (hbs : bs < H.next) (hX : X.length = n) (hn : n < 1000000) (hG : ∀ x, x ∈ X → G x) : WcD p ext (F 26) [sl bs n c ex, cv] (hp E H bs X) (fun d H' => d = .tup [] ∧ ∃ X', H' = hp E H bs X' ∧ X'.Perm X ∧ Srt cmp X' 0 n) := by
  refine wc_of L.h26 (M := M26) rfl ok26 rfl (sem_run 9000 _ ?_);simp;refine sem_call (stable L hc hbs hX hn hG) ?_;rintro _ _ ⟨rfl, Z, rfl, h1, h2⟩;refine sem_run 9000 _ ?_;simp;refine sem_ok ?_;simp [M26];exact ⟨Z, rfl, h1, h2⟩
end Go.Lib
end

section
set_option maxRecDepth 10000
namespace Go.Lib
open Go.Vm Go.Dv Go.Srt
variable {p : Prog} {ext : Ext} {F : Nat → Nat}
structure HAggr (p : Prog) (ext : Ext) (F : Nat → Nat) : Prop where
  srt : HSrt p ext F
  schm : HSchm p ext F
  h32 : Has p ext F 32 M32
  h33 : Has p ext F 33 M33
  h34 : Has p ext F 34 M34
  h35 : Has p ext F 35 M35
  h36 : Has p ext F 36 M36
  h37 : Has p ext F 37 M37
  h38 : Has p ext F 38 M38
  h39 : Has p ext F 39 M39
  h40 : Has p ext F 40 M40
  h41 : Has p ext F 41 M41
  h42 : Has p ext F 42 M42
  h43 : Has p ext F 43 M43
  h44 : Has p ext F 44 M44
theorem slc_own {sz b n : Nat} {ex : Bool} : slcD sz (.slice b 0 sz n n ex) none (some (.lit (.int .i64 (n : Int)))) (some (.lit (.int .i64 (n : Int)))) = some (.slice b 0 sz n n true) := by
  simp [slcD, bndD, slcV, sliceO, needH, boundM, boundH, boundL, ble_d]
theorem slc_nil {sz : Nat} : slcD sz (.lit .nilslice) none (some (.lit (.int .i64 0))) (some (.lit (.int .i64 0))) = some (.lit .nilslice) := rfl
theorem clip_own (L : HAggr p ext F) {H0 H : HpD} {s : D} {el : List (List D)} (g : Gr H0 H 1 s el) : WcD p ext (F 39) [s] H (fun d H' => Gr H0 H' 1 d el) := by
  refine wc_of L.h39 (M := M39) rfl ok39 rfl (sem_run 9000 _ ?_);rcases g.at_ with ⟨rfl, rfl⟩ | ⟨b, ex, el0, rfl, h1, h2, h3, h4⟩
  · simp [slc_nil];refine sem_ret ?_;simp [M39];exact g
  · simp [slc_own];refine sem_ret ?_;simp [M39];exact ⟨g.sub, g.len, .inr ⟨b, true, el0, rfl, h1, h2, h3, h4⟩⟩
def StillI (H0 : HpD) (l : List Row) (k : Nat) (fr : FrD) (H : HpD) : Prop :=
  ∃ (i : Nat) (s : D), k = l.length - i ∧ i ≤ l.length ∧ fr = [(3, s), (6, rowsD l), (7, .lit (.int .i64 (l.length : Int))), (8, .lit (.int .i64 (i : Int)))] ∧ Gr H0 H 1 s (rowsE (l.take i))
def Fine (l : List Row) : Prop := l.length < 1000000 ∧ ∀ r, r ∈ l → r.length < 1000000
theorem still_own (L : HAggr p ext F) {l : List Row} {H : HpD} (hl : Fine l) : WcD p ext (F 37) [rowsD l] H (fun d H' => Gr H H' 1 d (rowsE l)) := by
  refine wc_of L.h37 (M := M37) rfl ok37 rfl (sem_run 9000 _ ?_);simp;refine sem_loop (StillI H l) ?_ (k := l.length) ⟨0, .lit .nilslice, by simp, by simp, rfl, by simpa [rowsE] using Gr.start⟩;rintro k fr H' ⟨i, s, rfl, hi, rfl, g⟩;refine sem_run 9000 _ ?_;simp;have hl1 := hl.1
  by_cases c : i < l.length
  · have hx : l[i]? = some l[i] := (by simp);have hr := hl.2 l[i] (by simp);simp [c];refine sem_fn (schm_row L.schm hr) (by first | exact D.les_refl _ | simp) (sem_run 9000 _ ?_);simp;refine sem_push (g.mono (by repeat (first | exact Sub.refl | apply Sub.new | refine Sub.put ?_ (by first | omega | (simp only [put_next, new_next]; omega))))) rfl rfl (roomyD (by simp; omega) (by simp; omega)) fun s' H1 g1 _ _ => ?_;simp;refine sem_ok ?_;have hw : wr .i64 ((i : Int) + 1) = ((i + 1 : Nat) : Int) := (by rw [wr_of] <;> omega);rw [rowsE_snoc hx] at g1;exact ⟨_, by omega, i + 1, s', rfl, by omega, by rw [hw], g1⟩
  · simp [c];refine sem_exit (sem_run 9000 _ ?_);have : i = l.length := (by omega);subst this;rw [List.take_length] at g;simp;refine sem_call (clip_own L g) fun d H2 g2 => ?_;refine sem_run 9000 _ ?_;simp;refine sem_ret ?_;simp [M37];exact g2
def rowEnc : Enc Row := ⟨rowD, fun _ => rfl, fun _ => rfl⟩
theorem rowsE_flat {l : List Row} : (rowsE l).flatten = l.map rowEnc.d := by
  induction l with
  | nil => rfl
  | cons r l ih => simp only [rowsE, List.map_cons, List.flatten_cons] at ih ⊢; rw [ih]; rfl
def NilI (fr0 : FrD) (H0 : HpD) (k : Nat) (fr : FrD) (H : HpD) : Prop := k = 0 ∧ fr = fr0 ∧ H = H0
theorem insertion_nil (L : HSrt p ext F) {H : HpD} {cv : D} : WcD p ext (F 28) [.lit .nilslice, .lit (.int .i64 0), .lit (.int .i64 0), cv] H (fun d H' => d = .tup [] ∧ H' = H) := by
  refine wc_of L.h28 (M := M28) rfl ok28 rfl (sem_run 9000 _ ?_);simp;refine sem_loop (NilI [(0, .lit .nilslice), (1, .lit (.int .i64 0)), (2, .lit (.int .i64 0)), (3, cv), (8, .lit (.int .i64 1))] H) ?_ (k := 0) ⟨rfl, rfl, rfl⟩;rintro k fr H' ⟨rfl, rfl, rfl⟩;refine sem_run 9000 _ ?_;simp;refine sem_exit (sem_run 9000 _ ?_);simp;refine sem_ok ?_;simp [M28]
theorem stable_nil (L : HSrt p ext F) {H : HpD} {cv : D} : WcD p ext (F 27) [.lit .nilslice, .lit (.int .i64 0), cv] H (fun d H' => d = .tup [] ∧ H' = H) := by
  refine wc_of L.h27 (M := M27) rfl ok27 rfl (sem_run 9000 _ ?_);simp;refine sem_loop (NilI [(0, .lit .nilslice), (1, .lit (.int .i64 0)), (2, cv), (6, .lit (.int .i64 20)), (7, .lit (.int .i64 0)), (8, .lit (.int .i64 20))] H) ?_ (k := 0) ⟨rfl, rfl, rfl⟩;rintro k fr H' ⟨rfl, rfl, rfl⟩;refine sem_run 9000 _ ?_;simp;refine sem_exit (sem_run 9000 _ ?_);simp;refine sem_call (insertion_nil L) ?_;rintro _ _ ⟨rfl, rfl⟩;refine sem_run 9000 _ ?_;simp;refine sem_loop (NilI [(0, .lit .nilslice), (1, .lit (.int .i64 0)), (2, cv), (6, .lit (.int .i64 20))] _) ?_ (k := 0) ⟨rfl, rfl, rfl⟩;rintro k fr H' ⟨rfl, rfl, rfl⟩
  refine sem_run 9000 _ ?_;simp;refine sem_exit (sem_run 9000 _ ?_);simp;refine sem_ok ?_;simp [M27]
theorem sortStable_nil (L : HSrt p ext F) {H : HpD} {cv : D} : WcD p ext (F 26) [.lit .nilslice, cv] H (fun d H' => d = .tup [] ∧ H' = H) := by
  refine wc_of L.h26 (M := M26) rfl ok26 rfl (sem_run 9000 _ ?_);simp;refine sem_call (stable_nil L) ?_;rintro _ _ ⟨rfl, rfl⟩;refine sem_run 9000 _ ?_;simp;refine sem_ok ?_;simp [M26]
theorem sort_own (L : HAggr p ext F) {H0 H : HpD} {s : D} {l : List Row} {cv : D} {G : Row → Prop} {cmp : Row → Row → Int} (hc : Cmp p ext rowEnc G cv cmp) (hl : l.length < 1000000) (hG : ∀ r, r ∈ l → G r) (g : GrX H0 H 1 s (rowsE l)) :
    WcD p ext (F 26) [s, cv] H (fun d H' => d = .tup [] ∧ ∃ l', Gr H0 H' 1 s (rowsE l') ∧ l'.Perm l ∧ Srt cmp l' 0 l.length) := by
  rcases g.at_ with ⟨rfl, h⟩ | ⟨b, ex, rfl, h1, h2, h3⟩
  · have : l = [] := (by simpa [rowsE] using h);subst this;refine (sortStable_nil L.srt).mono ?_;rintro d H' ⟨rfl, rfl⟩;exact ⟨rfl, [], g.gr, .refl _, fun p q x y h1 h2 h3 => by simp at h3⟩
  · rw [rowsE_flat] at h3;have sp := sortStable L.srt (E := rowEnc) (H := H) (bs := b) (c := l.length) (ex := ex) (X := l) (n := l.length) hc h2 rfl hl hG;rw [hp_self h3] at sp;rw [rows_len];refine sp.mono ?_;rintro d H' ⟨rfl, l', rfl, hp1, hs⟩;refine ⟨rfl, l', ⟨g.gr.sub.put h1, by simpa using rows_one, .inr ⟨b, ex, rowsE l', ?_, h1, h2, ?_, D.less_refl _⟩⟩, hp1, hs⟩
    · rw [rows_len, hp1.length_eq]
    · rw [rowsE_flat]; simp
def cmpR (a b : Row) : Int := cmpRow cmpV a b
theorem cmpR_ok (L : HAggr p ext F) {ks : List Int} : Cmp p ext rowEnc (fun r => Kin ks r ∧ r.length < 1000000) (.func (F 2) [] []) cmpR :=
  ⟨⟨F 2, [], [], rfl, fun x y hx _ => by simpa [rowEnc, cmpR] using schm_rows L.schm hx.2⟩, fun x y hx hy => cmpRow_ord.anti x y hx.1 hy.1, fun x y z hx hy hz => cmpRow_ord.trans x y z hx.1 hy.1 hz.1⟩
theorem aggr_sort_own (L : HAggr p ext F) {l : List Row} {ks : List Int} {H : HpD} (hl : Fine l) (hks : ∀ r, r ∈ l → Kin ks r) : WcD p ext (F 33) [rowsD l] H (fun d H' => ∃ l', Gr H H' 1 d (rowsE l') ∧ l'.Perm l ∧ Srt cmpR l' 0 l.length) := by
  refine wc_of L.h33 (M := M33) rfl ok33 rfl (sem_run 9000 _ ?_);simp;refine sem_call (still_own L hl) fun d H1 g1 => ?_;refine sem_run 9000 _ ?_;simp;refine sem_exact_call g1 fun H2 g2 _ _ => ?_;refine sem_call (sort_own L (cmpR_ok L) hl.1 (fun r hr => ⟨hks r hr, hl.2 r hr⟩) g2) ?_;rintro _ H3 ⟨rfl, l', g3, hp1, hs⟩;refine sem_run 9000 _ ?_;simp;refine sem_ret ?_;simp [M33];exact ⟨l', g3, hp1, hs⟩
end Go.Lib
end

section
set_option maxRecDepth 10000
namespace Go.Lib
open Go.Vm Go.Dv
variable {p : Prog} {ext : Ext} {F : Nat → Nat}
theorem max2_int {tab : Tab} {a b : Int} : foldD (max2V tab) [.lit (.int .i64 a), .lit (.int .i64 b)] = some (.lit (.int .i64 (max a b))) := by
  show litO (some (V.int .i64 (cond (ilt a b) b a))) = _;rw [ilt_d]
  by_cases h : a < b
  · simp only [h, decide_true, cond_true, litO_int]; rw [Int.max_def, if_pos (by omega)]
  · simp only [h, decide_false, cond_false, litO_int];rw [Int.max_def]; split
    · rw [show a = b by omega]
    · rfl
theorem min2_int {tab : Tab} {a b : Int} : foldD (min2V tab) [.lit (.int .i64 a), .lit (.int .i64 b)] = some (.lit (.int .i64 (min a b))) := by
  show litO (some (V.int .i64 (cond (ilt b a) b a))) = _;rw [ilt_d]
  by_cases h : b < a
  · simp only [h, decide_true, cond_true, litO_int];rw [Int.min_def, if_neg (by omega)]
  · simp only [h, decide_false, cond_false, litO_int];rw [Int.min_def, if_pos (by omega)]
attribute [simp] max2_int min2_int
theorem ref6_sameVal (L : HRef6 p ext F) {a b : Vl} : FnD p ext (F 50) [.agg a.c, .agg b.c] (.lit (.bool (decide (a = b)))) := by
  refine fn_of L.h50 (M := M50) rfl ok50 rfl fun H => sem_run 9000 _ ?_;simp
  by_cases h1 : a.null = b.null
  · by_cases h2 : a.kind = b.kind
    · by_cases h3 : a.n = b.n
      · by_cases h4 : a.bytes = b.bytes
        · simp [h1, h2, h3, h4];refine sem_ret ?_;simp [M50, vl_ext, h1, h2, h3, h4];exact .same (by simp)
        · simp [h1, h2, h3, h4];refine sem_ret ?_;simp [M50, vl_ext, h4];exact .same (by simp)
      · simp [h1, h2, h3];refine sem_ret ?_;simp [M50, vl_ext, h3];exact .same (by simp)
    · simp [h1, h2];refine sem_ret ?_;simp [M50, vl_ext, h2];exact .same (by simp)
  · simp [h1];refine sem_ret ?_;simp [M50, vl_ext, h1];exact .same (by simp)
def Same6I {α : Type} [DecidableEq α] (f : List α → D) (x y : List α) (H0 : HpD) (k : Nat) (fr : FrD) (H : HpD) : Prop :=
  ∃ i : Nat, k = x.length - i ∧ i ≤ x.length ∧ decide (x = y) = decide (x.drop i = y.drop i) ∧ fr = [(0, f x), (1, f y), (5, .lit (.int .i64 (i : Int)))] ∧ Sub H0 H
theorem ref6_sameRow (L : HRef6 p ext F) {x y : Row} (hx : x.length < 1000000) : FnD p ext (F 49) [rowD x, rowD y] (.lit (.bool (decide (x = y)))) := by
  refine fn_of L.h49 (M := M49) rfl ok49 rfl fun H => sem_run 9000 _ ?_;simp
  by_cases hl : x.length = y.length
  · simp [hl];refine sem_loop (Same6I rowD x y H) ?_ (k := x.length) ⟨0, by simp, by simp, by simp, rfl, .refl⟩;rintro k fr H' ⟨i, rfl, hi, hc, rfl, hs⟩;refine sem_run 9000 _ ?_;simp
    by_cases c : i < x.length
    · have c3 : i < y.length := (by omega);simp [c, c3];refine sem_dfn (ref6_sameVal L (a := x[i]) (b := y[i])) (by first | exact D.les_refl _ | simp) (sem_run 9000 _ ?_);simp;rw [List.drop_eq_getElem_cons c, List.drop_eq_getElem_cons c3] at hc
      by_cases c4 : x[i] = y[i]
      · simp [c4];refine sem_ok ?_;have hw : wr .i64 ((i : Int) + 1) = ((i + 1 : Nat) : Int) := (by rw [wr_of] <;> omega);exact ⟨_, by omega, i + 1, rfl, by omega, by rw [hc]; simp only [c4, List.cons.injEq, true_and], by rw [hw], (by have := hs.next; repeat (first | exact hs | apply Sub.new | refine Sub.put ?_ (by first | omega | (simp only [put_next, new_next]; omega))))⟩
      · simp [c4];refine sem_ret ?_;simp;refine sem_ret ?_;simp [M49];exact .le (by have := hs.next; repeat (first | exact hs | apply Sub.new | refine Sub.put ?_ (by first | omega | (simp only [put_next, new_next]; omega)))) (by rw [hc]; simp only [c4, List.cons.injEq, false_and, decide_false, D.le_refl]) trivial
    · simp [c];refine sem_exit (sem_run 9000 _ ?_);simp;refine sem_ret ?_;simp [M49];rw [hc, List.drop_eq_nil_of_le (by omega : x.length ≤ i), List.drop_eq_nil_of_le (by omega : y.length ≤ i)];exact .le (by have := hs.next; repeat (first | exact hs | apply Sub.new | refine Sub.put ?_ (by first | omega | (simp only [put_next, new_next]; omega)))) (by simp) trivial
  · have hl' : ¬ (x.length : Int) = y.length := (by omega);have hne : ¬ x = y := fun e => hl (by rw [e]);simp [hl'];refine sem_ret ?_;simp [M49];exact .le .refl (by simp [hne]) trivial
theorem ref6_same (L : HRef6 p ext F) {x y : List Row} (hx : Fine x) : FnD p ext (F 48) [rowsD x, rowsD y] (.lit (.bool (decide (x = y)))) := by
  refine fn_of L.h48 (M := M48) rfl ok48 rfl fun H => sem_run 9000 _ ?_;simp;have hx1 := hx.1
  by_cases hl : x.length = y.length
  · simp [hl];refine sem_loop (Same6I rowsD x y H) ?_ (k := x.length) ⟨0, by simp, by simp, by simp, rfl, .refl⟩;rintro k fr H' ⟨i, rfl, hi, hc, rfl, hs⟩;refine sem_run 9000 _ ?_;simp
    by_cases c : i < x.length
    · have c3 : i < y.length := (by omega);simp [c, c3];refine sem_dfn (ref6_sameRow L (x := x[i]) (y := y[i]) (hx.2 _ (by simp))) (by first | exact D.les_refl _ | simp) (sem_run 9000 _ ?_);simp;rw [List.drop_eq_getElem_cons c, List.drop_eq_getElem_cons c3] at hc
      by_cases c4 : x[i] = y[i]
      · simp [c4];refine sem_ok ?_;have hw : wr .i64 ((i : Int) + 1) = ((i + 1 : Nat) : Int) := (by rw [wr_of] <;> omega);exact ⟨_, by omega, i + 1, rfl, by omega, by rw [hc]; simp only [c4, List.cons.injEq, true_and], by rw [hw], (by have := hs.next; repeat (first | exact hs | apply Sub.new | refine Sub.put ?_ (by first | omega | (simp only [put_next, new_next]; omega))))⟩
      · simp [c4];refine sem_ret ?_;simp;refine sem_ret ?_;simp [M48];exact .le (by have := hs.next; repeat (first | exact hs | apply Sub.new | refine Sub.put ?_ (by first | omega | (simp only [put_next, new_next]; omega)))) (by rw [hc]; simp only [c4, List.cons.injEq, false_and, decide_false, D.le_refl]) trivial
    · simp [c];refine sem_exit (sem_run 9000 _ ?_);simp;refine sem_ret ?_;simp [M48];rw [hc, List.drop_eq_nil_of_le (by omega : x.length ≤ i), List.drop_eq_nil_of_le (by omega : y.length ≤ i)];exact .le (by have := hs.next; repeat (first | exact hs | apply Sub.new | refine Sub.put ?_ (by first | omega | (simp only [put_next, new_next]; omega)))) (by simp) trivial
  · have hl' : ¬ (x.length : Int) = y.length := (by omega);have hne : ¬ x = y := fun e => hl (by rw [e]);simp [hl'];refine sem_ret ?_;simp [M48];exact .le .refl (by simp [hne]) trivial
theorem ref6_rows (L : HRef6 p ext F) {x y : Row} (hx : x.length < 1000000) (hy : y.length < 1000000) : FnD p ext (F 47) [rowD x, rowD y] (.lit (.int .i64 (cmpRow cmpV x y))) := by
  refine fn_of L.h47 (M := M47) rfl ok47 rfl fun H => sem_run 9000 _ ?_;simp;refine sem_loop (fun k fr H' => ∃ i : Nat, k = x.length - i ∧ i ≤ x.length ∧ i ≤ y.length ∧ cmpRow cmpV x y = cmpRow cmpV (x.drop i) (y.drop i) ∧ fr = [(0, rowD x), (1, rowD y), (5, .lit (.int .i64 (i : Int)))] ∧ Sub H H') ?_ (k := x.length) ⟨0, by simp, by simp, by simp, by simp, rfl, .refl⟩;rintro k fr H' ⟨i, rfl, hi, hi2, hc, rfl, hs⟩;refine sem_run 9000 _ ?_;simp
  by_cases c : i < x.length ∧ i < y.length
  · obtain ⟨c, c3⟩ := c;simp [c, c3];refine sem_dfn (ref6_compare L (a := x[i]) (b := y[i])) (by first | exact D.les_refl _ | simp) (sem_run 9000 _ ?_);simp;rw [List.drop_eq_getElem_cons c, List.drop_eq_getElem_cons c3] at hc
    by_cases c4 : cmpV x[i] y[i] = 0
    · simp [c4];refine sem_ok ?_;have hw : wr .i64 ((i : Int) + 1) = ((i + 1 : Nat) : Int) := (by rw [wr_of] <;> omega);exact ⟨_, by omega, i + 1, rfl, by omega, by omega, by rw [hc]; simp only [cmpRow, c4]; rfl, by rw [hw], (by have := hs.next; repeat (first | exact hs | apply Sub.new | refine Sub.put ?_ (by first | omega | (simp only [put_next, new_next]; omega))))⟩
    · simp [c4];refine sem_ret ?_;simp;refine sem_ret ?_;simp [M47];exact .le (by have := hs.next; repeat (first | exact hs | apply Sub.new | refine Sub.put ?_ (by first | omega | (simp only [put_next, new_next]; omega)))) (by rw [hc]; simp [cmpRow, c4]) trivial
  · have w : wr .i64 ((x.length : Int) - y.length) = (x.length : Int) - y.length := by rw [wr_of] <;> omega
    have e : cmpRow cmpV (x.drop i) (y.drop i) = min (max ((x.length : Int) - y.length) (-1)) 1 := by
      rcases Nat.lt_trichotomy x.length y.length with h | h | h
      · rw [List.drop_eq_nil_of_le (show x.length ≤ i by omega), List.drop_eq_getElem_cons (show i < y.length by omega)];simp only [cmpRow]; omega
      · rw [List.drop_eq_nil_of_le (show x.length ≤ i by omega), List.drop_eq_nil_of_le (show y.length ≤ i by omega)];simp only [cmpRow]; omega
      · rw [List.drop_eq_nil_of_le (show y.length ≤ i by omega), List.drop_eq_getElem_cons (show i < x.length by omega)];simp only [cmpRow]; omega
    by_cases c1 : i < x.length
    · have c2 : ¬ i < y.length := fun h => c ⟨c1, h⟩;simp [c1, c2];refine sem_exit (sem_run 9000 _ ?_);simp [w];refine sem_ret ?_;simp [M47];exact .le (by have := hs.next; repeat (first | exact hs | apply Sub.new | refine Sub.put ?_ (by first | omega | (simp only [put_next, new_next]; omega)))) (by rw [hc, e]; simp) trivial
    · simp [c1];refine sem_exit (sem_run 9000 _ ?_);simp [w];refine sem_ret ?_;simp [M47];exact .le (by have := hs.next; repeat (first | exact hs | apply Sub.new | refine Sub.put ?_ (by first | omega | (simp only [put_next, new_next]; omega)))) (by rw [hc, e]; simp) trivial
end Go.Lib
end

section
set_option maxRecDepth 10000
namespace Go.Lib
open Go.Vm Go.Dv Go.Srt
variable {p : Prog} {ext : Ext} {F : Nat → Nat}
theorem add64_ext (hx : ∀ args h, ext (F 45) args h = extV .add64 args h) {x y : Nat} : FnD p ext (F 45) [.lit (.int .u64 (x : Int)), .lit (.int .u64 (y : Int)), .lit (.int .u64 0)] (.tup [.lit (.int .u64 (((x + y) % 18446744073709551616 : Nat) : Int)), .lit (.int .u64 (((x + y) / 18446744073709551616 : Nat) : Int))]) := by
  intro H ψ S h vs s k;simp only [VDl, VD, atomV] at k;obtain ⟨v, r, rfl, ⟨rfl, -⟩, w, r2, rfl, ⟨rfl, -⟩, u, r3, rfl, ⟨rfl, -⟩, rfl⟩ := k;refine wpc_ext (v := .tup [.int .u64 (((x + y) % 18446744073709551616 : Nat) : Int), .int .u64 (((x + y) / 18446744073709551616 : Nat) : Int)]) (h' := h) ?_ ⟨ψ, S, _, H, .refl, s, ?_, rfl, rfl⟩
  · rw [hx]; rfl
  · simp [VD, VDl, atomV]
theorem wr_u64m {n : Int} : wr .u64 n = n % 18446744073709551616 := by
  rw [wr_eq]; rfl
theorem wr_i64m {n : Int} (h1 : 0 ≤ n) (h2 : n < 18446744073709551616) : wr .i64 n = if n < 9223372036854775808 then n else n - 18446744073709551616 := by
  rw [wr_eq]
  have e : n % 18446744073709551616 = n := by omega
  have : IntKind.wrap .i64 n = if (decide (n % 18446744073709551616 ≥ 9223372036854775808)) = true then n % 18446744073709551616 - 18446744073709551616 else n % 18446744073709551616 := rfl
  rw [this, e]
  by_cases h : n < 9223372036854775808
  · rw [if_neg (by simp; omega), if_pos h]
  · rw [if_pos (by simp; omega), if_neg h]
theorem shr63 {n : Int} : shrI .i64 n 63 = n / 9223372036854775808 := by
  rw [shr_eq, Int.fdiv_eq_ediv_of_nonneg _ (by decide)];rfl
def hiT (t : Int) : D := .lit (.int .i64 (t / 18446744073709551616))
def loT (t : Int) : D := .lit (.int .u64 (t % 18446744073709551616))
def In64 (n : Int) : Prop := -9223372036854775808 ≤ n ∧ n < 9223372036854775808
theorem wide_sum {t n : Int} (hn : In64 n) : ∃ x y z q : Nat, t % 18446744073709551616 = x ∧ n % 18446744073709551616 = y ∧ (t + n) % 18446744073709551616 = z ∧ (x + y) % 18446744073709551616 = z ∧ (x + y) / 18446744073709551616 = q ∧ q ≤ 1 ∧
    t / 18446744073709551616 + (n / 9223372036854775808 + (q : Int)) = (t + n) / 18446744073709551616 := by
  unfold In64 at hn;exact ⟨(t % 18446744073709551616).toNat, (n % 18446744073709551616).toNat, ((t + n) % 18446744073709551616).toNat, _, by omega, by omega, by omega, by omega, rfl, by omega, by omega⟩
theorem wide_add (L : HAggr p ext F) (hx : ∀ args h, ext (F 45) args h = extV .add64 args h) {H : HpD} {b : Nat} {t n : Int} (hb : H.blk b = .cells [hiT t, loT t] false) (_hlt : b < H.next) (ht : -1000000000000000000000000000000000000 < t ∧ t < 1000000000000000000000000000000000000) (hn : In64 n) : WcD p ext (F 42) [.ptr b 0, .lit (.int .i64 n)] H (fun d H' => d = .tup [] ∧ H' = H.put b (.cells [hiT (t + n), loT (t + n)] false)) := by
  refine wc_of L.h42 (M := M42) rfl ok42 rfl (sem_run 9000 _ ?_);simp [hb, hiT, loT, wr_u64m];obtain ⟨x, y, z, q, e1, e2, e3, s1, s2, s3, s4⟩ := wide_sum (t := t) hn;rw [e1, e2, e3];refine sem_fn (add64_ext hx) (by first | exact D.les_refl _ | simp) (sem_run 9000 _ ?_);rw [s1, s2];have hn' := hn;unfold In64 at hn';have w1 : wr .i64 (q : Int) = q := (by rw [wr_of] <;> omega);have w2 : wr .i64 (n / 9223372036854775808 + (q : Int)) = n / 9223372036854775808 + (q : Int) := (by rw [wr_of] <;> omega);have w3 : wr .i64 (t / 18446744073709551616 + (n / 9223372036854775808 + (q : Int))) = (t + n) / 18446744073709551616 := (by rw [s4, wr_of] <;> omega)
  simp [hb, shr63, w1, w2, w3, hiT, loT];refine sem_ok ?_;simp [M42]
def term (c : Int) (r : Row) : Int := if (atV r c).null = true then 0 else (atV r c).n
def sumT (c : Int) (l : List Row) : Int := (l.map (term c)).sum
def Nums (c : Int) (l : List Row) : Prop := ∀ r, r ∈ l → In64 (atV r c).n
theorem sumT_snoc {c : Int} {l : List Row} {i : Nat} {r : Row} (h : l[i]? = some r) : sumT c (l.take (i + 1)) = sumT c (l.take i) + term c r := by
  rw [List.take_add_one, h]; simp [sumT]
theorem sumT_le {c : Int} : ∀ {l : List Row}, Nums c l → -(9223372036854775808 * (l.length : Int)) ≤ sumT c l ∧ sumT c l ≤ 9223372036854775808 * (l.length : Int)
  | [], _ => by simp [sumT]
  | r :: l, h => by
    have ih := sumT_le (c := c) (l := l) fun r hr => h r (by simp [hr]);have h0 := h r (by simp);unfold In64 at h0;have : sumT c (r :: l) = term c r + sumT c l := (by simp [sumT]);rw [this, List.length_cons];unfold term;split <;> omega
theorem Nums.take {c : Int} {l : List Row} (h : Nums c l) (i : Nat) : Nums c (l.take i) := fun r hr => h r (List.mem_of_mem_take hr)
instance {n : Int} : Decidable (In64 n) := by unfold In64; exact inferInstance
def numV (n : Int) : Vl := ⟨false, 1, n, [], by simp⟩
def sumV (c : Int) (l : List Row) : Vl × Bool := if In64 (sumT c l) then (numV (sumT c l), true) else (zv, false)
theorem wide_end {t : Int} (ht : -1000000000000000000000000000000000000 < t ∧ t < 1000000000000000000000000000000000000) : (¬ t / 18446744073709551616 = (wr .i64 (t % 18446744073709551616)) / 9223372036854775808) ↔ ¬ In64 t := by
  rw [wr_i64m (by omega) (by omega)];unfold In64;split <;> omega
theorem wide_low {t : Int} (h : In64 t) : wr .i64 (t % 18446744073709551616) = t := by
  rw [wr_i64m (by omega) (by omega)];unfold In64 at h;split <;> omega
def zeroC : List D := [.lit (.bool false), .lit (.int .i64 0), .lit (.int .i64 0), .lit .nilslice]
def SumI (H0 : HpD) (c : Int) (l : List Row) (k : Nat) (fr : FrD) (H : HpD) : Prop :=
  ∃ (i : Nat) (t : Int), k = l.length - i ∧ i ≤ l.length ∧ t = sumT c (l.take i) ∧ fr = [(1, .lit (.int .i64 c)), (4, .ptr H0.next 0), (6, .ptr (H0.next + 1) 0), (10, rowsD l), (11, .lit (.int .i64 (l.length : Int))), (12, .lit (.int .i64 (i : Int)))] ∧
    Sub H0 H ∧ H.blk (H0.next + 1) = .cells [hiT t, loT t] false ∧ H.blk H0.next = .cells zeroC false ∧ H0.next + 1 < H.next
theorem aggr_sum (L : HAggr p ext F) (hx : ∀ args h, ext (F 45) args h = extV .add64 args h) {l : List Row} {c : Int} (hl : Fine l) (hn : Nums c l) : FnD p ext (F 43) [rowsD l, .lit (.int .i64 c)] (.tup [.agg (sumV c l).1.c, .lit (.bool (sumV c l).2)]) := by
  refine fn_of L.h43 (M := M43) rfl ok43 rfl fun H => sem_run 9000 _ ?_;simp;refine sem_loop (SumI H c l) ?_ (k := l.length) ⟨0, 0, by simp, by simp, by simp [sumT], rfl, (by repeat (first | exact Sub.refl | apply Sub.new | refine Sub.put ?_ (by first | omega | (simp only [put_next, new_next]; omega)))), by simp [hiT, loT], by simp [zeroC], by simp⟩;rintro k fr H' ⟨i, t, rfl, hi, ht, rfl, hs, h1, h0, hlt⟩;refine sem_run 9000 _ ?_;simp;have hl1 := hl.1
  by_cases c1 : i < l.length
  · have hx' : l[i]? = some l[i] := (by simp);simp [c1];refine sem_fn (schm_at L.schm) (by first | exact D.les_refl _ | simp) (sem_run 9000 _ ?_);simp;have hb := sumT_le (hn.take i);rw [← ht, List.length_take, Nat.min_eq_left hi] at hb;have hw : wr .i64 ((i : Int) + 1) = ((i + 1 : Nat) : Int) := (by rw [wr_of] <;> omega);have hterm := sumT_snoc (c := c) hx';rw [← ht] at hterm;have hne : H.next + 1 ≠ H'.next := (by omega)
    have hne0 : H.next ≠ H'.next := by omega
    cases hnul : (atV l[i] c).null with
    | false =>
      simp;refine sem_call (wide_add L hx (t := t) (n := (atV l[i] c).n) (by simp [hne, h1]) (by simp; omega) (by omega) (hn _ (by simp))) ?_;rintro _ H2 ⟨rfl, rfl⟩;refine sem_run 9000 _ ?_;simp;refine sem_ok ?_;refine ⟨_, by omega, i + 1, t + (atV l[i] c).n, rfl, by omega, ?_, by simp [hw], (by have := hs.next; repeat (first | exact hs | apply Sub.new | refine Sub.put ?_ (by first | omega | (simp only [put_next, new_next]; omega)))), by simp, ?_, by simp; omega⟩
      · rw [hterm, term, hnul]; simp
      · simp [hne0, h0]
    | true =>
      simp;refine sem_ok ?_;refine ⟨_, by omega, i + 1, t, rfl, by omega, ?_, by simp [hw], (by have := hs.next; repeat (first | exact hs | apply Sub.new | refine Sub.put ?_ (by first | omega | (simp only [put_next, new_next]; omega)))), ?_, ?_, by simp; omega⟩
      · rw [hterm, term, hnul]; simp
      · simp [hne, h1]
      · simp [hne0, h0]
  · have : i = l.length := (by omega);subst this;simp;refine sem_exit (sem_run 9000 _ ?_);have hb := sumT_le hn;rw [List.take_length] at ht;rw [← ht] at hb;have he := wide_end (t := t) (by omega)
    by_cases c2 : In64 t
    · have hq : t / 18446744073709551616 = (wr .i64 (t % 18446744073709551616)) / 9223372036854775808 := Decidable.byContradiction fun h => he.1 h c2;rw [wide_low c2] at hq;simp [h1, hiT, loT, shr63, hq, wide_low c2, h0, zeroC];refine sem_ret ?_;simp [M43];have e : sumV c l = (numV t, true) := (by rw [sumV, ← ht, if_pos c2]);rw [e];exact .le (by have := hs.next; repeat (first | exact hs | apply Sub.new | refine Sub.put ?_ (by first | omega | (simp only [put_next, new_next]; omega)))) (by simp [Vl.c, numV, byD, byE, D.le]) (by simp)
    · have hq := he.2 c2;simp [h1, hiT, loT, shr63, hq, h0, zeroC];refine sem_ret ?_;simp [M43];have e : sumV c l = (zv, false) := (by rw [sumV, ← ht, if_neg c2]);rw [e];exact .le (by have := hs.next; repeat (first | exact hs | apply Sub.new | refine Sub.put ?_ (by first | omega | (simp only [put_next, new_next]; omega)))) (by simp [Vl.c, zv, byD, byE, D.le]) (by simp)
end Go.Lib
end

section
set_option maxRecDepth 10000
namespace Go.Lib
open Go.Vm Go.Dv Go.Srt
variable {p : Prog} {ext : Ext} {F : Nat → Nat}
def setKind (v : Vl) (k : Int) : Vl := ⟨v.null, k, v.n, v.bytes, v.small⟩
theorem vl_setk {v : Vl} {k : Int} : spliceD v.c 1 [.lit (.int .i64 k)] = (setKind v k).c := rfl
def endS (sg : Int) (out v : Vl) : Vl := if v.null = true then setKind out v.kind else if out.null = true ∨ 0 < cmpV v out * sg then v else out
def nullV : Vl := ⟨true, 0, 0, [], by simp⟩
def endF (c sg : Int) (l : List Row) : Vl := (l.map fun r => atV r c).foldl (endS sg) nullV
theorem endF_snoc {c sg : Int} {l : List Row} {i : Nat} {r : Row} (h : l[i]? = some r) : endF c sg (l.take (i + 1)) = endS sg (endF c sg (l.take i)) (atV r c) := by
  rw [List.take_add_one, h]; simp [endF]
def EndI (H0 : HpD) (c sg : Int) (l : List Row) (k : Nat) (fr : FrD) (H : HpD) : Prop :=
  ∃ (i : Nat) (o : Vl), k = l.length - i ∧ i ≤ l.length ∧ o = endF c sg (l.take i) ∧ fr = [(1, .lit (.int .i64 c)), (2, .lit (.int .i64 sg)), (6, .ptr H0.next 0), (7, .ptr (H0.next + 1) 0), (12, rowsD l), (13, .lit (.int .i64 (l.length : Int))), (14, .lit (.int .i64 (i : Int)))] ∧
    Sub H0 H ∧ H.blk (H0.next + 1) = .cells o.c false ∧ H.blk H0.next = .cells zeroC false ∧ H0.next + 1 < H.next
theorem aggr_end (L : HAggr p ext F) {l : List Row} {c sg : Int} (hl : Fine l) (hsg : sg = 1 ∨ sg = -1) : FnD p ext (F 44) [rowsD l, .lit (.int .i64 c), .lit (.int .i64 sg)] (.agg (endF c sg l).c) := by
  refine fn_of L.h44 (M := M44) rfl ok44 rfl fun H => sem_run 9000 _ ?_;simp;refine sem_weak (Weak.tell (b := H.next + 1) (ro := false) (cs := [.lit (.bool true), .lit (.int .i64 0), .lit (.int .i64 0), .lit .nilslice]) (cs' := nullV.c) (by simp) (by simp [Vl.c, nullV, byD, byE, D.le, D.les])) ?_;refine sem_loop (EndI H c sg l) ?_ (k := l.length) ⟨0, nullV, by simp, by simp, by simp [endF], rfl, (by repeat (first | exact Sub.refl | apply Sub.new | refine Sub.put ?_ (by first | omega | (simp only [put_next, new_next]; omega)))), by simp, by simp [zeroC], by simp⟩;rintro k fr H' ⟨i, o, rfl, hi, ho, rfl, hs, h1, h0, hlt⟩
  refine sem_run 9000 _ ?_;simp;have hl1 := hl.1
  by_cases c1 : i < l.length
  · have hx' : l[i]? = some l[i] := (by simp);simp [c1];refine sem_fn (schm_at L.schm) (by first | exact D.les_refl _ | simp) (sem_run 9000 _ ?_);simp;have hw : wr .i64 ((i : Int) + 1) = ((i + 1 : Nat) : Int) := (by rw [wr_of] <;> omega);have hterm := endF_snoc (c := c) (sg := sg) hx';rw [← ho] at hterm;have hne : H.next + 1 ≠ H'.next := (by omega);have hne0 : H.next ≠ H'.next := (by omega)
    have hlt2 : H.next + 1 < H'.next + 1 := by omega
    cases hnul : (atV l[i] c).null with
    | true =>
      simp [hne, h1, vl_setk];refine sem_ok ?_;refine ⟨_, by omega, i + 1, setKind o (atV l[i] c).kind, rfl, by omega, ?_, by simp [hw], (by have := hs.next; repeat (first | exact hs | apply Sub.new | refine Sub.put ?_ (by first | omega | (simp only [put_next, new_next]; omega)))), by simp, ?_, by simp; omega⟩
      · rw [hterm, endS, if_pos hnul]
      · simp [hne0, h0]
    | false =>
      cases honul : o.null with
      | true =>
        simp [hne, h1, honul];refine sem_ok ?_;refine ⟨_, by omega, i + 1, atV l[i] c, rfl, by omega, ?_, by simp [hw], (by have := hs.next; repeat (first | exact hs | apply Sub.new | refine Sub.put ?_ (by first | omega | (simp only [put_next, new_next]; omega)))), by simp, ?_, by simp; omega⟩
        · rw [hterm, endS, if_neg (by simp [hnul]), if_pos (.inl honul)]
        · simp [hne0, h0]
      | false =>
        simp [hne, h1, honul];refine sem_fn (schm_compare L.schm) (by first | exact D.les_refl _ | simp) (sem_run 9000 _ ?_);simp;have hab := cmpV_abs (a := atV l[i] c) (b := o)
        have hm : -1 ≤ cmpV (atV l[i] c) o * sg ∧ cmpV (atV l[i] c) o * sg ≤ 1 := by
          rcases hsg with rfl | rfl <;> omega
        rw [wr_of (by omega) (by omega)]
        by_cases c3 : 0 < cmpV (atV l[i] c) o * sg
        · simp [c3, hne, h1];refine sem_ok ?_;refine ⟨_, by omega, i + 1, atV l[i] c, rfl, by omega, ?_, by simp [hw], (by have := hs.next; repeat (first | exact hs | apply Sub.new | refine Sub.put ?_ (by first | omega | (simp only [put_next, new_next]; omega)))), by simp, ?_, by simp; omega⟩
          · rw [hterm, endS, if_neg (by simp [hnul]), if_pos (.inr c3)]
          · simp [hne0, h0]
        · simp [c3];refine sem_ok ?_;refine ⟨_, by omega, i + 1, o, rfl, by omega, ?_, by simp [hw], (by have := hs.next; repeat (first | exact hs | apply Sub.new | refine Sub.put ?_ (by first | omega | (simp only [put_next, new_next]; omega)))), by simp [hne, h1], ?_, by simp; omega⟩
          · rw [hterm, endS, if_neg (by simp [hnul]), if_neg (by simp [honul, c3])]
          · simp [hne0, h0]
  · have : i = l.length := (by omega);subst this;simp;refine sem_exit (sem_run 9000 _ ?_);have hlt0 : H.next < H'.next := (by omega);simp [h1, h0, zeroC];refine sem_ret ?_;simp [M44];rw [List.take_length] at ho;rw [← ho];exact .le (by have := hs.next; repeat (first | exact hs | apply Sub.new | refine Sub.put ?_ (by first | omega | (simp only [put_next, new_next]; omega)))) (by simp) (by simp)
end Go.Lib
end

section
set_option maxRecDepth 10000
namespace Go.Lib
open Go.Vm Go.Dv Go.Srt
variable {p : Prog} {ext : Ext} {F : Nat → Nat}
structure Ag where
  kind : Int
  col : Int
def Ag.c (a : Ag) : List D := [.lit (.int .i64 a.kind), .lit (.int .i64 a.col)]
def agsE (l : List Ag) : List (List D) := l.map Ag.c
def agsD (l : List Ag) : D := .row 2 .p (agsE l)
theorem ags_len {l : List Ag} : (agsE l).length = l.length := by simp [agsE]
theorem lenb_ags {l : List Ag} : lenbD (agsD l) = some (.lit (.int .i64 (l.length : Int))) := by simp [agsD, ags_len]
theorem at_ags {l : List Ag} {n : Nat} : atO 2 (agsD l) (some n) = elemD (l[n]?.map Ag.c) := by simp [agsD, agsE]
theorem ag_len {a : Ag} : a.c.length = 2 := rfl
theorem ag_flats {a : Ag} : flatsD a.c = true := rfl
theorem ag_take {a : Ag} : a.c.take 2 = a.c := rfl
theorem ag_drop {a : Ag} : a.c.drop 2 = [] := rfl
attribute [simp] ags_len lenb_ags at_ags ag_len ag_flats ag_take ag_drop
def oneF (l : List Row) (a : Ag) : Vl × Bool :=
  if a.kind = 1 then (numV l.length, true) else if a.kind = 2 then sumV a.col l else if a.kind = 3 then (endF a.col (-1) l, true) else (endF a.col 1 l, true)
def AgOk (l : List Row) (a : Ag) : Prop := a.kind = 2 → Nums a.col l
theorem aggr_one (L : HAggr p ext F) (hx : ∀ args h, ext (F 45) args h = extV .add64 args h) {l : List Row} {a : Ag} (hl : Fine l) (ha : AgOk l a) : FnD p ext (F 41) [rowsD l, .agg a.c] (.tup [.agg (oneF l a).1.c, .lit (.bool (oneF l a).2)]) := by
  refine fn_of L.h41 (M := M41) rfl ok41 rfl fun H => sem_run 9000 _ ?_;simp [Ag.c];have e : ∀ {x y : Vl × Bool} {c : Prop} [Decidable c], c → (if c then x else y) = x := fun h => if_pos h;refine sem_if (fun c1 => ?_) fun c1 => ?_
  · simp;refine sem_ret ?_;simp [M41];rw [oneF, if_pos c1];exact .le (by repeat (first | exact Sub.refl | apply Sub.new | refine Sub.put ?_ (by first | omega | (simp only [put_next, new_next]; omega)))) (by simp [Vl.c, numV, byD, byE, D.le]) (by simp)
  simp;refine sem_if (fun c2 => ?_) fun c2 => ?_
  · simp;refine sem_fn (aggr_sum L hx hl (ha c2)) (by first | exact D.les_refl _ | simp) (sem_run 9000 _ ?_);simp;refine sem_ret ?_;simp [M41];rw [oneF, if_neg c1, if_pos c2];exact .le (by repeat (first | exact Sub.refl | apply Sub.new | refine Sub.put ?_ (by first | omega | (simp only [put_next, new_next]; omega)))) (by simp) (by simp)
  simp;refine sem_if (fun c3 => ?_) fun c3 => ?_
  · simp;refine sem_fn (aggr_end L hl (.inr rfl)) (by first | exact D.les_refl _ | simp) (sem_run 9000 _ ?_);simp;refine sem_ret ?_;simp [M41];rw [oneF, if_neg c1, if_neg c2, if_pos c3];exact .le (by repeat (first | exact Sub.refl | apply Sub.new | refine Sub.put ?_ (by first | omega | (simp only [put_next, new_next]; omega)))) (by simp) (by simp)
  simp;refine sem_fn (aggr_end L hl (.inl rfl)) (by first | exact D.les_refl _ | simp) (sem_run 9000 _ ?_);simp;refine sem_ret ?_;simp [M41];rw [oneF, if_neg c1, if_neg c2, if_neg c3];exact .le (by repeat (first | exact Sub.refl | apply Sub.new | refine Sub.put ?_ (by first | omega | (simp only [put_next, new_next]; omega)))) (by simp) (by simp)
theorem clip4_own (L : HSchm p ext F) {H0 H : HpD} {s : D} {el : List (List D)} (g : Gr H0 H 4 s el) : WcD p ext (F 13) [s] H (fun d H' => Gr H0 H' 4 d el) := by
  refine wc_of L.h13 (M := M13) rfl ok13 rfl (sem_run 9000 _ ?_);rcases g.at_ with ⟨rfl, rfl⟩ | ⟨b, ex, el0, rfl, h1, h2, h3, h4⟩
  · simp [slc_nil];refine sem_ret ?_;simp [M13];exact g
  · simp [slc_own];refine sem_ret ?_;simp [M13];exact ⟨g.sub, g.len, .inr ⟨b, true, el0, rfl, h1, h2, h3, h4⟩⟩
def oks (l : List Row) (ags : List Ag) : Bool := ags.all fun a => (oneF l a).2
def vals (l : List Row) (ags : List Ag) : Row := ags.map fun a => (oneF l a).1
theorem oks_snoc {l : List Row} {ags : List Ag} {i : Nat} {a : Ag} (h : ags[i]? = some a) : oks l (ags.take (i + 1)) = (oks l (ags.take i) && (oneF l a).2) := by
  rw [List.take_add_one, h]; simp [oks]
theorem vals_snoc {l : List Row} {ags : List Ag} {i : Nat} {a : Ag} (h : ags[i]? = some a) : vals l (ags.take (i + 1)) = vals l (ags.take i) ++ [(oneF l a).1] := by
  rw [List.take_add_one, h]; simp [vals]
def AllI (H0 : HpD) (r : Row) (l : List Row) (ags : List Ag) (k : Nat) (fr : FrD) (H : HpD) : Prop :=
  ∃ (i : Nat) (s : D), k = ags.length - i ∧ i ≤ ags.length ∧ fr = [(1, rowsD l), (8, s), (14, agsD ags), (15, .lit (.int .i64 (ags.length : Int))), (16, .lit (.int .i64 (i : Int)))] ∧ Gr H0 H 4 s (rowE (r ++ vals l (ags.take i))) ∧ oks l (ags.take i) = true
def AllR (H0 : HpD) (r : Row) (l : List Row) (ags : List Ag) (d : D) (H' : HpD) : Prop :=
  (oks l ags = true ∧ ∃ s', d = .tup [s', .lit (.bool true)] ∧ Gr H0 H' 4 s' (rowE (r ++ vals l ags))) ∨ (oks l ags = false ∧ d = .tup [.lit .nilslice, .lit (.bool false)] ∧ Sub H0 H')
theorem oks_take {l : List Row} {ags : List Ag} {i : Nat} (h : oks l (ags.take i) = false) : oks l ags = false := by
  rw [oks, ← Bool.not_eq_true, List.all_eq_true] at h ⊢;exact fun hh => h fun a ha => hh a (List.mem_of_mem_take ha)
theorem all_own (L : HAggr p ext F) (hx : ∀ args h, ext (F 45) args h = extV .add64 args h) {H0 H : HpD} {s : D} {r : Row} {l : List Row} {ags : List Ag} (hl : Fine l) (ha : ∀ a, a ∈ ags → AgOk l a) (hb : r.length + ags.length < 1000) (g : Gr H0 H 4 s (rowE r)) : WcD p ext (F 36) [s, rowsD l, agsD ags] H (fun d H' => AllR H0 r l ags d H') := by
  refine wc_of L.h36 (M := M36) rfl ok36 rfl (sem_run 9000 _ ?_);simp;refine sem_loop (AllI H0 r l ags) ?_ (k := ags.length) ⟨0, s, by simp, by simp, rfl, by simpa [vals] using g, by simp [oks]⟩;rintro k fr H' ⟨i, s, rfl, hi, rfl, g, hok⟩;refine sem_run 9000 _ ?_;simp
  by_cases c : i < ags.length
  · have hx' : ags[i]? = some ags[i] := (by simp);simp [c];refine sem_fn (aggr_one L hx hl (ha ags[i] (by simp))) (by first | exact D.les_refl _ | simp) (sem_run 9000 _ ?_);simp;have hw : wr .i64 ((i : Int) + 1) = ((i + 1 : Nat) : Int) := (by rw [wr_of] <;> omega);have ho := oks_snoc (l := l) hx';rw [hok, Bool.true_and] at ho;have hv := vals_snoc (l := l) hx'
    cases hk : (oneF l ags[i]).2 with
    | false =>
      rw [hk] at ho;simp;refine sem_ret ?_;simp [M36];refine sem_ret ?_;simp;exact .inr ⟨oks_take ho, rfl, (by have := g.sub.next; repeat (first | exact g.sub | apply Sub.new | refine Sub.put ?_ (by first | omega | (simp only [put_next, new_next]; omega))))⟩
    | true =>
      rw [hk] at ho;simp;refine sem_push (g.mono (by repeat (first | exact Sub.refl | apply Sub.new | refine Sub.put ?_ (by first | omega | (simp only [put_next, new_next]; omega))))) rfl rfl (roomyD (by simp [row_len, vals]; omega) (by simp [row_len, vals]; omega)) fun s' H1 g1 _ _ => ?_;simp;refine sem_ok ?_;have e : rowE (r ++ vals l (ags.take i)) ++ [(oneF l ags[i]).1.c] = rowE (r ++ vals l (ags.take (i + 1))) := (by rw [hv]; simp [rowE]);rw [e] at g1;exact ⟨_, by omega, i + 1, s', rfl, by omega, by rw [hw], g1, ho⟩
  · have : i = ags.length := (by omega);subst this;simp;refine sem_exit (sem_run 9000 _ ?_);rw [List.take_length] at g hok;simp;refine sem_call (clip4_own L.schm g) fun d H2 g2 => ?_;refine sem_run 9000 _ ?_;simp;refine sem_ret ?_;simp [M36];exact .inl ⟨hok, d, rfl, g2⟩
end Go.Lib
end

section
set_option maxRecDepth 10000
namespace Go.Lib
open Go.Vm Go.Dv Go.Srt
variable {p : Prog} {ext : Ext} {F : Nat → Nat}
theorem WeakV.tup2 {d d2 : D} {H H2 : HpD} {w : V} (k : WeakV d H d2 H2) : WeakV (.tup [d, .lit w]) H (.tup [d2, .lit w]) H2 := by
  intro ψ S h v s kv;simp only [VD, VDl] at kv;obtain ⟨l', rfl, x, r, rfl, kx, y, r2, rfl, ky, rfl⟩ := kv;obtain ⟨ψ', S', x1, s1, k1⟩ := k ψ S h x s kx;refine ⟨ψ', S', x1, s1, ?_⟩;simp only [VD, VDl];exact ⟨_, rfl, x, _, rfl, k1, y, _, rfl, ky, rfl⟩
theorem all_row (L : HAggr p ext F) (hx : ∀ args h, ext (F 45) args h = extV .add64 args h) {H0 H : HpD} {s : D} {r : Row} {l : List Row} {ags : List Ag} (hl : Fine l) (ha : ∀ a, a ∈ ags → AgOk l a) (hb : r.length + ags.length < 1000) (g : Gr H0 H 4 s (rowE r)) :
    WcD p ext (F 36) [s, rowsD l, agsD ags] H fun d H' => d = .tup [rowD (if oks l ags then r ++ vals l ags else []), .lit (.bool (oks l ags))] ∧ Sub H0 H' := by
  refine WcD.weak ((all_own L hx hl ha hb g).mono ?_);rintro d H' (⟨hk, s', rfl, g'⟩ | ⟨hk, rfl, hs⟩)
  · obtain ⟨H2, w, sub, _⟩ := g'.fin row_underss (m := .p) (by simp);refine ⟨_, H2, WeakV.tup2 w, ?_, sub⟩;rw [hk]; rfl
  · refine ⟨_, H', WeakV.tup2 (WeakV.le (d' := rowD []) (by simp [rowD, rowE, D.le])), ?_, hs⟩;rw [hk]; rfl
def cmpC (c : Int) (a b : Row) : Int := cmpV (atV a c) (atV b c)
theorem groups1 (L : HAggr p ext F) {a b : Row} {c : Int} : FnD p ext (F 38) [rowD a, rowD b, .rptr [.lit (.int .i64 c)] 0] (.lit (.int .i64 (cmpC c a b))) := by
  refine fn_of L.h38 (M := M38) rfl ok38 rfl fun H => sem_run 9000 _ ?_;simp;refine sem_dfn (schm_at L.schm) (by first | exact D.les_refl _ | simp) (sem_run 9000 _ ?_);simp;refine sem_dfn (schm_at L.schm) (by first | exact D.les_refl _ | simp) (sem_run 9000 _ ?_);simp;refine sem_dfn (schm_compare L.schm) (by first | exact D.les_refl _ | simp) (sem_run 9000 _ ?_);simp;refine sem_ret ?_;simp [M38, cmpC];exact .same (by simp)
theorem cmpC_ok (L : HAggr p ext F) {c : Int} {k : Int} : Cmp p ext rowEnc (fun r => (atV r c).kind = k) (.func (F 38) [] [.rptr [.lit (.int .i64 c)] 0]) (cmpC c) :=
  ⟨⟨F 38, [], [.rptr [.lit (.int .i64 c)] 0], rfl, fun x y _ _ => by simpa [rowEnc] using groups1 L⟩, fun x y hx hy => cmpV_ord.anti _ _ hx hy, fun x y z hx hy hz => cmpV_ord.trans _ _ _ hx hy hz⟩
theorem groups_neg (L : HAggr p ext F) (hx : ∀ args h, ext (F 45) args h = extV .add64 args h) {l : List Row} {c : Int} {ags : List Ag} (hl : Fine l) (ha : ∀ a, a ∈ ags → AgOk l a) (hb : ags.length < 1000) (hc : c < 0) : FnD p ext (F 32) [rowsD l, .lit (.int .i64 c), agsD ags] (.tup [rowsD (if oks l ags then [vals l ags] else []), .lit (.bool (oks l ags))]) := by
  refine fn_of L.h32 (M := M32) rfl ok32 rfl fun H => sem_run 9000 _ ?_;simp [hc];refine sem_call (all_row L hx (H0 := H) (r := []) hl ha (by simpa using hb) (by simpa [rowE] using Gr.start)) ?_;rintro _ H2 ⟨rfl, hs⟩;refine sem_run 9000 _ ?_;simp
  cases hk : oks l ags with
  | true =>
    simp;refine sem_ret ?_;simp [M32];exact .le (by have := hs.next; repeat (first | exact hs | apply Sub.new | refine Sub.put ?_ (by first | omega | (simp only [put_next, new_next]; omega)))) (by simp [rowsD, rowsE, D.le]) (by simp)
  | false =>
    simp;refine sem_ret ?_;simp [M32];exact .le (by have := hs.next; repeat (first | exact hs | apply Sub.new | refine Sub.put ?_ (by first | omega | (simp only [put_next, new_next]; omega)))) (by simp [rowsD, rowsE, D.le]) (by simp)
def cnt (c : Int) (r : Row) (t : List Row) : Nat := 1 + (t.takeWhile fun x => decide (cmpV (atV x c) (atV r c) = 0)).length
theorem takeWhile_len {p : Row → Bool} : ∀ {t : List Row} {n : Nat}, n ≤ t.length → (∀ q x, q < n → t[q]? = some x → p x = true) → (n = t.length ∨ ∃ x, t[n]? = some x ∧ p x = false) → (t.takeWhile p).length = n
  | [], n, h, _, _ => by simp at h; simp [h]
  | x :: t, 0, _, _, h => by
    rcases h with h | ⟨y, e, hy⟩
    · simp at h
    · simp at e; subst e; simp [hy]
  | x :: t, n + 1, h1, h2, h3 => by
    have := h2 0 x (by omega) rfl;rw [List.takeWhile_cons, if_pos this, List.length_cons, takeWhile_len (n := n) (by simpa using h1) (fun q y hq hy => h2 (q + 1) y (by omega) (by simpa using hy)) (by simpa using h3)]
theorem cnt_eq {c : Int} {r : Row} {t : List Row} {i : Nat} (h1 : 1 ≤ i) (h2 : i ≤ t.length + 1) (hq : ∀ q x, q + 1 < i → t[q]? = some x → cmpV (atV x c) (atV r c) = 0) (h3 : i = t.length + 1 ∨ ∃ x, t[i - 1]? = some x ∧ ¬ cmpV (atV x c) (atV r c) = 0) : i = cnt c r t := by
  unfold cnt
  rw [takeWhile_len (n := i - 1) (by omega) (fun q x h e => by simpa using hq q x (by omega) e) (by
    rcases h3 with h | ⟨x, e, h⟩
    · left; omega
    · right; exact ⟨x, e, by simpa using h⟩)]
  omega
def runG (c : Int) (ags : List Ag) : Nat → List Row → List Row × Bool
  | _, [] => ([], true)
  | 0, _ => ([], true)
  | w + 1, r :: t => if oks ((r :: t).take (cnt c r t)) ags then
      match runG c ags w ((r :: t).drop (cnt c r t)) with
      | (x, true) => ((atV r c :: vals ((r :: t).take (cnt c r t)) ags) :: x, true)
      | (_, false) => ([], false)
    else ([], false)
theorem runG_false {c : Int} {ags : List Ag} : ∀ {w : Nat} {l : List Row}, (runG c ags w l).2 = false → runG c ags w l = ([], false)
  | w, [], h => by unfold runG at h; cases w <;> simp at h
  | 0, _ :: _, h => by simp [runG] at h
  | w + 1, r :: t, h => by
    unfold runG at h ⊢;split
    · rename_i hk;rw [if_pos hk] at h;split
      · rename_i x he;rw [he] at h; simp at h
      · rfl
    · rfl
theorem runG_fuel {c : Int} {ags : List Ag} : ∀ {w : Nat} {l : List Row}, l.length ≤ w → runG c ags w l = runG c ags l.length l
  | w, [], _ => by cases w <;> simp [runG]
  | 0, _ :: _, h => by simp at h
  | w + 1, r :: t, h => by
    have hd : ((r :: t).drop (cnt c r t)).length ≤ t.length := by
      have : 1 ≤ cnt c r t := (by unfold cnt; omega);simp only [List.length_drop, List.length_cons]; omega
    rw [List.length_cons];unfold runG;rw [runG_fuel (w := w) (by simp at h; omega), runG_fuel (w := t.length) hd]
theorem runG_step {c : Int} {ags : List Ag} {r : Row} {t : List Row} {i : Nat} (hi : i = cnt c r t) (hk : oks ((r :: t).take i) ags = true) :
    runG c ags (r :: t).length (r :: t) = if (runG c ags ((r :: t).drop i).length ((r :: t).drop i)).2 then ((atV r c :: vals ((r :: t).take i) ags) :: (runG c ags ((r :: t).drop i).length ((r :: t).drop i)).1, true) else ([], false) := by
  subst hi
  have hd : ((r :: t).drop (cnt c r t)).length ≤ t.length := by
    have : 1 ≤ cnt c r t := (by unfold cnt; omega);simp only [List.length_drop, List.length_cons]; omega
  rw [← runG_fuel hd]
  conv => lhs; rw [List.length_cons]; unfold runG
  rw [if_pos hk];split
  · rename_i x e; simp [e]
  · rename_i x e; simp [e]
theorem runG_stop {c : Int} {ags : List Ag} {r : Row} {t : List Row} {i : Nat} (hi : i = cnt c r t) (hk : oks ((r :: t).take i) ags = false) : runG c ags (r :: t).length (r :: t) = ([], false) := by
  subst hi;rw [List.length_cons]; unfold runG;rw [if_neg (by simp [hk])]
theorem rowsE_drop {l : List Row} {n : Nat} : (rowsE l).drop n = rowsE (l.drop n) := by simp [rowsE, List.map_drop]
theorem rowsE_take {l : List Row} {n : Nat} : (rowsE l).take n = rowsE (l.take n) := by simp [rowsE, List.map_take]
theorem slc_take {l : List Row} {i : Nat} (h : i ≤ l.length) : slcD 1 (rowsD l) none (some (.lit (.int .i64 (i : Int)))) none = some (rowsD (l.take i)) := by
  have := slcRow_eq (sz := 1) (m := .p) (l := rowsE l) (lo := none) (hi := some (.int .i64 (i : Int))) (mx := none);simp only [Option.map] at this;rw [rowsD, this];simp [needH, slcRow, boundM, boundH, boundL, cutMd, ble_d, h, rowsD, rowsE_take]
theorem slc_drop {l : List Row} {i : Nat} (h : i ≤ l.length) : slcD 1 (rowsD l) (some (.lit (.int .i64 (i : Int)))) none none = some (rowsD (l.drop i)) := by
  have := slcRow_eq (sz := 1) (m := .p) (l := rowsE l) (lo := some (.int .i64 (i : Int))) (hi := none) (mx := none);simp only [Option.map] at this;rw [rowsD, this];simp [needH, slcRow, boundM, boundH, boundL, cutMd, ble_d, h, rowsD];rw [← rowsE_drop, List.take_of_length_le (by simp)]
def GrpI (H0 : HpD) (c : Int) (ags : List Ag) (l' : List Row) (k : Nat) (fr : FrD) (H : HpD) : Prop :=
  ∃ (rest done : List Row) (s : D), k = rest.length ∧ (∀ r, r ∈ rest → r ∈ l') ∧ done.length + rest.length ≤ l'.length ∧ fr = [(2, agsD ags), (4, .rptr [.lit (.int .i64 c)] 0), (10, rowsD rest), (11, s)] ∧ Gr H0 H 1 s (rowsE done) ∧
    runG c ags l'.length l' = (if (runG c ags rest.length rest).2 then (done ++ (runG c ags rest.length rest).1, true) else ([], false))
def CntI (H0 : HpD) (c : Int) (ags : List Ag) (r : Row) (t : List Row) (s : D) (k : Nat) (fr : FrD) (H : HpD) : Prop :=
  ∃ i : Nat, k = t.length + 1 - i ∧ 1 ≤ i ∧ i ≤ t.length + 1 ∧ (∀ q x, q + 1 < i → t[q]? = some x → cmpV (atV x c) (atV r c) = 0) ∧
    (lk fr 2 = agsD ags ∧ lk fr 4 = .rptr [.lit (.int .i64 c)] 0 ∧ lk fr 10 = rowsD (r :: t) ∧ lk fr 11 = s ∧ lk fr 12 = .rptr (atV r c).c 0 ∧ lk fr 13 = .lit (.int .i64 (i : Int))) ∧ Sub H0 H
def GrpR (c : Int) (ags : List Ag) (l : List Row) (d : D) : Prop :=
  ∃ l' : List Row, l'.Perm l ∧ Srt (cmpC c) l' 0 l.length ∧ d = .tup [rowsD (runG c ags l'.length l').1, .lit (.bool (runG c ags l'.length l').2)]
def GrpQ (H0 : HpD) (c : Int) (ags : List Ag) (l : List Row) (d : D) (H' : HpD) : Prop := ∃ d2 H2, WeakV d H' d2 H2 ∧ GrpR c ags l d2 ∧ Sub H0 H2
set_option maxHeartbeats 1000000 in
theorem groups_own (L : HAggr p ext F) (hx : ∀ args h, ext (F 45) args h = extV .add64 args h) {l : List Row} {c k : Int} {ags : List Ag} {H : HpD} (hl : Fine l) (hk : ∀ r, r ∈ l → (atV r c).kind = k) (ha : ∀ l', (∀ r, r ∈ l' → r ∈ l) → ∀ a, a ∈ ags → AgOk l' a) (hb : ags.length < 900) (hc : ¬ c < 0) : WcD p ext (F 32) [rowsD l, .lit (.int .i64 c), agsD ags] H (fun d H' => GrpQ H c ags l d H') := by
  refine wc_of L.h32 (M := M32) rfl ok32 rfl (sem_run 9000 _ ?_);simp [hc];refine sem_call (still_own L hl) fun d H1 g1 => ?_;refine sem_run 9000 _ ?_;simp;refine sem_exact_call g1 fun H2 g2 _ _ => ?_;refine sem_call (sort_own L (cmpC_ok L (c := c) (k := k)) hl.1 hk g2) ?_;rintro _ H3 ⟨rfl, l', g3, hp1, hsrt⟩;refine sem_turn_ops g3 10 (by simp) fun H4 s4 k4 n4 => sem_run 9000 _ ?_;simp;have hl' : Fine l' := ⟨by rw [hp1.length_eq]; exact hl.1, fun r hr => hl.2 r (hp1.mem_iff.1 hr)⟩;have hl1 := hl'.1
  refine sem_loop (GrpI H4 c ags l') ?_ (k := l'.length) ⟨l', [], .lit .nilslice, rfl, fun _ h => h, by simp, rfl, by simpa [rowsE] using Gr.start, by
    cases h : (runG c ags l'.length l').2 with
    | true => simp [← h]
    | false => rw [runG_false h]; simp⟩
  rintro k' fr H' ⟨rest, done, s, rfl, hsub, hlen, rfl, g, heq⟩;refine sem_run 9000 _ ?_;simp
  cases rest with
  | nil =>
    simp;refine sem_exit (sem_run 9000 _ ?_);simp [runG] at heq;simp;refine sem_call (clip_own L g) fun d H5 g5 => ?_;refine sem_run 9000 _ ?_;simp;refine sem_ret ?_;simp [M32];obtain ⟨H6, w, sub, _⟩ := g5.fin rows_underss (m := .p) (by simp);refine ⟨_, H6, WeakV.tup2 w, ⟨l', hp1, hsrt, ?_⟩, s4.trans sub⟩;rw [heq]; rfl
  | cons r t =>
    simp;refine sem_dfn (schm_at L.schm) (by first | exact D.les_refl _ | simp) (sem_run 9000 _ ?_);simp;have hlt : H'.next < H'.next + 1 := (by omega);refine sem_box (b := H'.next) (cs := (atV r c).c) (ro := false) 12 (by simp) (by simp) ?_;refine sem_loop (CntI H' c ags r t s) ?_ (k := t.length) ⟨1, by omega, by omega, by omega, fun q x h => by omega, by simp, (by repeat (first | exact Sub.refl | apply Sub.new | refine Sub.put ?_ (by first | omega | (simp only [put_next, new_next]; omega))))⟩;rintro k'' fr H5 ⟨i, rfl, hi1, hi2, hq, ⟨e2, e4, e10, e11, e12, e13⟩, hs5⟩;refine sem_run 9000 _ ?_;simp [e10, e13]
    have hlen' : i ≤ l'.length := (by simp at hlen; omega)
    have hw : wr .i64 ((i : Int) + 1) = ((i + 1 : Nat) : Int) := by rw [wr_of] <;> omega
    by_cases c1 : i < t.length + 1
    · have c1' : (i : Int) < (t.length : Int) + 1 := (by omega);obtain ⟨x, gx⟩ : ∃ x, t[i - 1]? = some x := ⟨t[i - 1]'(by omega), by simp⟩;have gx' : (r :: t)[i]? = some x := (by rw [List.getElem?_cons, if_neg (by omega)]; exact gx);simp [c1', gx', e4, e10, e13];refine sem_dfn (schm_at L.schm) (by first | exact D.les_refl _ | simp) (sem_run 9000 _ ?_);simp [e12];refine sem_dfn (schm_compare L.schm) (by first | exact D.les_refl _ | simp) (sem_run 9000 _ ?_);simp [e2, e4, e10, e11, e12, e13]
      by_cases c2 : cmpV (atV x c) (atV r c) = 0
      · simp [c2, hw];refine sem_ok ?_;refine ⟨t.length + 1 - (i + 1), by omega, i + 1, rfl, by omega, by omega, fun q y h e => ?_, by simp, hs5⟩
        by_cases hqi : q + 1 < i
        · exact hq q y hqi e
        · obtain rfl : q = i - 1 := (by omega);rw [gx] at e; cases e; exact c2
      · have hcnt := cnt_eq hi1 hi2 hq (.inr ⟨x, gx, c2⟩);simp [c2];refine sem_exit (sem_run 9000 _ ?_);simp [slc_take (l := r :: t) (i := i) (by simpa using hi2)];have gl : Gr H5 (H5.new (.cells (atV r c).c false)) 4 (.slice H5.next 0 4 1 1 true) (rowE [atV r c]) := Gr.lit Sub.refl (by simp [rowE]) (by simp [rowE]) (by simp [rowE]);refine sem_dcall (all_row L hx (H0 := H5) (r := [atV r c]) (l := (r :: t).take i) (ags := ags) ⟨by simp only [List.length_take, List.length_cons]; omega, fun y hy => hl'.2 y (hsub y (List.mem_of_mem_take hy))⟩ (ha _ fun y hy => hp1.mem_iff.1 (hsub y (List.mem_of_mem_take hy))) (by simp only [List.length_cons, List.length_nil]; omega) gl) ?_
        rintro _ H6 ⟨rfl, hs6⟩;refine sem_run 9000 _ ?_
        cases hok : oks ((r :: t).take i) ags with
        | false =>
          rw [runG_stop hcnt hok] at heq;simp;refine sem_ret ?_;simp;refine sem_ret ?_;simp [M32];refine ⟨_, H6, WeakV.tup2 (WeakV.le (d' := rowsD []) (by simp [rowsD, rowsE, D.le])), ⟨l', hp1, hsrt, ?_⟩, s4.trans (g.sub.trans (hs5.trans hs6))⟩;rw [heq]; rfl
        | true =>
          rw [runG_step hcnt hok] at heq;simp;simp only [List.length_cons] at hlen;refine sem_push (g.mono (hs5.trans hs6)) rfl rfl (roomyD (by simp; omega) (by simp; omega)) fun s' H7 g7 _ _ => ?_;simp [slc_drop (l := r :: t) (i := i) (by simpa using hi2)];refine sem_ok ?_;have e : rowsE done ++ [[rowD (atV r c :: vals ((r :: t).take i) ags)]] = rowsE (done ++ [atV r c :: vals ((r :: t).take i) ags]) := (by simp [rowsE]);rw [e] at g7;refine ⟨((r :: t).drop i).length, by simp only [List.length_drop, List.length_cons]; omega, (r :: t).drop i, done ++ [atV r c :: vals ((r :: t).take i) ags], s', rfl, fun y hy => hsub y (List.mem_of_mem_drop hy), by simp only [List.length_drop, List.length_cons, List.length_append, List.length_nil]; omega, by simp, g7, ?_⟩;rw [heq]
          cases hz : (runG c ags ((r :: t).drop i).length ((r :: t).drop i)).2 <;> simp
    · have c1' : ¬ (i : Int) < (t.length : Int) + 1 := (by omega);have hcnt := cnt_eq hi1 hi2 hq (.inl (by omega));simp [c1', e2, e4, e10, e11, e12, e13];refine sem_exit (sem_run 9000 _ ?_);simp [slc_take (l := r :: t) (i := i) (by simpa using hi2)];have gl : Gr H5 (H5.new (.cells (atV r c).c false)) 4 (.slice H5.next 0 4 1 1 true) (rowE [atV r c]) := Gr.lit Sub.refl (by simp [rowE]) (by simp [rowE]) (by simp [rowE]);refine sem_dcall (all_row L hx (H0 := H5) (r := [atV r c]) (l := (r :: t).take i) (ags := ags) ⟨by simp only [List.length_take, List.length_cons]; omega, fun y hy => hl'.2 y (hsub y (List.mem_of_mem_take hy))⟩ (ha _ fun y hy => hp1.mem_iff.1 (hsub y (List.mem_of_mem_take hy))) (by simp only [List.length_cons, List.length_nil]; omega) gl) ?_
      rintro _ H6 ⟨rfl, hs6⟩;refine sem_run 9000 _ ?_
      cases hok : oks ((r :: t).take i) ags with
      | false =>
        rw [runG_stop hcnt hok] at heq;simp;refine sem_ret ?_;simp;refine sem_ret ?_;simp [M32];refine ⟨_, H6, WeakV.tup2 (WeakV.le (d' := rowsD []) (by simp [rowsD, rowsE, D.le])), ⟨l', hp1, hsrt, ?_⟩, s4.trans (g.sub.trans (hs5.trans hs6))⟩;rw [heq]; rfl
      | true =>
        rw [runG_step hcnt hok] at heq;simp;simp only [List.length_cons] at hlen;refine sem_push (g.mono (hs5.trans hs6)) rfl rfl (roomyD (by simp; omega) (by simp; omega)) fun s' H7 g7 _ _ => ?_;simp [slc_drop (l := r :: t) (i := i) (by simpa using hi2)];refine sem_ok ?_;have e : rowsE done ++ [[rowD (atV r c :: vals ((r :: t).take i) ags)]] = rowsE (done ++ [atV r c :: vals ((r :: t).take i) ags]) := (by simp [rowsE]);rw [e] at g7;refine ⟨((r :: t).drop i).length, by simp only [List.length_drop, List.length_cons]; omega, (r :: t).drop i, done ++ [atV r c :: vals ((r :: t).take i) ags], s', rfl, fun y hy => hsub y (List.mem_of_mem_drop hy), by simp only [List.length_drop, List.length_cons, List.length_append, List.length_nil]; omega, by simp, g7, ?_⟩;rw [heq]
        cases hz : (runG c ags ((r :: t).drop i).length ((r :: t).drop i)).2 <;> simp
theorem groups_pos (L : HAggr p ext F) (hx : ∀ args h, ext (F 45) args h = extV .add64 args h) {l : List Row} {c k : Int} {ags : List Ag} {H : HpD} (hl : Fine l) (hk : ∀ r, r ∈ l → (atV r c).kind = k) (ha : ∀ l', (∀ r, r ∈ l' → r ∈ l) → ∀ a, a ∈ ags → AgOk l' a) (hb : ags.length < 900) (hc : ¬ c < 0) :
    WcD p ext (F 32) [rowsD l, .lit (.int .i64 c), agsD ags] H fun d H' => GrpR c ags l d ∧ Sub H H' :=
  WcD.weak ((groups_own L hx hl hk ha hb hc).mono fun _ _ ⟨d2, H2, w, h⟩ => ⟨d2, H2, w, h⟩)
end Go.Lib
end

section
set_option maxRecDepth 10000
namespace Go.Lib
open Go.Vm Go.Dv Go.Srt
def cs2 : List Ag := [⟨1, 0⟩, ⟨2, 0⟩]
def Low (l : List Row) : Prop := ∀ r, r ∈ l → 0 ≤ (atV r 0).n ∧ (atV r 0).n ≤ 1000
def grow (x : Vl × Nat × Int) : Row := [x.1, numV x.2.1, numV x.2.2]
structure GOk (c : Int) (l : List Row) (T : List (Vl × Nat × Int)) : Prop where
  ones : ∀ x, x ∈ T → 1 ≤ x.2.1
  pos : ∀ x, x ∈ T → 0 ≤ x.2.2
  cnt : (T.map fun x => x.2.1).sum = l.length
  sum : (T.map fun x => x.2.2).sum = sumT 0 l
  up : ∀ i a b, T[i]? = some a → T[i + 1]? = some b → cmpV a.1 b.1 < 0
  hd : ∀ a, T[0]? = some a → ∃ r, l[0]? = some r ∧ a.1 = atV r c
def cS (T : List (Vl × Nat × Int)) (i : Nat) : Nat := ((T.take i).map fun x => x.2.1).sum
def sS (T : List (Vl × Nat × Int)) (i : Nat) : Int := ((T.take i).map fun x => x.2.2).sum
end Go.Lib
end

section
set_option maxRecDepth 10000
namespace Go.Lib
open Go.Vm Go.Dv Go.Srt
structure Vl.Good (v : Vl) : Prop where
  nul : v.null = true → v.n = 0 ∧ v.bytes = []
  kd : (v.kind = 1 ∧ v.bytes = []) ∨ (v.kind = 2 ∧ v.n = 0)
  int : In64 v.n
theorem cmpV_zero {a b : Vl} (ha : a.Good) (hb : b.Good) (hk : a.kind = b.kind) (h : cmpV a b = 0) : a = b := by
  rw [cmpV_null] at h;rw [vl_ext];cases ha0 : a.null <;> cases hb0 : b.null <;> simp [ha0, hb0] at h ⊢
  · rcases ha.kd with ⟨k1, b1⟩ | ⟨k1, n1⟩ <;> rcases hb.kd with ⟨k2, b2⟩ | ⟨k2, n2⟩
    · simp [k1, cmpI_eq] at h;exact ⟨hk, h, by rw [b1, b2]⟩
    · omega
    · omega
    · simp [k1, cmpB_eq] at h;exact ⟨hk, by rw [n1, n2], h⟩
  · obtain ⟨h1, h2⟩ := ha.nul ha0;obtain ⟨h3, h4⟩ := hb.nul hb0;exact ⟨hk, by rw [h1, h3], by rw [h2, h4]⟩
theorem cmpV_self {a : Vl} : cmpV a a = 0 := by
  have := (cmpV_ord (k := a.kind)).sym a a rfl rfl; omega
structure GoodR (ks : List Int) (r : Row) : Prop where
  kin : Kin ks r
  good : ∀ v, v ∈ r → v.Good
theorem cmpRow_zero : ∀ {ks : List Int} {a b : Row}, GoodR ks a → GoodR ks b → cmpRow cmpV a b = 0 → a = b
  | [], a, b, ha, hb, _ => by
    have h1 := ha.kin; have h2 := hb.kin;simp only [Kin, List.map_eq_nil_iff] at h1 h2;rw [h1, h2]
  | k :: ks, a, b, ha, hb, h => by
    have h1 := ha.kin; have h2 := hb.kin
    cases a with
    | nil => simp [Kin] at h1
    | cons x a => cases b with
      | nil => simp [Kin] at h2
      | cons y b =>
        simp only [Kin, List.map_cons, List.cons.injEq] at h1 h2;simp only [cmpRow] at h
        by_cases e : cmpV x y = 0
        · simp [e] at h;rw [cmpV_zero (ha.good x (by simp)) (hb.good y (by simp)) (by rw [h1.1, h2.1]) e, cmpRow_zero (ks := ks) ⟨h1.2, fun v hv => ha.good v (by simp [hv])⟩ ⟨h2.2, fun v hv => hb.good v (by simp [hv])⟩ h]
        · simp [e] at h
section
variable {α : Type} {G : α → Prop} {cmp : α → α → Int}
def Rise (cmp : α → α → Int) (l : List α) : Prop := l.Pairwise fun x y => cmp x y ≤ 0
theorem Ord3.self (o : Ord3 G cmp) {x : α} (hx : G x) : cmp x x = 0 := by
  have := o.sym x x hx hx; omega
theorem Srt.rise (o : Ord3 G cmp) {l : List α} (hG : ∀ x, x ∈ l → G x) (h : Srt cmp l 0 l.length) : Rise cmp l := by
  rw [Rise, List.pairwise_iff_getElem];intro i j hi hj hij;have := h i j l[i] l[j] (by omega) hij hj (by simp) (by simp);have := o.sym l[i] l[j] (hG _ (by simp)) (hG _ (by simp));omega
theorem rise_uniq (o : Ord3 G cmp) (hz : ∀ x y, G x → G y → cmp x y = 0 → x = y) {l l' : List α} (hp : l.Perm l') (hG : ∀ x, x ∈ l → G x) (h1 : Rise cmp l) (h2 : Rise cmp l') : l = l' := by
  refine List.Perm.eq_of_pairwise (le := fun x y => cmp x y ≤ 0) (fun a b ha hb h3 h4 => ?_) h1 h2 hp;have hb' := hG b (hp.mem_iff.2 hb);have := o.sym a b (hG a ha) hb';exact hz a b (hG a ha) hb' (by omega)
def insL (cmp : α → α → Int) (x : α) : List α → List α
  | [] => [x]
  | y :: l => if cmp y x ≤ 0 then y :: insL cmp x l else x :: y :: l
def sortL (cmp : α → α → Int) (l : List α) : List α := l.foldr (insL cmp) []
theorem insL_perm {x : α} : ∀ {l : List α}, (insL cmp x l).Perm (x :: l)
  | [] => .refl _
  | y :: l => by
    unfold insL;split
    · exact (insL_perm.cons y).trans (.swap ..)
    · exact .refl _
theorem sortL_perm : ∀ {l : List α}, (sortL cmp l).Perm l
  | [] => .refl _
  | x :: _l => insL_perm.trans (sortL_perm.cons x)
theorem insL_rise (o : Ord3 G cmp) {x : α} (hx : G x) : ∀ {l : List α}, (∀ y, y ∈ l → G y) → Rise cmp l → Rise cmp (insL cmp x l)
  | [], _, _ => by simp [insL, Rise]
  | y :: l, hG, h => by
    have hy := hG y (by simp);have h' := List.pairwise_cons.1 h;unfold insL;split
    · rename_i e;refine List.pairwise_cons.2 ⟨fun z hz => ?_, insL_rise o hx (fun z hz => hG z (by simp [hz])) h'.2⟩;rcases List.mem_cons.1 (insL_perm.mem_iff.1 hz) with rfl | hz
      · exact e
      · exact h'.1 z hz
    · rename_i e;have := o.sym y x hy hx;refine List.pairwise_cons.2 ⟨fun z hz => ?_, h⟩;rcases List.mem_cons.1 hz with rfl | hz
      · omega
      · exact o.tr x y z hx hy (hG z (by simp [hz])) (by omega) (h'.1 z hz)
theorem sortL_rise (o : Ord3 G cmp) : ∀ {l : List α}, (∀ y, y ∈ l → G y) → Rise cmp (sortL cmp l)
  | [], _ => by simp [sortL, Rise]
  | x :: l, h => insL_rise o (h x (by simp)) (fun y hy => h y (by simp [sortL_perm.mem_iff.1 hy])) (sortL_rise o fun y hy => h y (by simp [hy]))
theorem rise_sort (o : Ord3 G cmp) (hz : ∀ x y, G x → G y → cmp x y = 0 → x = y) {l l' : List α} (hG : ∀ x, x ∈ l → G x) (hp : l'.Perm l) (h : Rise cmp l') : l' = sortL cmp l :=
  rise_uniq o hz (hp.trans sortL_perm.symm) (fun x hx => hG x (hp.mem_iff.1 hx)) h (sortL_rise o hG)
theorem srt_sort (o : Ord3 G cmp) (hz : ∀ x y, G x → G y → cmp x y = 0 → x = y) {l l' : List α} (hG : ∀ x, x ∈ l → G x) (hp : l'.Perm l) (h : Srt cmp l' 0 l.length) : l' = sortL cmp l :=
  rise_sort o hz hG hp (Srt.rise o (fun x hx => hG x (hp.mem_iff.1 hx)) (by rw [hp.length_eq]; exact h))
theorem tw_filter {p : α → Bool} : ∀ {t : List α}, t.Pairwise (fun x y => p y = true → p x = true) → t.takeWhile p = t.filter p ∧ t.dropWhile p = t.filter (fun x => !p x)
  | [], _ => by simp
  | x :: t, h => by
    have h' := List.pairwise_cons.1 h;have ih := tw_filter h'.2
    cases hp : p x with
    | true => simp [hp, ih.1, ih.2]
    | false =>
      have hn : ∀ y, y ∈ t → p y = false := fun y hy => by
        cases hy2 : p y with
        | false => rfl
        | true => have := h'.1 y hy hy2; rw [hp] at this; cases this
      have h1 : t.filter p = [] := List.filter_eq_nil_iff.2 fun y hy => (by simp [hn y hy]);have h2 : t.filter (fun x => !p x) = t := List.filter_eq_self.2 fun y hy => (by simp [hn y hy]);simp [hp, h1, h2]
theorem take_tw {p : α → Bool} {t : List α} : t.take (t.takeWhile p).length = t.takeWhile p := by
  rw [← List.prefix_iff_eq_take.1 (List.takeWhile_prefix p)]
theorem drop_tw {p : α → Bool} : ∀ {t : List α}, t.drop (t.takeWhile p).length = t.dropWhile p
  | [] => rfl
  | x :: t => by
    have ih := drop_tw (p := p) (t := t);cases h : p x <;> simp [h, ih]
end
def IsEnd (sg : Int) (L : List Vl) (o : Vl) : Prop :=
  (L = [] ∧ o = nullV) ∨ (o ∈ L ∧ ∀ v, v ∈ L → v.null = true) ∨ (o ∈ L ∧ o.null = false ∧ ∀ v, v ∈ L → v.null = false → cmpV v o * sg ≤ 0)
theorem null_eq {v w : Vl} (hv : v.Good) (hw : w.Good) (hk : v.kind = w.kind) (h1 : v.null = true) (h2 : w.null = true) : v = w := by
  obtain ⟨a, b⟩ := hv.nul h1;obtain ⟨c, d⟩ := hw.nul h2;exact vl_ext.2 ⟨by rw [h1, h2], hk, by rw [a, c], by rw [b, d]⟩
theorem null_set {v : Vl} (hv : v.Good) (h : v.null = true) : setKind nullV v.kind = v := by
  obtain ⟨a, b⟩ := hv.nul h;exact vl_ext.2 ⟨by simp [setKind, nullV, h], rfl, by simp [setKind, nullV, a], by simp [setKind, nullV, b]⟩
theorem set_self {o : Vl} {k : Int} (h : o.kind = k) : setKind o k = o := by subst h; rfl
def GoodL (k : Int) (L : List Vl) : Prop := ∀ v, v ∈ L → v.kind = k ∧ v.Good
theorem IsEnd.step {sg k : Int} (hsg : sg = 1 ∨ sg = -1) {L : List Vl} {o v : Vl} (hL : GoodL k (L ++ [v])) (h : IsEnd sg L o) : IsEnd sg (L ++ [v]) (endS sg o v) := by
  obtain ⟨hvk, hv⟩ := hL v (by simp);have hm : ∀ x, x ∈ L → x.kind = k ∧ x.Good := fun x hx => hL x (by simp [hx]);unfold endS
  by_cases hn : v.null = true
  · rw [if_pos hn];rcases h with ⟨rfl, rfl⟩ | ⟨ho, ha⟩ | ⟨ho, hon, ha⟩
    · rw [null_set hv hn];exact .inr (.inl ⟨by simp, fun w hw => by simp at hw; rw [hw, hn]⟩)
    · rw [set_self (by rw [(hm o ho).1, hvk])]
      exact .inr (.inl ⟨by simp [ho], fun w hw => by
        rcases List.mem_append.1 hw with hw | hw
        · exact ha w hw
        · simp at hw; rw [hw, hn]⟩)
    · rw [set_self (by rw [(hm o ho).1, hvk])]
      exact .inr (.inr ⟨by simp [ho], hon, fun w hw hwn => by
        rcases List.mem_append.1 hw with hw | hw
        · exact ha w hw hwn
        · simp at hw; rw [hw, hn] at hwn; cases hwn⟩)
  · rw [if_neg hn];have hn' : v.null = false := (by simpa using hn);rcases h with ⟨rfl, rfl⟩ | ⟨ho, ha⟩ | ⟨ho, hon, ha⟩
    · rw [if_pos (.inl rfl)];exact .inr (.inr ⟨by simp, hn', fun w hw _ => by simp at hw; rw [hw, cmpV_self]; omega⟩)
    · rw [if_pos (.inl (ha o ho))];refine .inr (.inr ⟨by simp, hn', fun w hw hwn => ?_⟩);rcases List.mem_append.1 hw with hw | hw
      · rw [ha w hw] at hwn; cases hwn
      · simp at hw; rw [hw, cmpV_self]; omega
    · have oo := cmpV_ord (k := k);have s1 := oo.sym v o hvk (hm o ho).1;split
      · rename_i e
        have e : 0 < cmpV v o * sg := by
          rcases e with e | e
          · rw [hon] at e; cases e
          · exact e
        refine .inr (.inr ⟨by simp, hn', fun w hw hwn => ?_⟩);rcases List.mem_append.1 hw with hw | hw
        · have h1 := ha w hw hwn;have hwk := (hm w hw).1;have s2 := oo.sym w o hwk (hm o ho).1;have s3 := oo.sym w v hwk hvk;have t1 := oo.tr w o v hwk (hm o ho).1 hvk;have t2 := oo.tr v o w hvk (hm o ho).1 hwk;rcases hsg with rfl | rfl <;> omega
        · simp at hw; rw [hw, cmpV_self]; omega
      · rename_i e;have e : ¬ 0 < cmpV v o * sg := fun h => e (.inr h);refine .inr (.inr ⟨by simp [ho], hon, fun w hw hwn => ?_⟩);rcases List.mem_append.1 hw with hw | hw
        · exact ha w hw hwn
        · simp at hw; subst hw; omega
theorem IsEnd.fold {sg k : Int} (hsg : sg = 1 ∨ sg = -1) : ∀ {M L : List Vl} {o : Vl}, GoodL k (L ++ M) → IsEnd sg L o → IsEnd sg (L ++ M) (M.foldl (endS sg) o)
  | [], L, o, _, h => by simpa using h
  | v :: M, L, o, hL, h => by
    have := IsEnd.fold hsg (M := M) (L := L ++ [v]) (o := endS sg o v) (by simpa using hL) (h.step hsg fun x hx => hL x (by simp at hx ⊢; rcases hx with hx | hx <;> simp [hx]));simpa using this
theorem IsEnd.uniq {sg k : Int} (hsg : sg = 1 ∨ sg = -1) {L : List Vl} {o o' : Vl} (hL : GoodL k L) (h : IsEnd sg L o) (h' : IsEnd sg L o') : o = o' := by
  rcases h with ⟨rfl, rfl⟩ | ⟨ho, ha⟩ | ⟨ho, hon, ha⟩ <;> rcases h' with ⟨e, rfl⟩ | ⟨ho', ha'⟩ | ⟨ho', hon', ha'⟩
  · rfl
  · simp at ho'
  · simp at ho'
  · subst e; simp at ho
  · exact null_eq (hL o ho).2 (hL o' ho').2 (by rw [(hL o ho).1, (hL o' ho').1]) (ha o ho) (ha' o' ho')
  · rw [ha o' ho'] at hon'; cases hon'
  · subst e; simp at ho
  · rw [ha' o ho] at hon; cases hon
  · have h1 := ha o' ho' hon';have h2 := ha' o ho hon;have s := (cmpV_ord (k := k)).sym o o' (hL o ho).1 (hL o' ho').1;exact cmpV_zero (hL o ho).2 (hL o' ho').2 (by rw [(hL o ho).1, (hL o' ho').1]) (by rcases hsg with rfl | rfl <;> omega)
theorem IsEnd.perm {sg : Int} {L L' : List Vl} {o : Vl} (hp : L.Perm L') (h : IsEnd sg L o) : IsEnd sg L' o := by
  rcases h with ⟨rfl, rfl⟩ | ⟨ho, ha⟩ | ⟨ho, hon, ha⟩
  · exact .inl ⟨hp.nil_eq.symm, rfl⟩
  · exact .inr (.inl ⟨hp.mem_iff.1 ho, fun v hv => ha v (hp.mem_iff.2 hv)⟩)
  · exact .inr (.inr ⟨hp.mem_iff.1 ho, hon, fun v hv => ha v (hp.mem_iff.2 hv)⟩)
def GoodRs (ks : List Int) (l : List Row) : Prop := ∀ r, r ∈ l → GoodR ks r
def InK (ks : List Int) (c : Int) : Prop := 0 ≤ c ∧ c < ks.length
theorem GoodRs.perm {ks : List Int} {l l' : List Row} (hp : l.Perm l') (h : GoodRs ks l) : GoodRs ks l' := fun r hr => h r (hp.mem_iff.2 hr)
theorem atV_mem {r : Row} {c : Int} (h0 : 0 ≤ c) (h : c < r.length) : atV r c ∈ r ∧ r[c.toNat]? = some (atV r c) := by
  have hl : c.toNat < r.length := (by omega);rw [atV, if_neg (by omega)];simp [hl]
theorem GoodR.at_ {ks : List Int} {r : Row} {c : Int} (h : GoodR ks r) (hc : InK ks c) : (atV r c).kind = (ks[c.toNat]?).getD 0 ∧ (atV r c).Good := by
  have hk := h.kin;unfold Kin at hk;have hl : r.length = ks.length := (by rw [← hk]; simp);obtain ⟨h1, h2⟩ := atV_mem (r := r) hc.1 (by have := hc.2; omega);refine ⟨?_, h.good _ h1⟩;rw [← hk, List.getElem?_map, h2]; rfl
theorem GoodRs.col {ks : List Int} {l : List Row} {c : Int} (h : GoodRs ks l) (hc : InK ks c) : GoodL ((ks[c.toNat]?).getD 0) (l.map fun r => atV r c) := by
  intro v hv;obtain ⟨r, hr, rfl⟩ := List.mem_map.1 hv;exact (h r hr).at_ hc
theorem endF_is {sg c : Int} (hsg : sg = 1 ∨ sg = -1) {ks : List Int} {l : List Row} (h : GoodRs ks l) (hc : InK ks c) : IsEnd sg (l.map fun r => atV r c) (endF c sg l) := by
  have := IsEnd.fold (sg := sg) (k := (ks[c.toNat]?).getD 0) hsg (M := l.map fun r => atV r c) (L := []) (o := nullV) (by simpa using h.col hc) (.inl ⟨rfl, rfl⟩);simpa [endF] using this
theorem endF_perm {sg c : Int} (hsg : sg = 1 ∨ sg = -1) {ks : List Int} {l l' : List Row} (hp : l.Perm l') (h : GoodRs ks l) (hc : InK ks c) : endF c sg l = endF c sg l' :=
  IsEnd.uniq hsg ((h.perm hp).col hc) ((endF_is hsg h hc).perm (hp.map _)) (endF_is hsg (h.perm hp) hc)
theorem sumT_permC {c : Int} {a b : List Row} (h : a.Perm b) : sumT c a = sumT c b := by
  unfold sumT
  induction h with
  | nil => rfl
  | cons x _ ih => simp [ih]
  | swap x y l => simp; omega
  | trans _ _ h1 h2 => exact h1.trans h2
theorem oneF_perm {ks : List Int} {l l' : List Row} {a : Ag} (hp : l.Perm l') (h : GoodRs ks l) (hc : InK ks a.col) : oneF l a = oneF l' a := by
  unfold oneF sumV;rw [hp.length_eq, sumT_permC hp, endF_perm (.inl rfl) hp h hc, endF_perm (.inr rfl) hp h hc]
theorem oks_perm {ks : List Int} {l l' : List Row} {ags : List Ag} (hp : l.Perm l') (h : GoodRs ks l) (hc : ∀ a, a ∈ ags → InK ks a.col) : oks l ags = oks l' ags := by
  unfold oks;rw [Bool.eq_iff_iff, List.all_eq_true, List.all_eq_true];constructor <;> intro k a ha
  · rw [← oneF_perm hp h (hc a ha)]; exact k a ha
  · rw [oneF_perm hp h (hc a ha)]; exact k a ha
theorem vals_perm {ks : List Int} {l l' : List Row} {ags : List Ag} (hp : l.Perm l') (h : GoodRs ks l) (hc : ∀ a, a ∈ ags → InK ks a.col) : vals l ags = vals l' ags := by
  unfold vals
  exact List.map_congr_left fun a ha => by rw [oneF_perm hp h (hc a ha)]
theorem cmpC_ord {c : Int} {ks : List Int} (hc : InK ks c) : Ord3 (GoodR ks) (cmpC c) :=
  ⟨fun _ _ hx hy => (cmpV_ord (k := (ks[c.toNat]?).getD 0)).sym _ _ (hx.at_ hc).1 (hy.at_ hc).1, fun _ _ _ hx hy hz => (cmpV_ord (k := (ks[c.toNat]?).getD 0)).tr _ _ _ (hx.at_ hc).1 (hy.at_ hc).1 (hz.at_ hc).1⟩
theorem cmpC_zero {c : Int} {ks : List Int} (hc : InK ks c) {a b : Row} (ha : GoodR ks a) (hb : GoodR ks b) (h : cmpC c a b = 0) : atV a c = atV b c :=
  cmpV_zero (ha.at_ hc).2 (hb.at_ hc).2 (by rw [(ha.at_ hc).1, (hb.at_ hc).1]) h
theorem first_group {c : Int} {ks : List Int} (hc : InK ks c) {r : Row} {t : List Row} (hg : GoodRs ks (r :: t)) (h : Rise (cmpC c) (r :: t)) :
    (r :: t).take (cnt c r t) = (r :: t).filter (fun x => decide (cmpC c x r = 0)) ∧ (r :: t).drop (cnt c r t) = (r :: t).filter (fun x => !decide (cmpC c x r = 0)) := by
  have o := cmpC_ord hc;have h' := List.pairwise_cons.1 h;have hr := hg r (by simp)
  have hpw : t.Pairwise (fun x y => decide (cmpC c y r = 0) = true → decide (cmpC c x r = 0) = true) := by
    refine List.Pairwise.imp_of_mem ?_ h'.2;intro x y hx hy hxy e;have hx' := hg x (by simp [hx]);have hy' := hg y (by simp [hy]);have e : cmpC c y r = 0 := (by simpa using e);have h1 := h'.1 x hx;have h2 := o.tr x y r hx' hy' hr hxy (by omega);have := o.sym x r hx' hr;simp; omega
  obtain ⟨h1, h2⟩ := tw_filter hpw;have hs : cmpC c r r = 0 := o.self hr;have e : cnt c r t = (t.takeWhile fun x => decide (cmpC c x r = 0)).length + 1 := Nat.add_comm ..;rw [e, List.take_succ_cons, List.drop_succ_cons, take_tw, drop_tw, h1, h2];simp [hs]
theorem runG_perm {c : Int} {ks : List Int} {ags : List Ag} (hc : InK ks c) (ha : ∀ a, a ∈ ags → InK ks a.col) : ∀ (w : Nat) (l1 l2 : List Row), l1.length ≤ w → l1.Perm l2 → GoodRs ks l1 → Rise (cmpC c) l1 → Rise (cmpC c) l2 → runG c ags w l1 = runG c ags w l2
  | w, [], l2, _, hp, _, _, _ => by rw [hp.nil_eq]
  | 0, _ :: _, _, h, _, _, _, _ => by simp at h
  | w + 1, r1 :: t1, [], _, hp, _, _, _ => by have := hp.length_eq; simp at this
  | w + 1, r1 :: t1, r2 :: t2, hw, hp, hg, h1, h2 => by
    have o := cmpC_ord hc;have hg2 := hg.perm hp;have k1 := hg r1 (by simp);have k2 := hg2 r2 (by simp)
    have le1 : cmpC c r1 r2 ≤ 0 := by
      have : r2 ∈ r1 :: t1 := hp.mem_iff.2 (by simp);rcases List.mem_cons.1 this with e | e
      · rw [e, o.self k1]; omega
      · exact (List.pairwise_cons.1 h1).1 r2 e
    have le2 : cmpC c r2 r1 ≤ 0 := by
      have : r1 ∈ r2 :: t2 := hp.mem_iff.1 (by simp);rcases List.mem_cons.1 this with e | e
      · rw [e, o.self k2]; omega
      · exact (List.pairwise_cons.1 h2).1 r1 e
    have s := o.sym r1 r2 k1 k2;have e0 := cmpC_zero hc k1 k2 (by omega);obtain ⟨a1, b1⟩ := first_group hc hg h1;obtain ⟨a2, b2⟩ := first_group hc hg2 h2;have ef : ∀ x, cmpC c x r1 = cmpC c x r2 := fun x => (by unfold cmpC; rw [e0]);simp only [ef] at a1 b1;have pt : ((r1 :: t1).take (cnt c r1 t1)).Perm ((r2 :: t2).take (cnt c r2 t2)) := (by rw [a1, a2]; exact hp.filter _);have pd : ((r1 :: t1).drop (cnt c r1 t1)).Perm ((r2 :: t2).drop (cnt c r2 t2)) := (by rw [b1, b2]; exact hp.filter _);have hgt : GoodRs ks ((r1 :: t1).take (cnt c r1 t1)) := fun x hx => hg x (List.mem_of_mem_take hx);have hc1 : 1 ≤ cnt c r1 t1 := (by unfold cnt; omega)
    have ih := runG_perm hc ha w _ _ (by simp only [List.length_drop, List.length_cons]; simp at hw; omega) pd (fun x hx => hg x (List.mem_of_mem_drop hx)) (h1.drop) (h2.drop);unfold runG;rw [oks_perm pt hgt ha, vals_perm pt hgt ha, ih, e0]
def grpF (c : Int) (ags : List Ag) (l : List Row) : List Row × Bool := runG c ags l.length (sortL (cmpC c) l)
theorem grp_rise {c : Int} {ks : List Int} {ags : List Ag} (hc : InK ks c) (ha : ∀ a, a ∈ ags → InK ks a.col) {l l' : List Row} (hg : GoodRs ks l) (hp : l'.Perm l) (h : Rise (cmpC c) l') : runG c ags l'.length l' = grpF c ags l := by
  unfold grpF;rw [← hp.length_eq];exact runG_perm hc ha _ _ _ (Nat.le_refl _) (hp.trans sortL_perm.symm) (hg.perm hp.symm) h (sortL_rise (cmpC_ord hc) hg)
theorem grp_srt {c : Int} {ks : List Int} {ags : List Ag} (hc : InK ks c) (ha : ∀ a, a ∈ ags → InK ks a.col) {l l' : List Row} (hg : GoodRs ks l) (hp : l'.Perm l) (h : Srt (cmpC c) l' 0 l.length) : runG c ags l'.length l' = grpF c ags l :=
  grp_rise hc ha hg hp (Srt.rise (cmpC_ord hc) (hg.perm hp.symm) (by rw [hp.length_eq]; exact h))
def grpsF (c : Int) (ags : List Ag) (l : List Row) : List Row × Bool := if c < 0 then (if oks l ags then [vals l ags] else [], oks l ags) else grpF c ags l
end Go.Lib
end

section
namespace Go.Dv
open Go.Vm
variable {p : Prog} {ext : Ext} {Q : ResD → Prop} {H0 H : HpD} {sz : Nat} {s : D} {el : List (List D)}
def FrLe (fr : FrD) : FrD → Prop
  | [] => True
  | (t, d) :: r => D.le (lk fr t) d ∧ FrLe fr r
theorem frLe_nil {fr : FrD} : FrLe fr [] = True := rfl
theorem frLe_cons {fr r : FrD} {t : Nat} {d : D} : FrLe fr ((t, d) :: r) = (D.le (lk fr t) d ∧ FrLe fr r) := rfl
theorem FrLe.lk {fr : FrD} : ∀ {fr' : FrD}, FrLe fr fr' → ∀ u, D.le (lk fr u) (lk fr' u)
  | [], _, u => by simp [Dv.lk, D.le]
  | (t, d) :: r, h, u => by
    rw [lk_cons];split
    · rename_i e; subst e; exact h.1
    · exact FrLe.lk h.2 u
theorem Weak.as {a : List D} {fr fr' : FrD} (h : FrLe fr fr') : Weak a fr H a fr' H :=
  fun ψ S _ _ _ s k kv => ⟨ψ, S, .refl, s, fun t => VD.le _ _ (h.lk t) (k t), kv⟩
theorem get1_0 {d : D} : [d][0]? = some d := rfl
theorem get2_0 {d e : D} : [d, e][0]? = some d := rfl
theorem get2_1 {d e : D} : [d, e][1]? = some e := rfl
attribute [simp] frLe_nil frLe_cons get1_0 get2_0 get2_1
theorem sem_as (fr' : FrD) {fr : FrD} {c : KC} {K : List KD} (h : FrLe fr fr') (hs : Sem p ext Q (.code c K .mk fr' H)) : Sem p ext Q (.code c K .mk fr H) := sem_weak (Weak.as h) hs
theorem sem_as_ok (fr' : FrD) {fr : FrD} {K : List KD} (h : FrLe fr fr') (hs : Sem p ext Q (.res (.ok fr' H) K .mk)) : Sem p ext Q (.res (.ok fr H) K .mk) := sem_weak_ok (Weak.as h) hs
theorem sem_turn_as_ok (fr' : FrD) (g : Gr H0 H sz s el) (t : Nat) {K : List KD} {fr : FrD} (ht : lk fr t = s) (hf : FrLe ((t, .row sz .p el) :: fr) fr')
    (hs : ∀ H', Sub H0 H' → (∀ x, ¬ s.hasB x → H'.blk x = H.blk x) → H'.next = H.next → Sem p ext Q (.res (.ok fr' H') K .mk)) : Sem p ext Q (.res (.ok fr H) K .mk) :=
  sem_turn_ok g t ht fun H' a b c => sem_as_ok fr' hf (hs H' a b c)
theorem splice_left {x : List D} : ∀ (a m : List D) (k : Nat), spliceD (a ++ m) (a.length + k) x = a ++ spliceD m k x
  | [], m, k => by simp
  | d :: a, m, k => by
    rw [List.cons_append, List.length_cons, show a.length + 1 + k = (a.length + k) + 1 from by omega, spliceD_succ, splice_left a m k]; rfl
theorem splice_whole {x : List D} (hx : x.length = sz) : ∀ {el : List (List D)} {i : Nat} {e : List D}, (∀ e, e ∈ el → e.length = sz) → el[i]? = some e → spliceD el.flatten (i * sz) x = (el.set i x).flatten
  | [], _, _, _, he => by simp at he
  | a :: l, 0, e, hs, he => by
    have ha := hs a (List.mem_cons_self ..);simp [spliceD_zero, hx, ← ha]
  | a :: l, i + 1, e, hs, he => by
    have ha := hs a (List.mem_cons_self ..);have ih := splice_whole hx (el := l) (i := i) (e := e) (fun y hy => hs y (List.mem_cons_of_mem _ hy)) (by simpa using he);simp only [List.flatten_cons, List.set_cons_succ];rw [show (i + 1) * sz = a.length + i * sz from by rw [ha, Nat.succ_mul]; omega, splice_left, ih]
theorem flat_get {j : Nat} : ∀ {el : List (List D)} {i : Nat} {e : List D}, (∀ e, e ∈ el → e.length = sz) → el[i]? = some e → j < sz → el.flatten[i * sz + j]? = e[j]?
  | [], _, _, _, he, _ => by simp at he
  | a :: l, 0, e, hs, he, hj => by
    have ha := hs a (List.mem_cons_self ..);simp at he; subst he;simp only [List.flatten_cons, Nat.zero_mul, Nat.zero_add];rw [List.getElem?_append_left (by omega)]
  | a :: l, i + 1, e, hs, he, hj => by
    have ha := hs a (List.mem_cons_self ..);have ih := flat_get (el := l) (i := i) (e := e) (fun y hy => hs y (List.mem_cons_of_mem _ hy)) (by simpa using he) hj;simp only [List.flatten_cons];rw [show (i + 1) * sz + j = a.length + (i * sz + j) from by rw [ha, Nat.succ_mul]; omega, List.getElem?_append_right (by omega), Nat.add_sub_cancel_left, ih]
theorem Gr.aside {H1 : HpD} {x : BD} (g : Gr H1 H sz s el) (h : Sub H0 H1) {b : Nat} (h0 : H0.next ≤ b) (hb : b < H1.next) : Gr H0 (H.put b x) sz s el := by
  refine ⟨(h.trans g.sub).put h0, g.len, ?_⟩;rcases g.at_ with h2 | ⟨b', ex, el0, rfl, h1, h2, h3, h4⟩
  · exact .inl h2
  · exact .inr ⟨b', ex, el0, rfl, by have := h.next; omega, h2, by rw [put_blk, if_neg (by omega)]; exact h3, h4⟩
theorem sem_exact {c : KC} {K : List KD} {fr : FrD} (g : Gr H0 H sz s el) (hs : ∀ H', GrX H0 H' sz s el → (∀ x, ¬ s.hasB x → H'.blk x = H.blk x) → H'.next = H.next → Sem p ext Q (.code c K .mk fr H')) : Sem p ext Q (.code c K .mk fr H) := by
  obtain ⟨H', w, g', k, n⟩ := g.exact;exact sem_weak (w _ _) (hs H' g' k n)
theorem GrX.keep {H1 : HpD} (g : GrX H0 H sz s el) (hs : Sub H H1) (hk : ∀ x, s.hasB x → H1.blk x = H.blk x) : GrX H0 H1 sz s el := by
  refine ⟨g.gr.mono hs, ?_⟩;rcases g.at_ with h | ⟨b, ex, rfl, h1, h2, h3⟩
  · exact .inl h
  · exact .inr ⟨b, ex, rfl, h1, by have := hs.next; omega, by rw [hk b rfl, h3]⟩
theorem GrX.whole {e x : List D} {i b : Nat} {ex : Bool} (g : GrX H0 H sz (.slice b 0 sz el.length el.length ex) el) (he : el[i]? = some e) (hx : x.length = sz) (h1 : H0.next ≤ b) (h2 : b < H.next) : GrX H0 (H.put b (.cells (spliceD el.flatten (i * sz) x) false)) sz (.slice b 0 sz el.length el.length ex) (el.set i x) := by
  rw [splice_whole hx g.gr.len he];refine ⟨⟨g.gr.sub.put h1, fun y hy => ?_, .inr ⟨b, ex, el.set i x, by simp, h1, h2, by simp, D.less_refl _⟩⟩, .inr ⟨b, ex, by simp, h1, h2, by simp⟩⟩;rcases List.mem_or_eq_of_mem_set hy with hy | rfl
  · exact g.gr.len y hy
  · exact hx
theorem GrX.cell {e : List D} {x : D} {i j b : Nat} {ex : Bool} (g : GrX H0 H sz (.slice b 0 sz el.length el.length ex) el) (he : el[i]? = some e) (hj : j < sz) (h1 : H0.next ≤ b) (h2 : b < H.next) : GrX H0 (H.put b (.cells (spliceD el.flatten (i * sz + j) [x]) false)) sz (.slice b 0 sz el.length el.length ex) (el.set i (e.set j x)) := by
  rw [spliceD_flatten g.gr.len he hj];refine ⟨⟨g.gr.sub.put h1, fun y hy => ?_, .inr ⟨b, ex, el.set i (e.set j x), by simp, h1, h2, by simp, D.less_refl _⟩⟩, .inr ⟨b, ex, by simp, h1, h2, by simp⟩⟩;rcases List.mem_or_eq_of_mem_set hy with hy | rfl
  · exact g.gr.len y hy
  · rw [List.length_set]; exact g.gr.len e (List.mem_of_getElem? he)
theorem SR.tellV {ψ : Nat → Option Nat} {S : Nat → Prop} {h : Hp} {b : Nat} {cs cs' : List D} {ro : Bool} (s : SR ψ S H h) (hb : H.blk b = .cells cs ro) (hl : ∀ l', VDl h ψ S cs l' → VDl h ψ S cs' l') : SR ψ S (H.put b (.cells cs' ro)) h :=
  ⟨s.inj, s.dom, s.frz, fun b' hg => by
    rw [put_blk] at hg ⊢
    by_cases e : b' = b
    · subst e;obtain ⟨c, h1, h2, h3⟩ := s.live b' (by rw [hb]; rfl);rw [hb] at h3;obtain ⟨l', e1, k⟩ := h3;refine ⟨c, h1, h2, ?_⟩;rw [if_pos rfl];exact ⟨l', e1, hl l' k⟩
    · rw [if_neg e] at hg ⊢
      exact s.live b' hg⟩
theorem Gr.incell (g : Gr H0 H sz s el) {b2 j : Nat} {cs : List D} {ro : Bool} (hb2 : H.blk b2 = .cells cs ro) (hj : cs[j]? = some s) (hne : ¬ s.hasB b2) :
    ∃ H', (∀ a fr, Weak a fr H a fr H') ∧ H'.blk b2 = .cells (cs.set j (.row sz .p el)) ro ∧ (∀ x, x ≠ b2 → ¬ s.hasB x → H'.blk x = H.blk x) ∧ H'.next = H.next ∧ ∀ H1, Sub H1 H → H1.next ≤ H0.next → H1.next ≤ b2 → Sub H1 H' := by
  rcases g.at_ with ⟨rfl, rfl⟩ | ⟨b, ex, el0, rfl, h1, h2, h3, h4⟩
  · refine ⟨H.put b2 (.cells (cs.set j (.row sz .p [])) ro), fun a fr => ?_, by simp, fun x hx _ => by rw [put_blk, if_neg hx], by simp, fun H1 hs _ h2 => hs.put h2⟩;intro ψ S h fv vs sr kf kv;exact ⟨ψ, S, .refl, sr.tellV hb2 fun l' k => k.setD hj fun v hv => VD.le (.lit .nilslice) _ (by simp [D.le]) hv, kf, kv⟩
  · have hb : b2 ≠ b := fun e => hne (by simp only [D.hasB]; omega);refine ⟨(H.put b .gone).put b2 (.cells (cs.set j (.row sz .p el)) ro), fun a fr => ?_, by simp, fun x hx hx2 => ?_, by simp, fun H1 hs h0 h2 => (hs.put (by omega)).put h2⟩
    · intro ψ S h fv vs sr kf kv;have hel := less_length h4;obtain ⟨c, hc, hr⟩ := frz_row sr h3 (less_sz h4 g.len);obtain ⟨x0, s0⟩ := sr.freeze hc;refine ⟨ψ, _, x0, s0.tellV (cs := cs) (by rw [put_blk, if_neg hb]; exact hb2) fun l' k => k.setD hj fun v hv => ?_, kf.mono x0, VDl.mono x0 _ kv⟩;simp only [VD] at hv;obtain ⟨c', e, e2⟩ := hv;rw [hc] at e; cases e;rw [e2];rw [← hel];refine VD.le _ _ ?_ (hr _ _ (Nat.le_refl _));simp [D.le, h4]
    · rw [put_blk, if_neg hx, put_blk, if_neg];exact fun e => hx2 (by simp only [D.hasB]; omega)
theorem Gr.last {t : D} {H1 : HpD} {pre : List (List D)} (g : Gr H0 H 1 t (pre ++ [[s]])) (gs : Gr H1 H sz s el) (h01 : H0.next ≤ H1.next) (hne : ∀ x, t.hasB x → ¬ s.hasB x) :
    ∃ H', (∀ a fr, Weak a fr H a fr H') ∧ Gr H0 H' 1 t (pre ++ [[.row sz .p el]]) ∧ (∀ x, ¬ t.hasB x → ¬ s.hasB x → H'.blk x = H.blk x) ∧ H'.next = H.next := by
  obtain ⟨H2, w, g2, k2, n2⟩ := g.exact;rcases g2.at_ with ⟨_, he⟩ | ⟨b, ex, rfl, h1, h2, h3⟩
  · simp at he
  · have hpre : pre.flatten.length = pre.length := by
      rw [flatten_len (sz := 1) fun e he => g.len e (List.mem_append_left _ he)]; omega
    have hsb : ¬ s.hasB b := hne b (by simp [D.hasB])
    have gs2 : Gr H2 H2 sz s el ∨ ∃ b' ex' el0, s = .slice b' 0 sz el.length el.length ex' ∧ H1.next ≤ b' ∧ b' < H2.next ∧ H2.blk b' = .cells el0.flatten false ∧ D.less el0 el := by
      rcases gs.at_ with ⟨h, h'⟩ | ⟨b', ex', el0, rfl, h1', h2', h3', h4'⟩
      · exact .inl ⟨.refl, gs.len, .inl ⟨h, h'⟩⟩
      · refine .inr ⟨b', ex', el0, rfl, h1', by omega, ?_, h4'⟩;have hb : ¬ b' = b := fun e => hsb (by simp only [D.hasB]; omega);rw [k2 b' (by simp only [D.hasB]; exact hb)]; exact h3'
    have gs3 : ∃ H3, Gr H3 H2 sz s el ∧ H3.next = min H1.next H2.next ∧ ∀ x, H3.blk x = H2.blk x := by
      rcases gs2 with g | ⟨b', ex', el0, rfl, h1', h2', h3', h4'⟩
      · rcases g.at_ with h | ⟨b', ex', el0, rfl, h1', h2', _, _⟩
        · exact ⟨⟨min H1.next H2.next, H2.blk⟩, ⟨⟨by simp; omega, fun _ _ => rfl⟩, g.len, .inl h⟩, rfl, fun _ => rfl⟩
        · omega
      · exact ⟨⟨min H1.next H2.next, H2.blk⟩, ⟨⟨by simp; omega, fun _ _ => rfl⟩, gs.len, .inr ⟨b', ex', el0, rfl, by simp; omega, h2', h3', h4'⟩⟩, rfl, fun _ => rfl⟩
    obtain ⟨H3, g3, n3, _⟩ := gs3
    have hcell : (pre ++ [[s]]).flatten[pre.length]? = some s := by
      rw [List.flatten_append, List.getElem?_append_right (by omega), hpre]; simp
    have hset : (pre ++ [[s]]).flatten.set pre.length (D.row sz .p el) = (pre ++ [[D.row sz .p el]]).flatten := by
      rw [List.flatten_append, List.flatten_append, List.set_append, if_neg (by omega), hpre]; simp
    obtain ⟨H4, w4, c4, k4, n4, sub4⟩ := g3.incell h3 hcell hsb;rw [hset] at c4;have hn0 := g.sub.next;have h3n : H0.next ≤ H3.next := (by rw [n3]; omega);refine ⟨H4, fun a fr => (w a fr).trans (w4 a fr), ⟨sub4 H0 g2.gr.sub h3n h1, fun e he => ?_, .inr ⟨b, ex, pre ++ [[.row sz .p el]], by simp, h1, by omega, c4, D.less_refl _⟩⟩, fun x hx hx2 => ?_, by omega⟩
    · rcases List.mem_append.1 he with he | he
      · exact g.len e (List.mem_append_left _ he)
      · simp at he; subst he; rfl
    · rw [k4 x (fun e => hx (by simp only [D.hasB]; omega)) hx2, k2 x hx]
theorem sem_last_ok {t : D} {H1 : HpD} {pre : List (List D)} (g : Gr H0 H 1 t (pre ++ [[s]])) (gs : Gr H1 H sz s el) (h01 : H0.next ≤ H1.next) (hne : ∀ x, t.hasB x → ¬ s.hasB x) {K : List KD} {fr : FrD}
    (hs : ∀ H', Gr H0 H' 1 t (pre ++ [[.row sz .p el]]) → (∀ x, ¬ t.hasB x → ¬ s.hasB x → H'.blk x = H.blk x) → H'.next = H.next → Sem p ext Q (.res (.ok fr H') K .mk)) : Sem p ext Q (.res (.ok fr H) K .mk) := by
  obtain ⟨H', w, g', k', n'⟩ := g.last gs h01 hne;exact sem_weak_ok (w _ _) (hs H' g' k' n')
theorem Gr.far (g : Gr H0 H sz s el) {x : Nat} (h : s.hasB x) : H0.next ≤ x ∧ x < H.next := by
  rcases g.at_ with ⟨rfl, _⟩ | ⟨b, ex, el0, rfl, h1, h2, _⟩
  · simp [D.hasB] at h
  · simp only [D.hasB] at h; subst h; exact ⟨h1, h2⟩
theorem Gr.rest {H3 : HpD} (g : Gr H0 H sz s el) (hn : H.next ≤ H3.next) (hk : ∀ x, s.hasB x → H3.blk x = H.blk x) : Gr ⟨H0.next, H3.blk⟩ H3 sz s el := by
  refine ⟨⟨Nat.le_trans g.sub.next hn, fun _ _ => rfl⟩, g.len, ?_⟩;rcases g.at_ with h | ⟨b, ex, el0, rfl, h1, h2, h3, h4⟩
  · exact .inl h
  · exact .inr ⟨b, ex, el0, rfl, h1, by omega, by rw [hk b (by simp only [D.hasB])]; exact h3, h4⟩
theorem Gr.base {H1 : HpD} (g : Gr H1 H sz s el) (h : Sub H0 H1) : Gr H0 H sz s el := by
  refine ⟨h.trans g.sub, g.len, ?_⟩;rcases g.at_ with h2 | ⟨b, ex, el0, rfl, h1, h2, h3, h4⟩
  · exact .inl h2
  · exact .inr ⟨b, ex, el0, rfl, Nat.le_trans h.next h1, h2, h3, h4⟩
theorem WcD.via {f : Nat} {args args' : List D} {H' : HpD} {R : D → HpD → Prop} (w : Weak args [] H args' [] H') (hw : WcD p ext f args' H' R) : WcD p ext f args H R := by
  intro ψ S h vs s k;obtain ⟨ψ1, S1, x1, s1, _, k1⟩ := w ψ S h (.leaf) vs s (fun t => by simp [Dv.lk, VD]) k;refine (hw ψ1 S1 h vs s1 k1).mono fun v h' ⟨ψ', S', d, H2, a, b, c, e⟩ => ⟨ψ', S', d, H2, x1.trans a, b, c, e⟩
theorem wc_own {f : Nat} {d : D} (g : Gr H0 H sz s el) (hf : FnD p ext f [.row sz .p el] d) : WcD p ext f [s] H fun d' H' => d' = d ∧ Sub H0 H' ∧ (∀ x, ¬ s.hasB x → H'.blk x = H.blk x) ∧ H'.next = H.next := by
  obtain ⟨H', w, s', k, n⟩ := g.arg 0 (args := [s]) (fr := []) rfl (m := .p) (by simp);refine WcD.via w ((hf H').mono ?_);rintro d' H2 ⟨rfl, rfl⟩;exact ⟨rfl, s', k, n⟩
theorem flat_slice : ∀ {el : List (List D)} {i : Nat} {e : List D}, (∀ e, e ∈ el → e.length = sz) → el[i]? = some e → (el.flatten.drop (i * sz)).take sz = e
  | [], _, _, _, he => by simp at he
  | a :: l, 0, e, hs, he => by
    have ha := hs a (List.mem_cons_self ..);simp at he; subst he;simp only [List.flatten_cons, Nat.zero_mul, List.drop_zero, ← ha, List.take_left]
  | a :: l, i + 1, e, hs, he => by
    have ha := hs a (List.mem_cons_self ..);have ih := flat_slice (el := l) (i := i) (e := e) (fun y hy => hs y (List.mem_cons_of_mem _ hy)) (by simpa using he);simp only [List.flatten_cons];rw [show (i + 1) * sz = a.length + i * sz from by rw [ha, Nat.succ_mul]; omega, ← List.drop_drop, List.drop_left, ih]
theorem WeakV.part1 {b o n cap : Nat} {ex ro : Bool} {cs : List D} (hb : H.blk b = .cells cs ro) (he : ∀ e, e ∈ el → e.length = sz) (hl : el.length = n) (hc : (cs.drop o).take (n * sz) = el.flatten) (hn : n ≤ cap) :
    WeakV (.slice b o sz n cap ex) H (.row sz .p el) (H.put b .gone) := by
  intro ψ S h v sr kv
  obtain ⟨c, h1, h2, l', h3, h4⟩ : ∃ c, ψ b = some c ∧ ¬ S c ∧ ∃ l', h.blk c = .cells l' ro ∧ VDl h ψ S cs l' := by
    obtain ⟨c, h1, h2, h3⟩ := sr.live b (by rw [hb]; rfl);rw [hb] at h3;exact ⟨c, h1, h2, h3⟩
  obtain ⟨x0, s0⟩ := sr.freeze h1;refine ⟨ψ, _, x0, s0, ?_⟩;simp only [VD] at kv ⊢;obtain ⟨c', e, rfl⟩ := kv;rw [h1] at e; cases e;refine .inr ⟨c, o, cap, ex, by rw [hl], by rw [hl]; exact hn, fun e => (by cases e), .inr ⟨l', ro, .inr rfl, h3, ?_⟩⟩;have k1 := VDl.take (n * sz) (VDl.drop o h4);rw [hc] at k1;have := VDss.of (us := (l'.drop o).drop (n * sz)) he (VDl.mono x0 _ k1)
  rwa [List.take_append_drop] at this
structure Part (H0 H : HpD) (sz : Nat) (s : D) (el : List (List D)) : Prop where
  sub : Sub H0 H
  len : ∀ e, e ∈ el → e.length = sz
  at_ : (s = .lit .nilslice ∧ el = []) ∨ ∃ b o cap ex cs, s = .slice b o sz el.length cap ex ∧ el.length ≤ cap ∧ H0.next ≤ b ∧ b < H.next ∧ H.blk b = .cells cs false ∧ (cs.drop o).take (el.length * sz) = el.flatten
theorem Part.fin {H0 H : HpD} {s : D} (g : Part H0 H sz s el) : ∃ H2, WeakV s H (.row sz .p el) H2 ∧ Sub H0 H2 := by
  rcases g.at_ with ⟨rfl, rfl⟩ | ⟨b, o, cap, ex, cs, rfl, h0, h1, h2, h3, h4⟩
  · exact ⟨H, .le (by simp [D.le]), g.sub⟩
  · exact ⟨_, WeakV.part1 h3 g.len rfl h4 h0, g.sub.put h1⟩
theorem splice_one {x : D} : ∀ {cs : List D} {i : Nat}, i < cs.length → spliceD cs i [x] = cs.set i x
  | [], _, h => by simp at h
  | c :: cs, 0, _ => by simp [spliceD_zero]
  | c :: cs, i + 1, h => by rw [spliceD_succ, splice_one (by simpa using h)]; rfl
theorem splice_take {x : List D} : ∀ {cs : List D} {i : Nat}, i ≤ cs.length → (spliceD cs i x).take i = cs.take i
  | cs, 0, _ => by simp
  | [], i + 1, h => by simp at h
  | c :: cs, i + 1, h => by rw [spliceD_succ]; simp only [List.take_succ_cons]; rw [splice_take (by simpa using h)]
end Go.Dv
end
