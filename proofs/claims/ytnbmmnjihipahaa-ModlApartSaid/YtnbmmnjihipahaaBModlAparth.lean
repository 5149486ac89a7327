/-
  Texts that the claim's last one rests on, joined.
-/
import Derived.Test.YtnbmmnjihipahaaBModlApartg
import Derived.Test.YtnbmmnjihipahaaBModlApartf
import Derived.Test.YtnbmmnjihipahaaBModlApartc

section
set_option maxRecDepth 10000
namespace Go.Lib
open Go.Vm Go.Dv Go.Srt
variable {p : Prog} {ext : Ext} {F : Nat → Nat} {α : Type}
structure HSrt (p : Prog) (ext : Ext) (F : Nat → Nat) : Prop where
  h26 : Has p ext F 26 M26
  h27 : Has p ext F 27 M27
  h28 : Has p ext F 28 M28
  h29 : Has p ext F 29 M29
  h30 : Has p ext F 30 M30
  h31 : Has p ext F 31 M31
structure Enc (α : Type) where
  d : α → D
  flat : ∀ x, flatD (d x) = true
  cells : ∀ x, cellsD (d x) = some [d x]
attribute [simp] Enc.flat Enc.cells
def hp (E : Enc α) (H : HpD) (bs : Nat) (L : List α) : HpD := H.put bs (.cells (L.map E.d) false)
theorem hp_blk {E : Enc α} {H : HpD} {bs : Nat} {L : List α} : (hp E H bs L).blk bs = .cells (L.map E.d) false := by simp [hp]
theorem put_put {H : HpD} {bs : Nat} {x y : BD} : (H.put bs x).put bs y = H.put bs y := by
  simp only [HpD.put]
  congr 1
  funext c
  by_cases h : c = bs <;> simp [h]
theorem hp_put {E : Enc α} {H : HpD} {bs : Nat} {L : List α} {l : List D} : (hp E H bs L).put bs (.cells l false) = H.put bs (.cells l false) := by
  simp only [hp, HpD.put]
  congr 1
  funext c
  by_cases h : c = bs <;> simp [h]
theorem hp_self {E : Enc α} {H : HpD} {bs : Nat} {L : List α} (h : H.blk bs = .cells (L.map E.d) false) : hp E H bs L = H := by
  simp only [hp, HpD.put]
  rw [← h]
  cases H
  simp only [HpD.mk.injEq, true_and]
  funext c
  by_cases h : c = bs <;> simp [h]
theorem hp_next {E : Enc α} {H : HpD} {bs : Nat} {L : List α} : (hp E H bs L).next = H.next := rfl
attribute [simp] hp_blk hp_next hp_put put_put
abbrev sl (bs n c : Nat) (ex : Bool) : D := .slice bs 0 1 n c ex
abbrev iD (n : Nat) : D := .lit (.int .i64 (n : Int))
def SwpI (E : Enc α) (H : HpD) (bs c : Nat) (ex : Bool) (X : List α) (a b m k : Nat) (fr : FrD) (H' : HpD) : Prop :=
  ∃ i : Nat, k = m - i ∧ i ≤ m ∧ fr = [(0, sl bs X.length c ex), (1, iD a), (2, iD b), (3, iD m), (10, iD i)] ∧ H' = hp E H bs (swpR X a b i)
theorem set_map {E : Enc α} {X : List α} {i : Nat} {x : α} : (X.map E.d).set i (E.d x) = (X.set i x).map E.d := by rw [List.map_set]
theorem hp_swp {E : Enc α} {H : HpD} {bs : Nat} {X : List α} {i j : Nat} {x y : α} (hx : X[i]? = some x) (hy : X[j]? = some y) : H.put bs (.cells (((X.map E.d).set i (E.d y)).set j (E.d x)) false) = hp E H bs (swp X i j) := by
  rw [set_map, set_map, swp_eq hx hy, hp]
theorem get_of {X : List α} {n : Nat} (h : n < X.length) : ∃ x, X[n]? = some x := ⟨X[n], by simp [h]⟩
theorem spliceD_one : ∀ {X : List D} {i : Nat} {x : D}, i < X.length → spliceD X i [x] = X.set i x
  | d :: l, 0, x, _ => rfl
  | d :: l, i + 1, x, h => by
    simp only [spliceD, List.set_cons_succ]
    rw [spliceD_one (by simpa using h)]
  | [], _, _, h => by simp at h
theorem swapRange (L : HSrt p ext F) {E : Enc α} {H : HpD} {bs c : Nat} {ex : Bool} {X : List α} {cv : D} (hbs : bs < H.next) (hX : X.length < 1000000) {a b m : Nat} (h1 : a + m ≤ b) (h2 : b + m ≤ X.length) : WcD p ext (F 31) [sl bs X.length c ex, iD a, iD b, iD m, cv] (hp E H bs X) (fun d H' => d = .tup [] ∧ H' = hp E H bs (swpR X a b m)) := by
  refine wc_of L.h31 (M := M31) rfl ok31 rfl (sem_run 9000 _ ?_)
  simp
  refine sem_loop (SwpI E H bs c ex X a b m) ?_ (k := m) ⟨0, by simp, by simp, by simp, rfl⟩
  rintro k fr H' ⟨i, rfl, hi, rfl, rfl⟩
  refine sem_run 9000 _ ?_
  simp
  by_cases c1 : i < m
  · have w1 : wr .i64 ((a : Int) + i) = ((a + i : Nat) : Int) := by rw [wr_of] <;> omega
    have w2 : wr .i64 ((b : Int) + i) = ((b + i : Nat) : Int) := by rw [wr_of] <;> omega
    have w3 : wr .i64 ((i : Int) + 1) = ((i + 1 : Nat) : Int) := by rw [wr_of] <;> omega
    have ha : a + i < X.length := by omega
    have hb : b + i < X.length := by omega
    obtain ⟨x, gx⟩ := get_of (X := swpR X a b i) (n := a + i) (by rw [swpR_length]; omega)
    obtain ⟨y, gy⟩ := get_of (X := swpR X a b i) (n := b + i) (by rw [swpR_length]; omega)
    have s1 := spliceD_one (X := (swpR X a b i).map E.d) (i := a + i) (x := E.d y) (by simp [swpR_length]; omega)
    have s2 := spliceD_one (X := ((swpR X a b i).map E.d).set (a + i) (E.d y)) (i := b + i) (x := E.d x) (by simp [swpR_length]; omega)
    have l1 : a + i + 1 ≤ X.length := by omega
    have l2 : b + i + 1 ≤ X.length := by omega
    simp [c1, w1, w2, w3, ha, hb, gx, gy, s1, s2, hbs, swpR_length, l1, l2, hp_swp gx gy, -Int.natCast_add, -List.map_set, -getElem?_pos]
    refine sem_ok ?_
    exact ⟨_, by omega, i + 1, rfl, by omega, rfl, by simp [hp, swpR]⟩
  · have : i = m := by omega
    subst this
    simp [c1]
    refine sem_exit (sem_run 9000 _ ?_)
    simp
    refine sem_ok ?_
    simp [M31]
def RotI (E : Enc α) (H : HpD) (bs c : Nat) (ex : Bool) (X : List α) (cv : D) (a m b k : Nat) (fr : FrD) (H' : HpD) : Prop :=
  ∃ (i j : Nat) (Y : List α), k = i + j ∧ 0 < i ∧ 0 < j ∧ i ≤ m ∧ m + j ≤ X.length ∧ fr = [(0, sl bs X.length c ex), (2, iD m), (4, cv), (10, iD i), (11, iD j)] ∧
    H' = hp E H bs Y ∧ Y.Perm X ∧ ∀ Z, RotR Y Z (m - i) m (m + j) → RotR X Z a m b
theorem rotate (L : HSrt p ext F) {E : Enc α} {H : HpD} {bs c : Nat} {ex : Bool} {X : List α} {cv : D} (hbs : bs < H.next) (hX : X.length < 1000000) {a m b : Nat} (h1 : a < m) (h2 : m < b) (h3 : b ≤ X.length) : WcD p ext (F 30) [sl bs X.length c ex, iD a, iD m, iD b, cv] (hp E H bs X) (fun d H' => d = .tup [] ∧ ∃ X', H' = hp E H bs X' ∧ X'.Perm X ∧ RotR X X' a m b) := by
  refine wc_of L.h30 (M := M30) rfl ok30 rfl (sem_run 9000 _ ?_)
  have w1 : wr .i64 ((m : Int) - a) = ((m - a : Nat) : Int) := by rw [wr_of] <;> omega
  have w2 : wr .i64 ((b : Int) - m) = ((b - m : Nat) : Int) := by rw [wr_of] <;> omega
  simp [w1, w2]
  refine sem_loop (RotI E H bs c ex X cv a m b) ?_ (k := (m - a) + (b - m)) ⟨m - a, b - m, X, rfl, by omega, by omega, by omega, by omega, by simp, rfl, .refl _, fun Z hr => by
      rwa [show m - (m - a) = a by omega, show m + (b - m) = b by omega] at hr⟩
  rintro k fr H' ⟨i, j, Y, rfl, hi0, hj0, hi, hj, rfl, rfl, hp, hr⟩
  refine sem_run 9000 _ ?_
  simp
  have hl : Y.length = X.length := hp.length_eq
  have w3 : wr .i64 ((m : Int) - i) = ((m - i : Nat) : Int) := by rw [wr_of] <;> omega
  rcases Nat.lt_trichotomy i j with c1 | c1 | c1
  · have d1 : ¬ ((i : Int) = j) := by omega
    have d2 : ¬ j < i := by omega
    have w4 : wr .i64 ((m : Int) + j) = ((m + j : Nat) : Int) := by rw [wr_of] <;> omega
    have w5 : wr .i64 (((m + j : Nat) : Int) - i) = ((m + j - i : Nat) : Int) := by rw [wr_of] <;> omega
    have w6 : wr .i64 ((j : Int) - i) = ((j - i : Nat) : Int) := by rw [wr_of] <;> omega
    simp [d1, d2, w3, w4, w5, -Int.natCast_add]
    have sp := swapRange L (E := E) (H := H) (c := c) (ex := ex) (X := Y) (cv := cv) hbs (by omega) (a := m - i) (b := m + j - i) (m := i) (by omega) (by omega)
    rw [hl] at sp
    refine sem_call sp ?_
    rintro _ _ ⟨rfl, rfl⟩
    refine sem_run 9000 _ ?_
    simp [w6]
    refine sem_ok ?_
    exact ⟨i + (j - i), by omega, i, j - i, swpR Y (m - i) (m + j - i) i, rfl, hi0, by omega, hi, by omega, rfl, rfl, swpR_perm.trans hp, fun Z h => hr Z (rot_less hi c1 (by omega) h)⟩
  · subst c1
    simp
    refine sem_exit (sem_run 9000 _ ?_)
    simp [w3]
    have sp := swapRange L (E := E) (H := H) (c := c) (ex := ex) (X := Y) (cv := cv) hbs (by omega) (a := m - i) (b := m) (m := i) (by omega) (by omega)
    rw [hl] at sp
    refine sem_call sp ?_
    rintro _ _ ⟨rfl, rfl⟩
    refine sem_run 9000 _ ?_
    simp
    refine sem_ok ?_
    simp [M30]
    exact ⟨_, rfl, swpR_perm.trans hp, hr _ (rot_same hi (by omega))⟩
  · have d1 : ¬ ((i : Int) = j) := by omega
    have w6 : wr .i64 ((i : Int) - j) = ((i - j : Nat) : Int) := by rw [wr_of] <;> omega
    simp [d1, c1, w3]
    have sp := swapRange L (E := E) (H := H) (c := c) (ex := ex) (X := Y) (cv := cv) hbs (by omega) (a := m - i) (b := m) (m := j) (by omega) (by omega)
    rw [hl] at sp
    refine sem_call sp ?_
    rintro _ _ ⟨rfl, rfl⟩
    refine sem_run 9000 _ ?_
    simp [w6]
    refine sem_ok ?_
    exact ⟨i - j + j, by omega, i - j, j, swpR Y (m - i) m j, rfl, by omega, hj0, by omega, by omega, rfl, rfl, swpR_perm.trans hp, fun Z h => hr Z (rot_more hi c1 (by omega) (by rwa [show m - i + j = m - (i - j) by omega]))⟩
structure Cmp (p : Prog) (ext : Ext) (E : Enc α) (D : α → Prop) (cv : Dv.D) (cmp : α → α → Int) : Prop where
  fn : ∃ g a c, cv = .func g a c ∧ ∀ x y, D x → D y → FnD p ext g (a ++ E.d x :: E.d y :: c) (.lit (.int .i64 (cmp x y)))
  anti : ∀ x y, D x → D y → cmp x y < 0 → ¬ cmp y x < 0
  trans : ∀ x y z, D x → D y → D z → ¬ cmp y x < 0 → ¬ cmp z y < 0 → ¬ cmp z x < 0
def InsI (E : Enc α) (H : HpD) (bs c : Nat) (ex : Bool) (n : Nat) (cv : D) (cmp : α → α → Int) (X : List α) (a b i k : Nat) (fr : FrD) (H' : HpD) : Prop :=
  ∃ (j : Nat) (Y : List α), k = j ∧ a ≤ j ∧ j ≤ i ∧ fr = [(0, sl bs n c ex), (1, iD a), (2, iD b), (3, cv), (8, iD i), (9, iD j)] ∧
    H' = hp E H bs Y ∧ Mix X Y a b ∧ (∀ p q x y, a ≤ p → p < q → q ≤ i → p ≠ j → q ≠ j → Y[p]? = some x → Y[q]? = some y → ¬ cmp y x < 0) ∧ ∀ q x y, j < q → q ≤ i → Y[j]? = some x → Y[q]? = some y → ¬ cmp y x < 0
def InsO (E : Enc α) (H : HpD) (bs c : Nat) (ex : Bool) (n : Nat) (cv : D) (cmp : α → α → Int) (X : List α) (a b k : Nat) (fr : FrD) (H' : HpD) : Prop :=
  ∃ (i : Nat) (Y : List α), k = b + 1 - i ∧ a < i ∧ i ≤ max b (a + 1) ∧ fr = [(0, sl bs n c ex), (1, iD a), (2, iD b), (3, cv), (8, iD i)] ∧
    H' = hp E H bs Y ∧ Mix X Y a b ∧ Srt cmp Y a i
theorem insertion (L : HSrt p ext F) {E : Enc α} {H : HpD} {bs c : Nat} {ex : Bool} {X : List α} {cv : D} {G : α → Prop} {cmp : α → α → Int} (hc : Cmp p ext E G cv cmp) (hbs : bs < H.next) (hX : X.length < 1000000) (hG : ∀ x, x ∈ X → G x) {a b : Nat} (hab : a ≤ b) (hbl : b ≤ X.length) : WcD p ext (F 28) [sl bs X.length c ex, iD a, iD b, cv] (hp E H bs X) (fun d H' => d = .tup [] ∧ ∃ X', H' = hp E H bs X' ∧ Mix X X' a b ∧ Srt cmp X' a b) := by
  refine wc_of L.h28 (M := M28) rfl ok28 rfl (sem_run 9000 _ ?_)
  obtain ⟨g, ga, gc, rfl, hcall⟩ := hc.fn
  have w1 : wr .i64 ((a : Int) + 1) = ((a + 1 : Nat) : Int) := by rw [wr_of] <;> omega
  simp [w1, -Int.natCast_add]
  refine sem_loop (InsO E H bs c ex X.length (.func g ga gc) cmp X a b) ?_ (k := b + 1 - (a + 1)) ⟨a + 1, X, rfl, by omega, by omega, rfl, rfl, .refl, fun p q x y h1 h2 h3 => by omega⟩
  rintro k fr H' ⟨i, Y, rfl, hai, hib, rfl, rfl, hm, hsrt⟩
  refine sem_run 9000 _ ?_
  simp
  by_cases c1 : i < b
  · have hl : Y.length = X.length := hm.perm.length_eq
    simp [c1]
    refine sem_loop (InsI E H bs c ex X.length (.func g ga gc) cmp X a b i) ?_ (k := i) ⟨i, Y, rfl, by omega, by omega, rfl, rfl, hm, fun p q x y h1 h2 h3 h4 h5 => hsrt p q x y h1 h2 (by omega), fun q x y h1 h2 => by omega⟩
    rintro j fr H' ⟨_, Z, rfl, haj, hji, rfl, rfl, hm2, hso, hsj⟩
    refine sem_run 9000 _ ?_
    simp
    have hl2 : Z.length = X.length := hm2.perm.length_eq
    have w4 : wr .i64 ((i : Int) + 1) = ((i + 1 : Nat) : Int) := by rw [wr_of] <;> omega
    by_cases c2 : a < j
    · have w5 : wr .i64 ((j : Int) - 1) = ((j - 1 : Nat) : Int) := by rw [wr_of] <;> omega
      obtain ⟨x, gx⟩ := get_of (X := Z) (n := j) (by omega)
      obtain ⟨y, gy⟩ := get_of (X := Z) (n := j - 1) (by omega)
      have hxm : x ∈ X := hm2.perm.mem_iff.1 (List.mem_of_getElem? gx)
      have hym : y ∈ X := hm2.perm.mem_iff.1 (List.mem_of_getElem? gy)
      have l1 : j < X.length := by omega
      have l2 : j - 1 < X.length := by omega
      simp [c2, w5, gx, gy, l1, l2, hbs, -getElem?_pos]
      refine sem_dfn (hcall x y (hG x hxm) (hG y hym)) (by first | exact D.les_refl _ | simp) (sem_run 9000 _ ?_)
      simp
      by_cases c3 : cmp x y < 0
      · have s1 := spliceD_one (X := Z.map E.d) (i := j) (x := E.d y) (by simp; omega)
        have s2 := spliceD_one (X := (Z.map E.d).set j (E.d y)) (i := j - 1) (x := E.d x) (by simp; omega)
        have l3 : j + 1 ≤ X.length := by omega
        have l4 : j - 1 + 1 ≤ X.length := by omega
        simp [c3, w5, gx, gy, l1, l2, l3, l4, hl2, s1, s2, hbs, hp_swp gx gy, -List.map_set, -getElem?_pos]
        refine sem_ok ?_
        have hlj : j < Z.length := by omega
        have hlj1 : j - 1 < Z.length := by omega
        have hg := swp_get hlj hlj1
        refine ⟨j - 1, by omega, j - 1, swp Z j (j - 1), rfl, by omega, by omega, rfl, by simp [hp], hm2.trans (Mix.swp (by omega) (by omega) (by omega)), fun p q u v h1 h2 h3 h4 h5 h6 h7 => ?_, fun q u v h1 h2 h3 h4 => ?_⟩
        · rw [hg, if_neg h4] at h6
          rw [hg, if_neg h5] at h7
          split at h6
          · rename_i hp
            rw [if_neg (by omega)] at h7
            exact hso (j - 1) q u v (by omega) (by omega) h3 (by omega) (by omega) h6 h7
          · rename_i hp
            split at h7
            · exact hso p (j - 1) u v h1 (by omega) (by omega) hp (by omega) h6 h7
            · rename_i hq'
              exact hso p q u v h1 h2 h3 hp hq' h6 h7
        · rw [hg, if_pos rfl, gx] at h3
          rw [hg, if_neg (by omega)] at h4
          cases h3
          split at h4
          · rw [gy] at h4; cases h4
            exact hc.anti _ _ (hG _ hxm) (hG _ hym) c3
          · exact hsj q x v (by omega) h2 gx h4
      · simp [c3]
        refine sem_exit (sem_run 9000 _ ?_)
        simp [w4]
        refine sem_ok ?_
        refine ⟨b + 1 - (i + 1), by omega, i + 1, Z, rfl, by omega, by omega, by simp, rfl, hm2, fun p q u v h1 h2 h3 h4 h5 => ?_⟩
        by_cases hp : p = j
        · subst hp; exact hsj q u v h2 (by omega) h4 h5
        · by_cases hq' : q = j
          · subst hq'
            rw [gx] at h5; cases h5
            by_cases hp1 : p = q - 1
            · subst hp1; rw [gy] at h4; cases h4; exact c3
            · have hGu : G u := hG u (hm2.perm.mem_iff.1 (List.mem_of_getElem? h4))
              exact hc.trans u y x hGu (hG y hym) (hG x hxm) (hso p (q - 1) u y h1 (by omega) (by omega) hp (by omega) h4 gy) c3
          · exact hso p q u v h1 h2 (by omega) hp hq' h4 h5
    · have : j = a := by omega
      subst this
      simp
      refine sem_exit (sem_run 9000 _ ?_)
      simp [w4]
      refine sem_ok ?_
      refine ⟨b + 1 - (i + 1), by omega, i + 1, Z, rfl, by omega, by omega, by simp, rfl, hm2, fun p q x y h1 h2 h3 h4 h5 => ?_⟩
      by_cases hp : p = j
      · subst hp; exact hsj q x y h2 (by omega) h4 h5
      · exact hso p q x y h1 h2 (by omega) hp (by omega) h4 h5
  · simp [c1]
    refine sem_exit (sem_run 9000 _ ?_)
    simp
    refine sem_ok ?_
    simp [M28]
    exact ⟨Y, rfl, hm, fun p q x y h1 h2 h3 => hsrt p q x y h1 h2 (by omega)⟩
theorem mid_of {n : Nat} (h : n < 4000000) : wr .i64 (shrI .u64 (wr .u64 (n : Int)) 1) = ((n / 2 : Nat) : Int) := by
  have e0 : Nat.blt n (hiN .u64) = true := nblt.2 (by simp only [hiN]; omega)
  have e1 : wr .u64 (n : Int) = (n : Int) := by
    show cond (Nat.blt n (hiN .u64)) _ _ = _
    rw [e0]; rfl
  rw [e1]
  have e2 : shrI .u64 (n : Int) 1 = ((n / 2 : Nat) : Int) := rfl
  rw [e2, wr_of] <;> omega
def SymI1 (E : Enc α) (H : HpD) (bs c : Nat) (ex : Bool) (n : Nat) (cv : D) (cmp : α → α → Int) (X : List α) (a m b k : Nat) (fr : FrD) (H' : HpD) : Prop :=
  ∃ (i j : Nat), k = j - i ∧ m ≤ i ∧ i ≤ j ∧ j ≤ b ∧ fr = [(0, sl bs n c ex), (1, iD a), (4, cv), (10, iD i), (11, iD j)] ∧ H' = hp E H bs X ∧
    (∀ q x y, X[a]? = some x → X[q]? = some y → m ≤ q → q < i → cmp y x < 0) ∧ ∀ q x y, X[a]? = some x → X[q]? = some y → j ≤ q → q < b → ¬ cmp y x < 0
def SymS1 (E : Enc α) (H : HpD) (bs c : Nat) (ex : Bool) (n : Nat) (X : List α) (a b i k : Nat) (fr : FrD) (H' : HpD) : Prop :=
  ∃ (t : Nat) (Y : List α), k = i - 1 - t ∧ a ≤ t ∧ t ≤ i - 1 ∧ fr = [(0, sl bs n c ex), (10, iD i), (13, iD t)] ∧ H' = hp E H bs Y ∧
    Mix X Y a b ∧ (∀ p, a ≤ p → p < t → Y[p]? = X[p + 1]?) ∧ Y[t]? = X[a]? ∧ ∀ p, t < p → Y[p]? = X[p]?
def SymI2 (E : Enc α) (H : HpD) (bs c : Nat) (ex : Bool) (n : Nat) (cv : D) (cmp : α → α → Int) (X : List α) (a m _b k : Nat) (fr : FrD) (H' : HpD) : Prop :=
  ∃ (i j : Nat), k = j - i ∧ a ≤ i ∧ i ≤ j ∧ j ≤ m ∧ fr = [(0, sl bs n c ex), (2, iD m), (4, cv), (14, iD i), (15, iD j)] ∧ H' = hp E H bs X ∧
    (∀ q x y, X[m]? = some x → X[q]? = some y → a ≤ q → q < i → ¬ cmp x y < 0) ∧ ∀ q x y, X[m]? = some x → X[q]? = some y → j ≤ q → q < m → cmp x y < 0
def SymS2 (E : Enc α) (H : HpD) (bs c : Nat) (ex : Bool) (n : Nat) (X : List α) (a m b i k : Nat) (fr : FrD) (H' : HpD) : Prop :=
  ∃ (t : Nat) (Y : List α), k = t - i ∧ i ≤ t ∧ t ≤ m ∧ fr = [(0, sl bs n c ex), (14, iD i), (17, iD t)] ∧ H' = hp E H bs Y ∧
    Mix X Y a b ∧ (∀ p, p < t → Y[p]? = X[p]?) ∧ Y[t]? = X[m]? ∧ ∀ p, t < p → p ≤ m → Y[p]? = X[p - 1]?
def SymI3 (E : Enc α) (H : HpD) (bs c : Nat) (ex : Bool) (n : Nat) (cv : D) (cmp : α → α → Int) (X : List α) (a m b md S R k : Nat) (fr : FrD) (H' : HpD) : Prop :=
  ∃ (i j : Nat), k = j - i ∧ S ≤ i ∧ i ≤ j ∧ j ≤ R ∧ fr = [(0, sl bs n c ex), (1, iD a), (2, iD m), (3, iD b), (4, cv), (18, iD md), (19, iD (md + m)), (20, iD i), (21, iD j), (22, iD (md + m - 1))] ∧ H' = hp E H bs X ∧
    (S < i → ∀ x y, X[i - 1]? = some x → X[md + m - i]? = some y → ¬ cmp y x < 0) ∧ (j < R → ∀ x y, X[j]? = some x → X[md + m - 1 - j]? = some y → cmp y x < 0)
structure Sym4 (cmp : α → α → Int) (Y : List α) (a s md e b : Nat) : Prop where
  s1 : Srt cmp Y a s
  s2 : Srt cmp Y s md
  s3 : Srt cmp Y md e
  s4 : Srt cmp Y e b
  part : Parted cmp Y a md b
theorem rot_mix {X Y : List α} {s m e a b : Nat} (hr : RotR X Y s m e) (hp : Y.Perm X) (h1 : a ≤ s) (h2 : s ≤ m) (h3 : m ≤ e) (h4 : e ≤ b) : Mix X Y a b :=
  ⟨hp, fun k hk => by rw [hr k, if_neg (by omega), if_neg (by omega)]⟩
theorem rot_id {X : List α} {s m e : Nat} (h : s = m ∨ e = m) (h2 : s ≤ m) (h3 : m ≤ e) : RotR X X s m e := fun k => by
  split
  · congr 1; omega
  · split
    · congr 1; omega
    · rfl
theorem sym4 {E : Enc α} {cv : D} {G : α → Prop} {cmp : α → α → Int} (hc : Cmp p ext E G cv cmp) {X Y : List α} {a m b md s S R : Nat} (hG : ∀ x, x ∈ X → G x) (h1 : a < m) (h2 : m < b) (hmd : a < md ∧ md < b) (hb : b ≤ X.length)
    (hs1 : Srt cmp X a m) (hs2 : Srt cmp X m b) (hq : md = (a + b) / 2) (hS : S = if md < m then md + m - b else a) (hR : R = min m md) (hSs : S ≤ s) (hsR : s ≤ R)
    (hlo : S < s → ∀ x y, X[s - 1]? = some x → X[md + m - s]? = some y → ¬ cmp y x < 0) (hhi : s < R → ∀ x y, X[s]? = some x → X[md + m - 1 - s]? = some y → cmp y x < 0)
    (hr : RotR X Y s m (md + m - s)) : Sym4 cmp Y a s md (md + m - s) b := by
  have hk : a ≤ s ∧ s ≤ m ∧ s ≤ md ∧ md + m - s ≤ b ∧ m ≤ md + m - s := by
    have : R ≤ m ∧ R ≤ md := by omega
    split at hS <;> omega
  have hSc : S = s → s = a ∨ md + m - s = b := by
    intro e; split at hS <;> omega
  have hRc : s = R → s = m ∨ md + m - s = m := by omega
  have y1 : ∀ k, k < s → Y[k]? = X[k]? := fun k h => by rw [hr k, if_neg (by omega), if_neg (by omega)]
  have y2 : ∀ k, s ≤ k → k < md → Y[k]? = X[m + (k - s)]? := fun k h h' => by rw [hr k, if_pos (by omega)]
  have y3 : ∀ k, md ≤ k → k < md + m - s → Y[k]? = X[k - (md - s)]? := fun k h h' => by
    rw [hr k, if_neg (by omega), if_pos (by omega)]; congr 1; omega
  have y4 : ∀ k, md + m - s ≤ k → Y[k]? = X[k]? := fun k h => by rw [hr k, if_neg (by omega), if_neg (by omega)]
  have hGm : ∀ {k x}, X[k]? = some x → G x := fun h => hG _ (List.mem_of_getElem? h)
  refine ⟨fun p q x y k1 k2 k3 k4 k5 => ?_, fun p q x y k1 k2 k3 k4 k5 => ?_, fun p q x y k1 k2 k3 k4 k5 => ?_, fun p q x y k1 k2 k3 k4 k5 => ?_, fun p q x y k1 k2 k3 k4 k5 k6 => ?_⟩
  · rw [y1 p (by omega)] at k4; rw [y1 q (by omega)] at k5
    exact hs1 p q x y k1 k2 (by omega) k4 k5
  · rw [y2 p (by omega) (by omega)] at k4; rw [y2 q (by omega) (by omega)] at k5
    exact hs2 _ _ x y (by omega) (by omega) (by omega) k4 k5
  · rw [y3 p (by omega) (by omega)] at k4; rw [y3 q (by omega) (by omega)] at k5
    exact hs1 _ _ x y (by omega) (by omega) (by omega) k4 k5
  · rw [y4 p (by omega)] at k4; rw [y4 q (by omega)] at k5
    exact hs2 p q x y (by omega) k2 k3 k4 k5
  · by_cases cp : p < s
    · rw [y1 p cp] at k5
      by_cases cq : q < md + m - s
      · rw [y3 q k3 cq] at k6
        exact hs1 p _ x y k1 (by omega) (by omega) k5 k6
      · rw [y4 q (by omega)] at k6
        have hlt : S < s := by
          rcases Nat.lt_or_ge S s with h | h
          · exact h
          · have := hSc (by omega); omega
        obtain ⟨u, gu⟩ := get_of (X := X) (n := s - 1) (by omega)
        obtain ⟨v, gv⟩ := get_of (X := X) (n := md + m - s) (by omega)
        have huv := hlo hlt u v gu gv
        have hxu : ¬ cmp v x < 0 := by
          by_cases e : p = s - 1
          · subst e; rw [gu] at k5; cases k5; exact huv
          · exact hc.trans x u v (hGm k5) (hGm gu) (hGm gv) (hs1 p (s - 1) x u k1 (by omega) (by omega) k5 gu) huv
        by_cases e : q = md + m - s
        · subst e; rw [gv] at k6; cases k6; exact hxu
        · exact hc.trans x v y (hGm k5) (hGm gv) (hGm k6) hxu (hs2 _ q v y (by omega) (by omega) k4 gv k6)
    · rw [y2 p (by omega) k2] at k5
      by_cases cq : q < md + m - s
      · rw [y3 q k3 cq] at k6
        have hlt : s < R := by
          rcases Nat.lt_or_ge s R with h | h
          · exact h
          · have := hRc (by omega); omega
        obtain ⟨u, gu⟩ := get_of (X := X) (n := s) (by omega)
        obtain ⟨v, gv⟩ := get_of (X := X) (n := md + m - 1 - s) (by omega)
        have huv := hc.anti _ _ (hGm gv) (hGm gu) (hhi hlt u v gu gv)
        have hxu : ¬ cmp u x < 0 := by
          by_cases e : m + (p - s) = md + m - 1 - s
          · rw [e, gv] at k5; cases k5; exact huv
          · exact hc.trans x v u (hGm k5) (hGm gv) (hGm gu) (hs2 _ _ x v (by omega) (by omega) (by omega) k5 gv) huv
        by_cases e : q - (md - s) = s
        · rw [e, gu] at k6; cases k6; exact hxu
        · exact hc.trans x u y (hGm k5) (hGm gu) (hGm k6) hxu (hs1 _ _ u y (by omega) (by omega) (by omega) gu k6)
      · rw [y4 q (by omega)] at k6
        exact hs2 _ q x y (by omega) (by omega) k4 k5 k6
theorem Srt.of_out {cmp : α → α → Int} {Y Z : List α} {a b c d : Nat} (h : Srt cmp Y a b) (hm : Mix Y Z c d) (ho : b ≤ c ∨ d ≤ a) : Srt cmp Z a b := fun p q x y k1 k2 k3 k4 k5 => by
  rw [hm.out p (by omega)] at k4
  rw [hm.out q (by omega)] at k5
  exact h p q x y k1 k2 k3 k4 k5
theorem Mix.wide {Y Z : List α} {a b c d : Nat} (h : Mix Y Z c d) (h1 : a ≤ c) (h2 : d ≤ b) : Mix Y Z a b := ⟨h.perm, fun k hk => h.out k (by omega)⟩
theorem sym_end {cmp : α → α → Int} {X Y Z W : List α} {a s md e b : Nat} (h4 : Sym4 cmp Y a s md e b) (h0 : Mix X Y a b) (hmd : a ≤ md ∧ md ≤ b) (m1 : Mix Y Z a md) (t1 : Srt cmp Z a md) (m2 : Mix Z W md b) (t2 : Srt cmp W md b) : Mix X W a b ∧ Srt cmp W a b := by
  refine ⟨h0.trans ((Mix.wide m1 (Nat.le_refl _) hmd.2).trans (Mix.wide m2 hmd.1 (Nat.le_refl _))), ?_⟩
  exact Srt.join (Srt.of_out t1 m2 (.inl (Nat.le_refl _))) t2 ((h4.part.mix m1 (.inl ⟨Nat.le_refl _, Nat.le_refl _⟩)).mix m2 (.inr ⟨Nat.le_refl _, Nat.le_refl _⟩))
def SymJ (E : Enc α) (H : HpD) (bs c : Nat) (ex : Bool) (n : Nat) (cv : D) (X : List α) (a m b md S R : Nat) (fr : FrD) (H' : HpD) : Prop :=
  fr = [(0, sl bs n c ex), (1, iD a), (2, iD m), (3, iD b), (4, cv), (18, iD md), (19, iD (md + m)), (20, iD S), (21, iD R)] ∧ H' = hp E H bs X
def SymJ2 (E : Enc α) (H : HpD) (bs c : Nat) (ex : Bool) (n : Nat) (cv : D) (X : List α) (a m b md s e : Nat) (fr : FrD) (H' : HpD) : Prop :=
  ∃ Y, (lk fr 0 = sl bs n c ex ∧ lk fr 1 = iD a ∧ lk fr 3 = iD b ∧ lk fr 4 = cv ∧ lk fr 18 = iD md ∧ lk fr 20 = iD s ∧ lk fr 24 = iD e) ∧ H' = hp E H bs Y ∧ Y.Perm X ∧ RotR X Y s m e
def SymJ3 (E : Enc α) (H : HpD) (bs c : Nat) (ex : Bool) (n : Nat) (cv : D) (cmp : α → α → Int) (Y : List α) (a b md e : Nat) (fr : FrD) (H' : HpD) : Prop :=
  ∃ Z, (lk fr 0 = sl bs n c ex ∧ lk fr 3 = iD b ∧ lk fr 4 = cv ∧ lk fr 18 = iD md ∧ lk fr 24 = iD e) ∧ H' = hp E H bs Z ∧ Mix Y Z a md ∧ Srt cmp Z a md
set_option maxHeartbeats 2000000 in
theorem symMerge (L : HSrt p ext F) {E : Enc α} {H : HpD} {bs c : Nat} {ex : Bool} {n : Nat} {cv : D} {G : α → Prop} {cmp : α → α → Int} (hc : Cmp p ext E G cv cmp) (hbs : bs < H.next) (hn : n < 1000000) : ∀ (w : Nat) {X : List α} {a m b : Nat},
    b - a ≤ w → X.length = n → (∀ x, x ∈ X → G x) → a < m → m < b → b ≤ n → Srt cmp X a m → Srt cmp X m b →
    WcD p ext (F 29) [sl bs n c ex, iD a, iD m, iD b, cv] (hp E H bs X) fun d H' => d = .tup [] ∧ ∃ X', H' = hp E H bs X' ∧ Mix X X' a b ∧ Srt cmp X' a b := by
  obtain ⟨g, ga, gc, rfl, hcall⟩ := hc.fn
  intro w
  induction w with
  | zero => intro X a m b hw _ _ h1 h2; omega
  | succ w ih =>
  intro X a m b hw hl hG h1 h2 h3 hs1 hs2
  refine wc_of L.h29 (M := M29) rfl ok29 rfl (sem_run 57 _ ?_)
  have w1 : wr .i64 ((m : Int) - a) = ((m - a : Nat) : Int) := by rw [wr_of] <;> omega
  simp [w1]
  refine sem_if (fun c1 => ?_) fun c1 => ?_
  · simp
    refine sem_loop (SymI1 E H bs c ex n (.func g ga gc) cmp X a m b) ?_ (k := b - m) ⟨m, b, rfl, by omega, by omega, by omega, rfl, rfl, fun q x y _ _ h4 h5 => by omega, fun q x y _ _ h4 h5 => by omega⟩
    rintro k fr H' ⟨i, j, rfl, hmi, hij, hjb, rfl, rfl, hlo, hhi⟩
    refine sem_run 9000 _ ?_
    simp
    by_cases c2 : i < j
    · have w2 : wr .i64 ((i : Int) + j) = ((i + j : Nat) : Int) := by rw [wr_of] <;> omega
      have w3 := mid_of (n := i + j) (by omega)
      have hmid : m ≤ (i + j) / 2 ∧ (i + j) / 2 < b ∧ i ≤ (i + j) / 2 ∧ (i + j) / 2 < j := by omega
      generalize (i + j) / 2 = t at w3 hmid
      obtain ⟨x, gx⟩ := get_of (X := X) (n := t) (by omega)
      obtain ⟨y, gy⟩ := get_of (X := X) (n := a) (by omega)
      have hxm : x ∈ X := List.mem_of_getElem? gx
      have hym : y ∈ X := List.mem_of_getElem? gy
      have w4 : wr .i64 ((t : Int) + 1) = ((t + 1 : Nat) : Int) := by rw [wr_of] <;> omega
      have l1 : t < n := by omega
      have l2 : a < n := by omega
      simp [c2, w2, w3, gx, gy, l1, l2, hbs, -Int.natCast_add, -getElem?_pos]
      refine sem_dfn (hcall x y (hG x hxm) (hG y hym)) (by first | exact D.les_refl _ | simp) (sem_run 9000 _ ?_)
      simp
      by_cases c3 : cmp x y < 0
      · simp [c3, w4, -Int.natCast_add]
        refine sem_ok ?_
        refine ⟨j - (t + 1), by omega, t + 1, j, rfl, by omega, by omega, hjb, rfl, rfl, fun q u v hu hv h4 h5 => ?_, hhi⟩
        rw [gy] at hu; cases hu
        have hGv : G v := hG v (List.mem_of_getElem? hv)
        by_cases hqt : q = t
        · subst hqt; rw [gx] at hv; cases hv; exact c3
        · exact Decidable.byContradiction fun hne => hc.trans y v x (hG y hym) hGv (hG x hxm) hne (hs2 q t v x h4 (by omega) (by omega) hv gx) c3
      · simp [c3]
        refine sem_ok ?_
        refine ⟨t - i, by omega, i, t, rfl, by omega, by omega, by omega, rfl, rfl, hlo, fun q u v hu hv h4 h5 => ?_⟩
        rw [gy] at hu; cases hu
        have hGv : G v := hG v (List.mem_of_getElem? hv)
        by_cases hqt : q = t
        · subst hqt; rw [gx] at hv; cases hv; exact c3
        · exact hc.trans y x v (hG y hym) (hG x hxm) hGv c3 (hs2 t q x v (by omega) (by omega) h5 gx hv)
    · obtain rfl : i = j := by omega
      simp
      refine sem_exit (sem_run 9000 _ ?_)
      simp
      have w5 : wr .i64 ((i : Int) - 1) = ((i - 1 : Nat) : Int) := by rw [wr_of] <;> omega
      refine sem_loop (SymS1 E H bs c ex n X a b i) ?_ (k := i - 1 - a) ⟨a, X, rfl, by omega, by omega, rfl, rfl, .refl, fun p _ _ => by omega, rfl, fun _ _ => rfl⟩
      rintro k fr H' ⟨t, Y, rfl, hat1, hti, rfl, rfl, hmt, hlt, hxt, hgt⟩
      refine sem_run 9000 _ ?_
      simp
      have hl1 : Y.length = n := hmt.perm.length_eq.trans hl
      by_cases c3 : t < i - 1
      · have w6 : wr .i64 ((t : Int) + 1) = ((t + 1 : Nat) : Int) := by rw [wr_of] <;> omega
        have hlj : t < Y.length := by omega
        have hlj1 : t + 1 < Y.length := by omega
        obtain ⟨x, gx⟩ := get_of hlj
        obtain ⟨y, gy⟩ := get_of hlj1
        have s1 := spliceD_one (X := Y.map E.d) (i := t) (x := E.d y) (by simp; omega)
        have s2 := spliceD_one (X := (Y.map E.d).set t (E.d y)) (i := t + 1) (x := E.d x) (by simp; omega)
        have l1 : t < n := by omega
        have l2 : t + 1 < n := by omega
        have l3 : t + 1 ≤ n := by omega
        have l4 : t + 1 + 1 ≤ n := by omega
        simp [c3, w5, w6, gx, gy, l1, l2, l3, l4, hl1, s1, s2, hbs, hp_swp gx gy, -List.map_set, -getElem?_pos, -Int.natCast_add]
        refine sem_ok ?_
        have hg := swp_get hlj hlj1
        refine ⟨i - 1 - (t + 1), by omega, t + 1, swp Y t (t + 1), rfl, by omega, by omega, rfl, by simp [hp], hmt.trans (Mix.swp (by omega) (by omega) (by omega)), fun p h4 h5 => ?_, ?_, fun p h4 => ?_⟩
        · rw [hg, if_neg (by omega)]
          split
          · rename_i hp; subst hp; exact hgt _ (by omega)
          · exact hlt p h4 (by omega)
        · rw [hg, if_pos rfl]; exact hxt
        · rw [hg, if_neg (by omega), if_neg (by omega)]; exact hgt p (by omega)
      · obtain rfl : t = i - 1 := by omega
        simp [w5]
        refine sem_exit (sem_run 9000 _ ?_)
        simp
        refine sem_ret ?_
        simp [M29]
        refine ⟨Y, rfl, hmt, fun p q u v h4 h5 h6 h7 h8 => ?_⟩
        obtain ⟨y, gy⟩ := get_of (X := X) (n := a) (by omega)
        have hGy : G y := hG y (List.mem_of_getElem? gy)
        rw [gy] at hxt
        rcases Nat.lt_trichotomy p (i - 1) with cp | cp | cp
        · rw [hlt p h4 cp] at h7
          rcases Nat.lt_trichotomy q (i - 1) with cq | cq | cq
          · rw [hlt q (by omega) cq] at h8
            exact hs2 (p + 1) (q + 1) u v (by omega) (by omega) (by omega) h7 h8
          · subst cq
            rw [hxt] at h8; cases h8
            exact hc.anti _ _ (hG u (List.mem_of_getElem? h7)) hGy (hlo (p + 1) v u gy h7 (by omega) (by omega))
          · rw [hgt q cq] at h8
            exact hs2 (p + 1) q u v (by omega) (by omega) h6 h7 h8
        · subst cp
          rw [hxt] at h7; cases h7
          rw [hgt q h5] at h8
          exact hhi q u v gy h8 (by omega) h6
        · rw [hgt p cp] at h7
          rw [hgt q (by omega)] at h8
          exact hs2 p q u v (by omega) h5 h6 h7 h8
  have w1 : wr .i64 ((b : Int) - m) = ((b - m : Nat) : Int) := by rw [wr_of] <;> omega
  simp [w1]
  refine sem_if (fun c1 => ?_) fun c1 => ?_
  · simp
    refine sem_loop (SymI2 E H bs c ex n (.func g ga gc) cmp X a m b) ?_ (k := m - a) ⟨a, m, rfl, by omega, by omega, by omega, rfl, rfl, fun q x y _ _ h4 h5 => by omega, fun q x y _ _ h4 h5 => by omega⟩
    rintro k fr H' ⟨i, j, rfl, hmi, hij, hjb, rfl, rfl, hlo, hhi⟩
    refine sem_run 9000 _ ?_
    simp
    by_cases c2 : i < j
    · have w2 : wr .i64 ((i : Int) + j) = ((i + j : Nat) : Int) := by rw [wr_of] <;> omega
      have w3 := mid_of (n := i + j) (by omega)
      have hmid : a ≤ (i + j) / 2 ∧ (i + j) / 2 < m ∧ i ≤ (i + j) / 2 ∧ (i + j) / 2 < j := by omega
      generalize (i + j) / 2 = t at w3 hmid
      obtain ⟨x, gx⟩ := get_of (X := X) (n := t) (by omega)
      obtain ⟨y, gy⟩ := get_of (X := X) (n := m) (by omega)
      have hxm : x ∈ X := List.mem_of_getElem? gx
      have hym : y ∈ X := List.mem_of_getElem? gy
      have w4 : wr .i64 ((t : Int) + 1) = ((t + 1 : Nat) : Int) := by rw [wr_of] <;> omega
      have l1 : t < n := by omega
      have l2 : m < n := by omega
      simp [c2, w2, w3, gx, gy, l1, l2, hbs, -Int.natCast_add, -getElem?_pos]
      refine sem_dfn (hcall y x (hG y hym) (hG x hxm)) (by first | exact D.les_refl _ | simp) (sem_run 9000 _ ?_)
      simp
      by_cases c3 : cmp y x < 0
      · simp [c3]
        refine sem_ok ?_
        refine ⟨t - i, by omega, i, t, rfl, by omega, by omega, by omega, rfl, rfl, hlo, fun q u v hu hv h4 h5 => ?_⟩
        rw [gy] at hu; cases hu
        have hGv : G v := hG v (List.mem_of_getElem? hv)
        by_cases hqt : q = t
        · subst hqt; rw [gx] at hv; cases hv; exact c3
        · exact Decidable.byContradiction fun hne => hc.trans x v y (hG x hxm) hGv (hG y hym) (hs1 t q x v (by omega) (by omega) h5 gx hv) hne c3
      · simp [c3, w4, -Int.natCast_add]
        refine sem_ok ?_
        refine ⟨j - (t + 1), by omega, t + 1, j, rfl, by omega, by omega, hjb, rfl, rfl, fun q u v hu hv h4 h5 => ?_, hhi⟩
        rw [gy] at hu; cases hu
        have hGv : G v := hG v (List.mem_of_getElem? hv)
        by_cases hqt : q = t
        · subst hqt; rw [gx] at hv; cases hv; exact c3
        · exact hc.trans v x y hGv (hG x hxm) (hG y hym) (hs1 q t v x h4 (by omega) (by omega) hv gx) c3
    · obtain rfl : i = j := by omega
      simp
      refine sem_exit (sem_run 9000 _ ?_)
      simp
      refine sem_loop (SymS2 E H bs c ex n X a m b i) ?_ (k := m - i) ⟨m, X, rfl, by omega, by omega, rfl, rfl, .refl, fun _ _ => rfl, rfl, fun p _ _ => by omega⟩
      rintro k fr H' ⟨t, Y, rfl, hat1, hti, rfl, rfl, hmt, hlt, hxt, hgt⟩
      refine sem_run 9000 _ ?_
      simp
      have hl1 : Y.length = n := hmt.perm.length_eq.trans hl
      by_cases c3 : i < t
      · have w6 : wr .i64 ((t : Int) - 1) = ((t - 1 : Nat) : Int) := by rw [wr_of] <;> omega
        have hlj : t < Y.length := by omega
        have hlj1 : t - 1 < Y.length := by omega
        obtain ⟨x, gx⟩ := get_of hlj
        obtain ⟨y, gy⟩ := get_of hlj1
        have s1 := spliceD_one (X := Y.map E.d) (i := t) (x := E.d y) (by simp; omega)
        have s2 := spliceD_one (X := (Y.map E.d).set t (E.d y)) (i := t - 1) (x := E.d x) (by simp; omega)
        have l1 : t < n := by omega
        have l2 : t - 1 < n := by omega
        have l3 : t + 1 ≤ n := by omega
        have l4 : t - 1 + 1 ≤ n := by omega
        simp [c3, w6, gx, gy, l1, l2, l3, l4, hl1, s1, s2, hbs, hp_swp gx gy, -List.map_set, -getElem?_pos]
        refine sem_ok ?_
        have hg := swp_get hlj hlj1
        refine ⟨t - 1 - i, by omega, t - 1, swp Y t (t - 1), rfl, by omega, by omega, rfl, by simp [hp], hmt.trans (Mix.swp (by omega) (by omega) (by omega)), fun p h4 => ?_, ?_, fun p h4 h5 => ?_⟩
        · rw [hg, if_neg (by omega), if_neg (by omega)]; exact hlt p (by omega)
        · rw [hg, if_pos rfl]; exact hxt
        · rw [hg, if_neg (by omega)]
          split
          · rename_i hp; subst hp; exact hlt _ (by omega)
          · exact hgt p (by omega) h5
      · obtain rfl : t = i := by omega
        simp
        refine sem_exit (sem_run 9000 _ ?_)
        simp
        refine sem_ret ?_
        simp [M29]
        refine ⟨Y, rfl, hmt, fun p q u v h4 h5 h6 h7 h8 => ?_⟩
        obtain ⟨y, gy⟩ := get_of (X := X) (n := m) (by omega)
        rw [gy] at hxt
        rcases Nat.lt_trichotomy p t with cp | cp | cp
        · rw [hlt p cp] at h7
          rcases Nat.lt_trichotomy q t with cq | cq | cq
          · rw [hlt q cq] at h8
            exact hs1 p q u v h4 h5 (by omega) h7 h8
          · subst cq
            rw [hxt] at h8; cases h8
            exact hlo p v u gy h7 h4 cp
          · rw [hgt q cq (by omega)] at h8
            exact hs1 p (q - 1) u v h4 (by omega) (by omega) h7 h8
        · subst cp
          rw [hxt] at h7; cases h7
          rw [hgt q h5 (by omega)] at h8
          exact hc.anti _ _ (hG u (List.mem_of_getElem? gy)) (hG v (List.mem_of_getElem? h8)) (hhi (q - 1) u v gy h8 (by omega) (by omega))
        · rw [hgt p cp (by omega)] at h7
          rw [hgt q (by omega) (by omega)] at h8
          exact hs1 (p - 1) (q - 1) u v (by omega) (by omega) (by omega) h7 h8
  have w2 : wr .i64 ((a : Int) + b) = ((a + b : Nat) : Int) := by rw [wr_of] <;> omega
  have w3 := mid_of (n := a + b) (by omega)
  obtain ⟨md, hmd⟩ : ∃ md, md = (a + b) / 2 := ⟨_, rfl⟩
  rw [← hmd] at w3
  have w4 : wr .i64 ((md : Int) + m) = ((md + m : Nat) : Int) := by rw [wr_of] <;> omega
  have w5 : wr .i64 (((md + m : Nat) : Int) - 1) = ((md + m - 1 : Nat) : Int) := by rw [wr_of] <;> omega
  have w6 : md < m → wr .i64 (((md + m : Nat) : Int) - b) = ((md + m - b : Nat) : Int) := fun _ => by rw [wr_of] <;> omega
  obtain ⟨S, hS⟩ : ∃ S, S = if md < m then md + m - b else a := ⟨_, rfl⟩
  obtain ⟨R, hR⟩ : ∃ R, R = min m md := ⟨_, rfl⟩
  simp [w2, w3, w4, -Int.natCast_add]
  refine sem_cut (SymJ E H bs c ex n (.func g ga gc) X a m b md S R) (sem_run 9000 _ ?_) ?_
  · simp [-Int.natCast_add]
    refine sem_if (fun e => ?_) fun e => ?_
    · simp [w6 e, -Int.natCast_add]
      refine sem_ok ?_
      simp only [okQ_ok]
      refine ⟨?_, rfl⟩
      rw [hS, hR, if_pos e, Nat.min_eq_right (by omega)]
    · simp [-Int.natCast_add]
      refine sem_ok ?_
      simp only [okQ_ok]
      refine ⟨?_, rfl⟩
      rw [hS, hR, if_neg e, Nat.min_eq_left (by omega)]
  rintro fr _ ⟨rfl, rfl⟩
  refine sem_run 9000 _ ?_
  simp [w5, -Int.natCast_add]
  have hSR : a ≤ S ∧ S ≤ R ∧ R ≤ m ∧ R ≤ md ∧ md < b ∧ a < md ∧ md + m - S ≤ b ∧ m ≤ md + m - R := by
    rw [hS, hR]
    split <;> omega
  refine sem_loop (SymI3 E H bs c ex n (.func g ga gc) cmp X a m b md S R) ?_ (k := R - S) ⟨S, R, rfl, by omega, by omega, by omega, rfl, rfl, fun h => by omega, fun h => by omega⟩
  rintro k fr H' ⟨i, j, rfl, hSi, hij, hjR, rfl, rfl, hlo, hhi⟩
  refine sem_run 9000 _ ?_
  simp
  by_cases c2 : i < j
  · have v2 : wr .i64 ((i : Int) + j) = ((i + j : Nat) : Int) := by rw [wr_of] <;> omega
    have v3 := mid_of (n := i + j) (by omega)
    have hmid : i ≤ (i + j) / 2 ∧ (i + j) / 2 < j := by omega
    generalize (i + j) / 2 = t at v3 hmid
    have v4 : wr .i64 ((t : Int) + 1) = ((t + 1 : Nat) : Int) := by rw [wr_of] <;> omega
    have v5 : wr .i64 (((md + m - 1 : Nat) : Int) - t) = ((md + m - 1 - t : Nat) : Int) := by rw [wr_of] <;> omega
    obtain ⟨x, gx⟩ := get_of (X := X) (n := t) (by omega)
    obtain ⟨y, gy⟩ := get_of (X := X) (n := md + m - 1 - t) (by omega)
    have hxm : x ∈ X := List.mem_of_getElem? gx
    have hym : y ∈ X := List.mem_of_getElem? gy
    have l1 : t < n := by omega
    have l2 : md + m - 1 - t < n := by omega
    simp [c2, v2, v3, v5, gx, gy, l1, l2, hbs, -Int.natCast_add, -getElem?_pos]
    refine sem_dfn (hcall y x (hG y hym) (hG x hxm)) (by first | exact D.les_refl _ | simp) (sem_run 9000 _ ?_)
    simp
    by_cases c3 : cmp y x < 0
    · simp [c3]
      refine sem_ok ?_
      refine ⟨t - i, by omega, i, t, rfl, hSi, by omega, by omega, rfl, rfl, hlo, fun _ u v hu hv => ?_⟩
      rw [gx] at hu; rw [gy] at hv; cases hu; cases hv; exact c3
    · simp [c3, v4, -Int.natCast_add]
      refine sem_ok ?_
      refine ⟨j - (t + 1), by omega, t + 1, j, rfl, by omega, by omega, hjR, rfl, rfl, fun _ u v hu hv => ?_, hhi⟩
      rw [Nat.add_sub_cancel, gx] at hu
      rw [show md + m - (t + 1) = md + m - 1 - t by omega, gy] at hv
      cases hu; cases hv; exact c3
  obtain rfl : i = j := by omega
  have v6 : wr .i64 (((md + m : Nat) : Int) - i) = ((md + m - i : Nat) : Int) := by rw [wr_of] <;> omega
  simp
  refine sem_exit (sem_run 11 _ ?_)
  simp [v6, -Int.natCast_add]
  obtain ⟨e, he⟩ : ∃ e, e = md + m - i := ⟨_, rfl⟩
  rw [← he]
  refine sem_cut (SymJ2 E H bs c ex n (.func g ga gc) X a m b md i e) (sem_run 9000 _ ?_) ?_
  · simp
    by_cases d1 : i < m
    · by_cases d2 : m < e
      · simp [d1, d2]
        have sp := rotate L (E := E) (H := H) (c := c) (ex := ex) (X := X) (cv := .func g ga gc) hbs (by omega) d1 d2 (by omega)
        rw [hl] at sp
        refine sem_call sp ?_
        rintro _ _ ⟨rfl, Y, rfl, hp1, hr1⟩
        refine sem_run 9000 _ ?_
        simp
        refine sem_ok ?_
        exact ⟨Y, by simp, rfl, hp1, hr1⟩
      · simp [d1, d2]
        refine sem_ok ?_
        exact ⟨X, by simp, rfl, .refl _, rot_id (.inr (by omega)) (by omega) (by omega)⟩
    · simp [d1]
      refine sem_ok ?_
      exact ⟨X, by simp, rfl, .refl _, rot_id (.inl (by omega)) (by omega) (by omega)⟩
  rintro fr _ ⟨Y, ⟨e0, e1, e3, e4, e18, e20, e24⟩, rfl, hp1, hr1⟩
  have hm1 := rot_mix hr1 hp1 (a := a) (b := b) (by omega) (by omega) (by omega) (by omega)
  have h4 := sym4 hc hG h1 h2 ⟨by omega, by omega⟩ (by omega) hs1 hs2 hmd hS hR hSi hjR hlo hhi (he ▸ hr1)
  rw [← he] at h4
  have hlY : Y.length = n := hp1.length_eq.trans hl
  have hGY : ∀ x, x ∈ Y → G x := fun x h => hG x (hp1.mem_iff.1 h)
  refine sem_run 2 _ ?_
  simp
  refine sem_cut (SymJ3 E H bs c ex n (.func g ga gc) cmp Y a b md e) (sem_run 9000 _ ?_) ?_
  · simp [e1, e20]
    by_cases d1 : a < i
    · by_cases d2 : i < md
      · simp [d1, d2, e0, e1, e3, e4, e18, e20, e24]
        refine sem_call (ih (X := Y) (by omega) hlY hGY d1 d2 (by omega) h4.s1 h4.s2) ?_
        rintro _ _ ⟨rfl, Z, rfl, hm2, hz⟩
        refine sem_run 9000 _ ?_
        simp
        refine sem_ok ?_
        exact ⟨Z, by simp, rfl, hm2, hz⟩
      · simp [d1, d2, e0, e1, e3, e4, e18, e20, e24]
        refine sem_ok ?_
        obtain rfl : i = md := by omega
        exact ⟨Y, by simp, rfl, .refl, h4.s1⟩
    · simp [d1, e0, e1, e3, e4, e18, e20, e24]
      refine sem_ok ?_
      obtain rfl : i = a := by omega
      exact ⟨Y, by simp, rfl, .refl, h4.s2⟩
  rintro fr _ ⟨Z, ⟨e0, e3, e4, e18, e24⟩, rfl, hm2, hz⟩
  have hlZ : Z.length = n := hm2.perm.length_eq.trans hlY
  have hGZ : ∀ x, x ∈ Z → G x := fun x h => hGY x (hm2.perm.mem_iff.1 h)
  have z3 := Srt.of_out h4.s3 hm2 (.inr (Nat.le_refl _))
  have z4 := Srt.of_out h4.s4 hm2 (.inr (by omega))
  refine sem_run 9000 _ ?_
  simp [e18, e24]
  by_cases d1 : md < e
  · by_cases d2 : e < b
    · simp [d1, d2, e0, e3, e4, e18, e24]
      refine sem_call (ih (X := Z) (by omega) hlZ hGZ d1 d2 (by omega) z3 z4) ?_
      rintro _ _ ⟨rfl, W, rfl, hm3, hw3⟩
      refine sem_run 9000 _ ?_
      simp
      refine sem_ok ?_
      simp [M29]
      exact ⟨W, rfl, sym_end h4 hm1 ⟨by omega, by omega⟩ hm2 hz hm3 hw3⟩
    · simp [d1, d2, e0, e3, e4, e18, e24]
      refine sem_ok ?_
      simp [M29]
      obtain rfl : e = b := by omega
      exact ⟨Z, rfl, sym_end h4 hm1 ⟨by omega, by omega⟩ hm2 hz .refl z3⟩
  · simp [d1, e0, e3, e4, e18, e24]
    refine sem_ok ?_
    simp [M29]
    obtain rfl : e = md := by omega
    exact ⟨Z, rfl, sym_end h4 hm1 ⟨by omega, by omega⟩ hm2 hz .refl z4⟩
end Go.Lib
end

section
set_option maxRecDepth 10000
namespace Go.Lib
open Go.Vm Go.Dv Go.Srt
variable {p : Prog} {ext : Ext} {F : Nat → Nat} {α : Type}
theorem dvd_step {d c a : Nat} (h1 : d ∣ c) (h2 : d ∣ a) (h : c < a) : c + d ≤ a := by
  have := Nat.le_of_dvd (show 0 < a - c by omega) (Nat.dvd_sub h2 h1)
  omega
def Blk (cmp : α → α → Int) (Y : List α) (z lo n : Nat) : Prop := ∀ a, lo ≤ a → z ∣ a → Srt cmp Y a (min (a + z) n)
def Blb (cmp : α → α → Int) (Y : List α) (z hi : Nat) : Prop := ∀ a, a < hi → z ∣ a → Srt cmp Y a (a + z)
def StI1 (E : Enc α) (H : HpD) (bs c : Nat) (ex : Bool) (n : Nat) (cv : D) (cmp : α → α → Int) (X : List α) (k : Nat) (fr : FrD) (H' : HpD) : Prop :=
  ∃ (a : Nat) (Y : List α), k = n - a ∧ a ≤ n ∧ 20 ∣ a ∧ fr = [(0, sl bs n c ex), (1, iD n), (2, cv), (6, iD 20), (7, iD a), (8, iD (a + 20))] ∧ H' = hp E H bs Y ∧ Y.Perm X ∧ Blb cmp Y 20 a
def StI2 (E : Enc α) (H : HpD) (bs c : Nat) (ex : Bool) (n : Nat) (cv : D) (cmp : α → α → Int) (X : List α) (k : Nat) (fr : FrD) (H' : HpD) : Prop :=
  ∃ (z : Nat) (Y : List α), k = 2 * n + 40 - z ∧ 20 ≤ z ∧ z ≤ 2 * n + 20 ∧ fr = [(0, sl bs n c ex), (1, iD n), (2, cv), (6, iD z)] ∧ H' = hp E H bs Y ∧ Y.Perm X ∧ Blk cmp Y z 0 n
def StI3 (E : Enc α) (H : HpD) (bs c : Nat) (ex : Bool) (n : Nat) (cv : D) (cmp : α → α → Int) (X : List α) (z k : Nat) (fr : FrD) (H' : HpD) : Prop :=
  ∃ (a : Nat) (Y : List α), k = n - a ∧ a ≤ n ∧ 2 * z ∣ a ∧ fr = [(0, sl bs n c ex), (1, iD n), (2, cv), (6, iD z), (7, iD a), (8, iD (a + 2 * z))] ∧ H' = hp E H bs Y ∧ Y.Perm X ∧ Blb cmp Y (2 * z) a ∧ Blk cmp Y z a n
set_option maxHeartbeats 2000000 in
theorem stable (L : HSrt p ext F) {E : Enc α} {H : HpD} {bs c : Nat} {ex : Bool} {X : List α} {cv : D} {n : Nat} {G : α → Prop} {cmp : α → α → Int} (hc : Cmp p ext E G cv cmp) (hbs : bs < H.next) (hX : X.length = n) (hn : n < 1000000) (hG : ∀ x, x ∈ X → G x) : WcD p ext (F 27) [sl bs n c ex, iD n, cv] (hp E H bs X) (fun d H' => d = .tup [] ∧ ∃ X', H' = hp E H bs X' ∧ X'.Perm X ∧ Srt cmp X' 0 n) := by
  refine wc_of L.h27 (M := M27) rfl ok27 rfl (sem_run 9000 _ ?_)
  simp
  refine sem_loop (StI1 E H bs c ex n cv cmp X) ?_ (k := n) ⟨0, X, by simp, by omega, ⟨0, rfl⟩, by simp, rfl, .refl _, fun a h => by omega⟩
  rintro k fr H' ⟨a, Y, rfl, ha, hda, rfl, rfl, hp1, hb1⟩
  refine sem_run 9000 _ ?_
  simp
  have hlY : Y.length = n := hp1.length_eq.trans hX
  have hGY : ∀ x, x ∈ Y → G x := fun x h => hG x (hp1.mem_iff.1 h)
  by_cases c1 : a + 20 ≤ n
  · have c1' : (a : Int) + 20 ≤ n := by omega
    have w1 : wr .i64 ((a : Int) + 20 + 20) = ((a + 20 + 20 : Nat) : Int) := by rw [wr_of] <;> omega
    simp [c1']
    have sp := insertion L (X := Y) (c := c) (ex := ex) hc hbs (by omega) hGY (a := a) (b := a + 20) (by omega) (by omega)
    rw [hlY] at sp
    refine sem_call (by simpa [iD] using sp) ?_
    rintro _ _ ⟨rfl, Z, rfl, hm, hz⟩
    refine sem_run 9000 _ ?_
    simp [w1]
    refine sem_ok ?_
    refine ⟨n - (a + 20), by omega, a + 20, Z, rfl, c1, (Nat.dvd_add_right hda).2 ⟨1, rfl⟩, by simp, rfl, hm.perm.trans hp1, fun q h1 h2 => ?_⟩
    by_cases e : q < a
    · exact Srt.of_out (hb1 q e h2) hm (.inl (dvd_step h2 hda e))
    · by_cases e2 : q = a
      · subst e2; exact hz
      · have := dvd_step hda h2 (by omega); omega
  · have c1' : ¬ (a : Int) + 20 ≤ n := by omega
    simp [c1']
    refine sem_exit (sem_run 9000 _ ?_)
    simp
    have sp := insertion L (X := Y) (c := c) (ex := ex) hc hbs (by omega) hGY (a := a) (b := n) (by omega) (by omega)
    rw [hlY] at sp
    refine sem_call sp ?_
    rintro _ _ ⟨rfl, Z, rfl, hm, hz⟩
    refine sem_run 9000 _ ?_
    simp
    have hb2 : Blk cmp Z 20 0 n := fun q _ h2 => by
      by_cases e : q < a
      · exact (Srt.of_out (hb1 q e h2) hm (.inl (dvd_step h2 hda e))).mono (Nat.le_refl _) (by omega)
      · by_cases e2 : q = a
        · subst e2; exact hz.mono (Nat.le_refl _) (by omega)
        · intro p' q' x y k1 k2 k3
          have := dvd_step hda h2 (by omega); omega
    refine sem_loop (StI2 E H bs c ex n cv cmp X) ?_ (k := 2 * n + 40 - 20) ⟨20, Z, rfl, by omega, by omega, rfl, rfl, hm.perm.trans hp1, hb2⟩
    rintro k fr H' ⟨z, Y, rfl, hz1, hz2, rfl, rfl, hp2, hb3⟩
    refine sem_run 9000 _ ?_
    simp
    by_cases c2 : z < n
    · have w2 : wr .i64 (2 * (z : Int)) = ((2 * z : Nat) : Int) := by rw [wr_of] <;> omega
      have w3 : wr .i64 ((z : Int) * 2) = ((2 * z : Nat) : Int) := by rw [wr_of] <;> omega
      simp [c2, w2, -Int.natCast_mul]
      refine sem_loop (StI3 E H bs c ex n cv cmp X z) ?_ (k := n) ⟨0, Y, by simp, by omega, ⟨0, by simp⟩, by simp, rfl, hp2, fun a h => by omega, hb3⟩
      rintro k fr H' ⟨a, Y, rfl, ha, hda, rfl, rfl, hp1, hb1, hb2⟩
      refine sem_run 9000 _ ?_
      simp
      have hlY : Y.length = n := hp1.length_eq.trans hX
      have hGY : ∀ x, x ∈ Y → G x := fun x h => hG x (hp1.mem_iff.1 h)
      have hdz : z ∣ a := Nat.dvd_trans ⟨2, by omega⟩ hda
      have w4 : wr .i64 ((a : Int) + z) = ((a + z : Nat) : Int) := by rw [wr_of] <;> omega
      by_cases c3 : a + 2 * z ≤ n
      · have c3' : (a : Int) + 2 * (z : Int) ≤ n := by omega
        have w1 : wr .i64 ((a : Int) + 2 * (z : Int) + 2 * (z : Int)) = ((a + 2 * z + 2 * z : Nat) : Int) := by rw [wr_of] <;> omega
        have w1' : wr .i64 (((a + 2 * z : Nat) : Int) + ((2 * z : Nat) : Int)) = ((a + 2 * z + 2 * z : Nat) : Int) := by rw [wr_of] <;> omega
        have w5 : wr .i64 (2 * (z : Int)) = 2 * (z : Int) := by rw [wr_of] <;> omega
        simp [c3', w4]
        have sp := symMerge L (X := Y) (c := c) (ex := ex) hc hbs hn n (a := a) (m := a + z) (b := a + 2 * z) (by omega) hlY hGY (by omega) (by omega) c3 ((hb2 a (Nat.le_refl _) hdz).mono (Nat.le_refl _) (by omega)) ((hb2 (a + z) (by omega) ((Nat.dvd_add_right hdz).2 ⟨1, by omega⟩)).mono (Nat.le_refl _) (by omega))
        refine sem_call (by simpa [iD] using sp) ?_
        rintro _ _ ⟨rfl, Z, rfl, hm, hz⟩
        refine sem_run 9000 _ ?_
        simp [w1, w5]
        refine sem_ok ?_
        refine ⟨n - (a + 2 * z), by omega, a + 2 * z, Z, rfl, c3, (Nat.dvd_add_right hda).2 ⟨1, by omega⟩, by simp, rfl, hm.perm.trans hp1, fun q h1 h2 => ?_, fun q h1 h2 => ?_⟩
        · by_cases e : q < a
          · exact Srt.of_out (hb1 q e h2) hm (.inl (dvd_step h2 hda e))
          · by_cases e2 : q = a
            · subst e2; exact hz
            · have := dvd_step hda h2 (by omega); omega
        · exact Srt.of_out (hb2 q (by omega) h2) hm (.inr h1)
      · have c3' : ¬ (a : Int) + 2 * (z : Int) ≤ n := by omega
        simp [c3']
        refine sem_exit (sem_run 9000 _ ?_)
        simp [w4]
        have fin : ∀ Z : List α, Mix Y Z a n → Srt cmp Z a n → Blk cmp Z (2 * z) 0 n := fun Z hm hz q _ h2 => by
          by_cases e : q < a
          · exact (Srt.of_out (hb1 q e h2) hm (.inl (dvd_step h2 hda e))).mono (Nat.le_refl _) (by omega)
          · by_cases e2 : q = a
            · subst e2; exact hz.mono (Nat.le_refl _) (by omega)
            · intro p' q' x y k1 k2 k3
              have := dvd_step hda h2 (by omega); omega
        by_cases c4 : a + z < n
        · have c4' : (a : Int) + (z : Int) < n := by omega
          simp [c4']
          have sp := symMerge L (X := Y) (c := c) (ex := ex) hc hbs hn n (a := a) (m := a + z) (b := n) (by omega) hlY hGY (by omega) (by omega) (Nat.le_refl _) ((hb2 a (Nat.le_refl _) hdz).mono (Nat.le_refl _) (by omega)) ((hb2 (a + z) (by omega) ((Nat.dvd_add_right hdz).2 ⟨1, by omega⟩)).mono (Nat.le_refl _) (by omega))
          refine sem_call (by simpa [iD] using sp) ?_
          rintro _ _ ⟨rfl, Z, rfl, hm, hz⟩
          refine sem_run 9000 _ ?_
          simp [w3]
          refine sem_ok ?_
          exact ⟨2 * n + 40 - 2 * z, by omega, 2 * z, Z, rfl, by omega, by omega, by simp, rfl, hm.perm.trans hp1, fin Z hm hz⟩
        · have c4' : ¬ (a : Int) + (z : Int) < n := by omega
          simp [c4', w3]
          refine sem_ok ?_
          exact ⟨2 * n + 40 - 2 * z, by omega, 2 * z, Y, rfl, by omega, by omega, by simp, rfl, hp1, fin Y .refl ((hb2 a (Nat.le_refl _) hdz).mono (Nat.le_refl _) (by omega))⟩
    · simp [c2]
      refine sem_exit (sem_run 9000 _ ?_)
      simp
      refine sem_ok ?_
      simp [M27]
      refine ⟨Y, rfl, hp2, ?_⟩
      have := hb3 0 (Nat.le_refl _) ⟨0, by simp⟩
      rwa [Nat.min_eq_right (by omega)] at this
theorem sortStable (L : HSrt p ext F) {E : Enc α} {H : HpD} {bs c : Nat} {ex : Bool} {X : List α} {cv : D} {n : Nat} {G : α → Prop} {cmp : α → α → Int} (hc : Cmp p ext E G cv cmp) (hbs : bs < H.next) (hX : X.length = n) (hn : n < 1000000) (hG : ∀ x, x ∈ X → G x) : WcD p ext (F 26) [sl bs n c ex, cv] (hp E H bs X) (fun d H' => d = .tup [] ∧ ∃ X', H' = hp E H bs X' ∧ X'.Perm X ∧ Srt cmp X' 0 n) := by
  refine wc_of L.h26 (M := M26) rfl ok26 rfl (sem_run 9000 _ ?_)
  simp
  refine sem_call (stable L hc hbs hX hn hG) ?_
  rintro _ _ ⟨rfl, Z, rfl, h1, h2⟩
  refine sem_run 9000 _ ?_
  simp
  refine sem_ok ?_
  simp [M26]
  exact ⟨Z, rfl, h1, h2⟩
end Go.Lib
end

section
namespace Go.Lib
open Go.Vm Go.Dv
set_option maxRecDepth 100000
abbrev K1 (F : Nat → Nat) : KC := .seq (.region [⟨some 2,.a (.box (.tmp 0)),none⟩,⟨some 3,.a (.box (.tmp 1)),none⟩,⟨some 4,.p (.mov (.val (.int .i64 (.ofNat 0)))),none⟩] [2,3] [2,3])
 (.seq (.seq (.dregion [⟨⟨some 6,.loadn 4 (.tmp 2),none⟩,0,1⟩,⟨⟨some 7,.e (.call (F 8) [(.tmp 6)]),none⟩,0,3⟩,⟨⟨some 8,.loadn 4 (.tmp 3),none⟩,0,3⟩,⟨⟨some 9,.e (.call (F 8) [(.tmp 8)]),none⟩,2,4⟩,⟨⟨some 10,.e (.call (F 9) [(.tmp 7),(.tmp 9)]),none⟩,4,6⟩,⟨⟨some 5,.p (.mov (.tmp 10)),none⟩,5,6⟩] [2,3,5])
 (.seq (.region [⟨some 11,.p (.mov (.tmp 5)),none⟩,⟨some 12,.p (.bin .neq (.tmp 11) (.val (.int .i64 (.ofNat 0)))),none⟩,⟨some 13,.p (.mov (.tmp 12)),none⟩,⟨some 14,.p (.faddr 0 (.tmp 2)),(some (13,false))⟩,⟨some 15,.load1 (.tmp 14),(some (13,false))⟩,⟨some 16,.p (.pick (.tmp 13) (.val (.bool true)) (.tmp 15)),none⟩] [] [2,3,5,16])
 (.cond (.tmp 16) (.seq (.region [⟨some 17,.p (.mov (.tmp 5)),none⟩,⟨some 4,.p (.mov (.tmp 17)),none⟩] [] [4])
 (.ret))
 (.skip))))
 (.seq (.seq (.region [⟨some 18,.p (.faddr 1 (.tmp 2)),none⟩,⟨some 19,.load1 (.tmp 18),none⟩] [] [2,3,19])
 (.block 0 (.seq (.region [⟨some 21,.p (.bin .eql (.tmp 19) (.val (.int .i64 (.ofNat 1)))),none⟩,⟨some 20,.p (.mov (.tmp 21)),none⟩] [] [2,3,19,20])
 (.cond (.tmp 20) (.seq (.region [⟨some 22,.p (.faddr 2 (.tmp 2)),none⟩,⟨some 23,.load1 (.tmp 22),none⟩,⟨some 24,.p (.faddr 2 (.tmp 3)),none⟩,⟨some 25,.load1 (.tmp 24),none⟩,⟨some 26,.e (.call (F 10) [(.tmp 23),(.tmp 25)]),none⟩,⟨some 4,.p (.mov (.tmp 26)),none⟩] [] [4])
 (.ret))
 (.seq (.region [⟨some 28,.p (.bin .eql (.tmp 19) (.val (.int .i64 (.ofNat 2)))),none⟩,⟨some 27,.p (.mov (.tmp 28)),none⟩] [] [2,3,27])
 (.cond (.tmp 27) (.seq (.region [⟨some 29,.p (.faddr 3 (.tmp 2)),none⟩,⟨some 30,.load1 (.tmp 29),none⟩,⟨some 31,.p (.faddr 3 (.tmp 3)),none⟩,⟨some 32,.load1 (.tmp 31),none⟩,⟨some 33,.e (.call (F 11) [(.tmp 30),(.tmp 32)]),none⟩,⟨some 4,.p (.mov (.tmp 33)),none⟩] [] [4])
 (.ret))
 (.skip)))))))
 (.seq (.region [⟨some 4,.p (.mov (.val (.int .i64 (.ofNat 0)))),none⟩] [] [4])
 (.ret))))
def M1 (F : Nat → Nat) : Fun := ⟨34,2,(K1 F).erase,[.tmp 4]⟩
theorem ok1 {F : Nat → Nat} : (K1 F).ok = true := rfl
abbrev K2 (F : Nat → Nat) : KC := .seq (.region [⟨some 4,.p (.mov (.val (.int .i64 (.ofNat 0)))),none⟩] [] [0,1])
 (.seq (.region [⟨some 5,.p (.mov (.tmp 0)),none⟩,⟨some 6,.p (.mov (.tmp 1)),none⟩,⟨some 7,.e (.call (F 12) [(.tmp 5),(.tmp 6),(.val (.func (F 1) [] []))]),none⟩,⟨some 4,.p (.mov (.tmp 7)),none⟩] [] [4])
 (.ret))
def M2 (F : Nat → Nat) : Fun := ⟨8,2,(K2 F).erase,[.tmp 4]⟩
theorem ok2 {F : Nat → Nat} : (K2 F).ok = true := rfl
abbrev K3 (F : Nat → Nat) : KC := .seq (.region [⟨some 4,.a (.new [.bool false,.int .i64 (.ofNat 0),.int .i64 (.ofNat 0),.nilslice]),none⟩] [] [0,1,4])
 (.seq (.seq (.region [⟨some 5,.p (.mov (.tmp 1)),none⟩,⟨some 6,.p (.bin .lss (.tmp 5) (.val (.int .i64 (.ofNat 0)))),none⟩,⟨some 7,.p (.mov (.tmp 6)),none⟩,⟨some 8,.p (.mov (.tmp 1)),(some (7,false))⟩,⟨some 9,.p (.mov (.tmp 0)),(some (7,false))⟩,⟨some 10,.p (.lenb (.tmp 9)),(some (7,false))⟩,⟨some 11,.p (.bin .geq (.tmp 8) (.tmp 10)),(some (7,false))⟩,⟨some 12,.p (.pick (.tmp 7) (.val (.bool true)) (.tmp 11)),none⟩] [] [0,1,4,12])
 (.cond (.tmp 12) (.seq (.region [⟨some 13,.p (.build [.bool false,.int .i64 (.ofNat 0),.int .i64 (.ofNat 0),.nilslice] []),none⟩,⟨none,.e (.store 4 (.tmp 4) (.tmp 13)),none⟩] [] [4])
 (.ret))
 (.skip)))
 (.seq (.region [⟨some 14,.p (.mov (.tmp 0)),none⟩,⟨some 15,.p (.mov (.tmp 1)),none⟩,⟨some 16,.p (.iaddr 4 (.tmp 14) (.tmp 15)),none⟩,⟨some 17,.loadn 4 (.tmp 16),none⟩,⟨some 18,.e (.call (F 5) [(.tmp 17)]),none⟩,⟨none,.e (.store 4 (.tmp 4) (.tmp 18)),none⟩] [] [4])
 (.ret)))
def M3 (F : Nat → Nat) : Fun := ⟨19,2,(K3 F).erase,[.celln 4 4]⟩
theorem ok3 {F : Nat → Nat} : (K3 F).ok = true := rfl
abbrev K4 (F : Nat → Nat) : KC := .seq (.region [⟨some 2,.p (.mov (.val (.nilslice))),none⟩] [] [0])
 (.seq (.region [⟨some 3,.p (.mov (.val (.nilslice))),none⟩] [] [0,3])
 (.seq (.seq (.region [⟨some 6,.p (.mov (.tmp 0)),none⟩,⟨some 7,.p (.lenb (.tmp 6)),none⟩,⟨some 8,.p (.mov (.val (.int .i64 (.ofNat 0)))),none⟩] [] [3,6,7,8])
 (.block 0 (.loop (.seq (.region [⟨some 9,.p (.bin .lss (.tmp 8) (.tmp 7)),none⟩] [] [3,6,7,8,9])
 (.seq (.cond (.tmp 9) (.skip)
 (.exit 0))
 (.seq (.block 1 (.seq (.region [⟨some 10,.p (.iaddr 4 (.tmp 6) (.tmp 8)),none⟩,⟨some 11,.loadn 4 (.tmp 10),none⟩,⟨some 5,.a (.new [.bool false,.int .i64 (.ofNat 0),.int .i64 (.ofNat 0),.nilslice]),none⟩,⟨none,.e (.store 4 (.tmp 5) (.tmp 11)),none⟩] [] [3,5,6,7,8])
 (.region [⟨some 12,.p (.mov (.tmp 3)),none⟩,⟨some 13,.loadn 4 (.tmp 5),none⟩,⟨some 14,.e (.call (F 5) [(.tmp 13)]),none⟩,⟨some 15,.a (.bslice [.bool false,.int .i64 (.ofNat 0),.int .i64 (.ofNat 0),.nilslice] 4 1 [(0,4,(.tmp 14))]),none⟩,⟨some 16,.e (.append 4 48 (.tmp 12) (.tmp 15)),none⟩,⟨some 3,.p (.mov (.tmp 16)),none⟩] [15] [3,6,7,8])))
 (.region [⟨some 17,.p (.bin .add (.tmp 8) (.val (.int .i64 (.ofNat 1)))),none⟩,⟨some 8,.p (.mov (.tmp 17)),none⟩] [] [3,6,7,8])))))))
 (.seq (.region [⟨some 18,.p (.mov (.tmp 3)),none⟩,⟨some 19,.e (.call (F 13) [(.tmp 18)]),none⟩,⟨some 2,.p (.mov (.tmp 19)),none⟩] [] [2])
 (.ret))))
def M4 (F : Nat → Nat) : Fun := ⟨20,1,(K4 F).erase,[.tmp 2]⟩
theorem ok4 {F : Nat → Nat} : (K4 F).ok = true := rfl
abbrev K5 (F : Nat → Nat) : KC := .seq (.region [⟨some 1,.a (.box (.tmp 0)),none⟩,⟨some 2,.a (.new [.bool false,.int .i64 (.ofNat 0),.int .i64 (.ofNat 0),.nilslice]),none⟩] [] [1,2])
 (.seq (.region [⟨some 3,.p (.faddr 3 (.tmp 1)),none⟩,⟨some 4,.load1 (.tmp 3),none⟩,⟨some 5,.e (.call (F 14) [(.tmp 4)]),none⟩,⟨some 6,.p (.faddr 3 (.tmp 1)),none⟩,⟨none,.e (.store 1 (.tmp 6) (.tmp 5)),none⟩] [] [1,2])
 (.seq (.region [⟨some 7,.loadn 4 (.tmp 1),none⟩,⟨none,.e (.store 4 (.tmp 2) (.tmp 7)),none⟩] [] [2])
 (.ret)))
def M5 (F : Nat → Nat) : Fun := ⟨8,1,(K5 F).erase,[.celln 4 2]⟩
theorem ok5 {F : Nat → Nat} : (K5 F).ok = true := rfl
abbrev K6 (F : Nat → Nat) : KC := .seq (.region [⟨some 2,.a (.box (.tmp 0)),none⟩,⟨some 3,.a (.box (.tmp 1)),none⟩,⟨some 4,.p (.mov (.val (.bool false))),none⟩] [2,3] [2,3])
 (.seq (.region [⟨some 5,.p (.faddr 0 (.tmp 2)),none⟩,⟨some 6,.load1 (.tmp 5),none⟩,⟨some 7,.p (.faddr 0 (.tmp 3)),none⟩,⟨some 8,.load1 (.tmp 7),none⟩,⟨some 9,.p (.eq .bool false (.tmp 6) (.tmp 8)),none⟩,⟨some 10,.p (.mov (.tmp 9)),none⟩,⟨some 11,.p (.faddr 1 (.tmp 2)),(some (10,true))⟩,⟨some 12,.load1 (.tmp 11),(some (10,true))⟩,⟨some 13,.p (.faddr 1 (.tmp 3)),(some (10,true))⟩,⟨some 14,.load1 (.tmp 13),(some (10,true))⟩,⟨some 15,.p (.bin .eql (.tmp 12) (.tmp 14)),(some (10,true))⟩,⟨some 16,.p (.pick (.tmp 10) (.tmp 15) (.val (.bool false))),none⟩,⟨some 17,.p (.mov (.tmp 16)),none⟩,⟨some 18,.p (.faddr 2 (.tmp 2)),(some (17,true))⟩,⟨some 19,.load1 (.tmp 18),(some (17,true))⟩,⟨some 20,.p (.faddr 2 (.tmp 3)),(some (17,true))⟩,⟨some 21,.load1 (.tmp 20),(some (17,true))⟩,⟨some 22,.p (.bin .eql (.tmp 19) (.tmp 21)),(some (17,true))⟩,⟨some 23,.p (.pick (.tmp 17) (.tmp 22) (.val (.bool false))),none⟩,⟨some 24,.p (.mov (.tmp 23)),none⟩,⟨some 25,.p (.faddr 3 (.tmp 2)),(some (24,true))⟩,⟨some 26,.load1 (.tmp 25),(some (24,true))⟩,⟨some 27,.p (.faddr 3 (.tmp 3)),(some (24,true))⟩,⟨some 28,.load1 (.tmp 27),(some (24,true))⟩,⟨some 29,.e (.call (F 15) [(.tmp 26),(.tmp 28)]),(some (24,true))⟩,⟨some 30,.p (.pick (.tmp 24) (.tmp 29) (.val (.bool false))),none⟩,⟨some 4,.p (.mov (.tmp 30)),none⟩] [] [4])
 (.ret))
def M6 (F : Nat → Nat) : Fun := ⟨31,2,(K6 F).erase,[.tmp 4]⟩
abbrev K7 (F : Nat → Nat) : KC := .seq (.region [⟨some 4,.p (.mov (.val (.bool false))),none⟩] [] [0,1])
 (.seq (.region [⟨some 5,.p (.mov (.tmp 0)),none⟩,⟨some 6,.p (.mov (.tmp 1)),none⟩,⟨some 7,.e (.call (F 16) [(.tmp 5),(.tmp 6),(.val (.func (F 17) [] []))]),none⟩,⟨some 4,.p (.mov (.tmp 7)),none⟩] [] [4])
 (.ret))
def M7 (F : Nat → Nat) : Fun := ⟨8,2,(K7 F).erase,[.tmp 4]⟩
abbrev K8 (_F : Nat → Nat) : KC := .seq (.region [⟨some 1,.a (.box (.tmp 0)),none⟩,⟨some 2,.p (.mov (.val (.int .i64 (.ofNat 0)))),none⟩] [1] [1])
 (.seq (.seq (.region [⟨some 3,.p (.faddr 0 (.tmp 1)),none⟩,⟨some 4,.load1 (.tmp 3),none⟩] [] [4])
 (.cond (.tmp 4) (.seq (.region [⟨some 2,.p (.mov (.val (.int .i64 (.ofNat 0)))),none⟩] [] [2])
 (.ret))
 (.skip)))
 (.seq (.region [⟨some 2,.p (.mov (.val (.int .i64 (.ofNat 1)))),none⟩] [] [2])
 (.ret)))
def M8 (F : Nat → Nat) : Fun := ⟨5,1,(K8 F).erase,[.tmp 2]⟩
theorem ok8 {F : Nat → Nat} : (K8 F).ok = true := rfl
abbrev K9 (F : Nat → Nat) : KC := .seq (.region [⟨some 4,.p (.mov (.val (.int .i64 (.ofNat 0)))),none⟩] [] [0,1])
 (.seq (.region [⟨some 7,.p (.mov (.tmp 0)),none⟩,⟨some 8,.e (.call (F 18) [(.tmp 7)]),none⟩,⟨some 5,.p (.mov (.tmp 8)),none⟩] [] [0,1,5])
 (.seq (.region [⟨some 9,.p (.mov (.tmp 1)),none⟩,⟨some 10,.e (.call (F 18) [(.tmp 9)]),none⟩,⟨some 6,.p (.mov (.tmp 10)),none⟩] [] [0,1,5,6])
 (.seq (.seq (.region [⟨some 11,.p (.mov (.tmp 5)),none⟩] [] [0,1,6,11])
 (.cond (.tmp 11) (.seq (.seq (.region [⟨some 12,.p (.mov (.tmp 6)),none⟩] [] [12])
 (.cond (.tmp 12) (.seq (.region [⟨some 4,.p (.mov (.val (.int .i64 (.ofNat 0)))),none⟩] [] [4])
 (.ret))
 (.skip)))
 (.seq (.region [⟨some 4,.p (.mov (.val (.int .i64 (.negSucc 0)))),none⟩] [] [4])
 (.ret)))
 (.skip)))
 (.seq (.seq (.region [⟨some 13,.p (.mov (.tmp 6)),none⟩] [] [0,1,13])
 (.cond (.tmp 13) (.seq (.region [⟨some 4,.p (.mov (.val (.int .i64 (.ofNat 1)))),none⟩] [] [4])
 (.ret))
 (.skip)))
 (.seq (.seq (.region [⟨some 14,.p (.mov (.tmp 0)),none⟩,⟨some 15,.p (.mov (.tmp 1)),none⟩,⟨some 16,.p (.bin .lss (.tmp 14) (.tmp 15)),none⟩] [] [0,1,16])
 (.cond (.tmp 16) (.seq (.region [⟨some 4,.p (.mov (.val (.int .i64 (.negSucc 0)))),none⟩] [] [4])
 (.ret))
 (.skip)))
 (.seq (.seq (.region [⟨some 17,.p (.mov (.tmp 0)),none⟩,⟨some 18,.p (.mov (.tmp 1)),none⟩,⟨some 19,.p (.bin .gtr (.tmp 17) (.tmp 18)),none⟩] [] [19])
 (.cond (.tmp 19) (.seq (.region [⟨some 4,.p (.mov (.val (.int .i64 (.ofNat 1)))),none⟩] [] [4])
 (.ret))
 (.skip)))
 (.seq (.region [⟨some 4,.p (.mov (.val (.int .i64 (.ofNat 0)))),none⟩] [] [4])
 (.ret))))))))
def M9 (F : Nat → Nat) : Fun := ⟨20,2,(K9 F).erase,[.tmp 4]⟩
theorem ok9 {F : Nat → Nat} : (K9 F).ok = true := rfl
abbrev K10 (F : Nat → Nat) : KC := .seq (.region [⟨some 4,.p (.mov (.val (.int .i64 (.ofNat 0)))),none⟩] [] [0,1])
 (.seq (.region [⟨some 7,.p (.mov (.tmp 0)),none⟩,⟨some 8,.e (.call (F 19) [(.tmp 7)]),none⟩,⟨some 5,.p (.mov (.tmp 8)),none⟩] [] [0,1,5])
 (.seq (.region [⟨some 9,.p (.mov (.tmp 1)),none⟩,⟨some 10,.e (.call (F 19) [(.tmp 9)]),none⟩,⟨some 6,.p (.mov (.tmp 10)),none⟩] [] [0,1,5,6])
 (.seq (.seq (.region [⟨some 11,.p (.mov (.tmp 5)),none⟩] [] [0,1,6,11])
 (.cond (.tmp 11) (.seq (.seq (.region [⟨some 12,.p (.mov (.tmp 6)),none⟩] [] [12])
 (.cond (.tmp 12) (.seq (.region [⟨some 4,.p (.mov (.val (.int .i64 (.ofNat 0)))),none⟩] [] [4])
 (.ret))
 (.skip)))
 (.seq (.region [⟨some 4,.p (.mov (.val (.int .i64 (.negSucc 0)))),none⟩] [] [4])
 (.ret)))
 (.skip)))
 (.seq (.seq (.region [⟨some 13,.p (.mov (.tmp 6)),none⟩] [] [0,1,13])
 (.cond (.tmp 13) (.seq (.region [⟨some 4,.p (.mov (.val (.int .i64 (.ofNat 1)))),none⟩] [] [4])
 (.ret))
 (.skip)))
 (.seq (.seq (.region [⟨some 14,.p (.mov (.tmp 0)),none⟩,⟨some 15,.p (.mov (.tmp 1)),none⟩,⟨some 16,.p (.bin .lss (.tmp 14) (.tmp 15)),none⟩] [] [0,1,16])
 (.cond (.tmp 16) (.seq (.region [⟨some 4,.p (.mov (.val (.int .i64 (.negSucc 0)))),none⟩] [] [4])
 (.ret))
 (.skip)))
 (.seq (.seq (.region [⟨some 17,.p (.mov (.tmp 0)),none⟩,⟨some 18,.p (.mov (.tmp 1)),none⟩,⟨some 19,.p (.bin .gtr (.tmp 17) (.tmp 18)),none⟩] [] [19])
 (.cond (.tmp 19) (.seq (.region [⟨some 4,.p (.mov (.val (.int .i64 (.ofNat 1)))),none⟩] [] [4])
 (.ret))
 (.skip)))
 (.seq (.region [⟨some 4,.p (.mov (.val (.int .i64 (.ofNat 0)))),none⟩] [] [4])
 (.ret))))))))
def M10 (F : Nat → Nat) : Fun := ⟨20,2,(K10 F).erase,[.tmp 4]⟩
theorem ok10 {F : Nat → Nat} : (K10 F).ok = true := rfl
abbrev K11 (F : Nat → Nat) : KC := .seq (.region [⟨some 4,.p (.mov (.val (.int .i64 (.ofNat 0)))),none⟩] [] [0,1])
 (.seq (.region [⟨some 5,.p (.mov (.tmp 0)),none⟩,⟨some 6,.p (.mov (.tmp 1)),none⟩,⟨some 7,.e (.extern (F 20) [(.tmp 5),(.tmp 6)]),none⟩,⟨some 4,.p (.mov (.tmp 7)),none⟩] [] [4])
 (.ret))
def M11 (F : Nat → Nat) : Fun := ⟨8,2,(K11 F).erase,[.tmp 4]⟩
theorem ok11 {F : Nat → Nat} : (K11 F).ok = true := rfl
abbrev K12 (_F : Nat → Nat) : KC := .seq (.region [⟨some 6,.p (.mov (.val (.int .i64 (.ofNat 0)))),none⟩] [] [0,1,2])
 (.seq (.seq (.region [⟨some 11,.p (.mov (.tmp 0)),none⟩,⟨some 12,.p (.lenb (.tmp 11)),none⟩,⟨some 13,.p (.mov (.val (.int .i64 (.ofNat 0)))),none⟩] [] [0,1,2,11,12,13])
 (.block 0 (.loop (.seq (.region [⟨some 14,.p (.bin .lss (.tmp 13) (.tmp 12)),none⟩] [] [0,1,2,11,12,13,14])
 (.seq (.cond (.tmp 14) (.skip)
 (.exit 0))
 (.seq (.block 1 (.seq (.region [⟨some 15,.p (.mov (.tmp 13)),none⟩,⟨some 16,.p (.iaddr 4 (.tmp 11) (.tmp 13)),none⟩,⟨some 17,.loadn 4 (.tmp 16),none⟩,⟨some 8,.a (.new [.bool false,.int .i64 (.ofNat 0),.int .i64 (.ofNat 0),.nilslice]),none⟩,⟨some 7,.p (.mov (.tmp 15)),none⟩,⟨none,.e (.store 4 (.tmp 8) (.tmp 17)),none⟩] [] [0,1,2,7,8,11,12,13])
 (.seq (.seq (.region [⟨some 18,.p (.mov (.tmp 7)),none⟩,⟨some 19,.p (.mov (.tmp 1)),none⟩,⟨some 20,.p (.lenb (.tmp 19)),none⟩,⟨some 21,.p (.bin .geq (.tmp 18) (.tmp 20)),none⟩] [] [0,1,2,7,8,11,12,13,21])
 (.cond (.tmp 21) (.seq (.region [⟨some 6,.p (.mov (.val (.int .i64 (.ofNat 1)))),none⟩] [] [6])
 (.ret))
 (.skip)))
 (.seq (.region [⟨some 22,.p (.mov (.tmp 1)),none⟩,⟨some 23,.p (.mov (.tmp 7)),none⟩,⟨some 24,.p (.iaddr 4 (.tmp 22) (.tmp 23)),none⟩,⟨some 25,.loadn 4 (.tmp 24),none⟩,⟨some 9,.a (.new [.bool false,.int .i64 (.ofNat 0),.int .i64 (.ofNat 0),.nilslice]),none⟩,⟨none,.e (.store 4 (.tmp 9) (.tmp 25)),none⟩] [] [0,1,2,8,9,11,12,13])
 (.seq (.region [⟨some 26,.p (.mov (.tmp 2)),none⟩,⟨some 27,.loadn 4 (.tmp 8),none⟩,⟨some 28,.loadn 4 (.tmp 9),none⟩,⟨some 29,.e (.callv (.tmp 26) [(.tmp 27),(.tmp 28)]),none⟩,⟨some 10,.p (.mov (.tmp 29)),none⟩] [] [0,1,2,10,11,12,13])
 (.seq (.region [⟨some 30,.p (.mov (.tmp 10)),none⟩,⟨some 31,.p (.bin .neq (.tmp 30) (.val (.int .i64 (.ofNat 0)))),none⟩] [] [0,1,2,10,11,12,13,31])
 (.cond (.tmp 31) (.seq (.region [⟨some 32,.p (.mov (.tmp 10)),none⟩,⟨some 6,.p (.mov (.tmp 32)),none⟩] [] [6])
 (.ret))
 (.skip))))))))
 (.region [⟨some 33,.p (.bin .add (.tmp 13) (.val (.int .i64 (.ofNat 1)))),none⟩,⟨some 13,.p (.mov (.tmp 33)),none⟩] [] [0,1,2,11,12,13])))))))
 (.seq (.seq (.region [⟨some 34,.p (.mov (.tmp 0)),none⟩,⟨some 35,.p (.lenb (.tmp 34)),none⟩,⟨some 36,.p (.mov (.tmp 1)),none⟩,⟨some 37,.p (.lenb (.tmp 36)),none⟩,⟨some 38,.p (.bin .lss (.tmp 35) (.tmp 37)),none⟩] [] [38])
 (.cond (.tmp 38) (.seq (.region [⟨some 6,.p (.mov (.val (.int .i64 (.negSucc 0)))),none⟩] [] [6])
 (.ret))
 (.skip)))
 (.seq (.region [⟨some 6,.p (.mov (.val (.int .i64 (.ofNat 0)))),none⟩] [] [6])
 (.ret))))
def M12 (F : Nat → Nat) : Fun := ⟨39,3,(K12 F).erase,[.tmp 6]⟩
theorem ok12 {F : Nat → Nat} : (K12 F).ok = true := rfl
abbrev K13 (_F : Nat → Nat) : KC := .seq (.region [⟨some 2,.p (.mov (.val (.nilslice))),none⟩] [] [0])
 (.seq (.region [⟨some 3,.p (.mov (.tmp 0)),none⟩,⟨some 4,.p (.mov (.tmp 0)),none⟩,⟨some 5,.p (.lenb (.tmp 4)),none⟩,⟨some 6,.p (.mov (.tmp 0)),none⟩,⟨some 7,.p (.lenb (.tmp 6)),none⟩,⟨some 8,.p (.slc 4 (.tmp 3) none (some (.tmp 5)) (some (.tmp 7))),none⟩,⟨some 2,.p (.mov (.tmp 8)),none⟩] [] [2])
 (.ret))
def M13 (F : Nat → Nat) : Fun := ⟨9,1,(K13 F).erase,[.tmp 2]⟩
theorem ok13 {F : Nat → Nat} : (K13 F).ok = true := rfl
abbrev K14 (_F : Nat → Nat) : KC := .seq (.region [⟨some 2,.p (.mov (.val (.nilslice))),none⟩] [] [0])
 (.seq (.seq (.region [⟨some 3,.p (.mov (.tmp 0)),none⟩,⟨some 4,.p (.eq .slice false (.tmp 3) (.val (.nilslice))),none⟩] [] [0,4])
 (.cond (.tmp 4) (.seq (.region [⟨some 2,.p (.mov (.val (.nilslice))),none⟩] [] [2])
 (.ret))
 (.skip)))
 (.seq (.region [⟨some 5,.a (.bslice [] 1 0 []),none⟩,⟨some 6,.p (.mov (.tmp 0)),none⟩,⟨some 7,.e (.append 1 1 (.tmp 5) (.tmp 6)),none⟩,⟨some 2,.p (.mov (.tmp 7)),none⟩] [] [2])
 (.ret)))
def M14 (F : Nat → Nat) : Fun := ⟨8,1,(K14 F).erase,[.tmp 2]⟩
theorem ok14 {F : Nat → Nat} : (K14 F).ok = true := rfl
abbrev K15 (_F : Nat → Nat) : KC := .seq (.region [⟨some 4,.p (.mov (.val (.bool false))),none⟩] [] [0,1])
 (.seq (.region [⟨some 5,.p (.mov (.tmp 0)),none⟩,⟨some 6,.e (.text (.tmp 5)),none⟩,⟨some 7,.p (.mov (.tmp 1)),none⟩,⟨some 8,.e (.text (.tmp 7)),none⟩,⟨some 9,.p (.bin .eql (.tmp 6) (.tmp 8)),none⟩,⟨some 4,.p (.mov (.tmp 9)),none⟩] [] [4])
 (.ret))
def M15 (F : Nat → Nat) : Fun := ⟨10,2,(K15 F).erase,[.tmp 4]⟩
abbrev K16 (_F : Nat → Nat) : KC := .seq (.region [⟨some 6,.p (.mov (.val (.bool false))),none⟩] [] [0,1,2])
 (.seq (.seq (.region [⟨some 10,.p (.mov (.tmp 0)),none⟩,⟨some 11,.p (.lenb (.tmp 10)),none⟩,⟨some 12,.p (.mov (.tmp 1)),none⟩,⟨some 13,.p (.lenb (.tmp 12)),none⟩,⟨some 14,.p (.bin .neq (.tmp 11) (.tmp 13)),none⟩] [] [0,1,2,14])
 (.cond (.tmp 14) (.seq (.region [⟨some 6,.p (.mov (.val (.bool false))),none⟩] [] [6])
 (.ret))
 (.skip)))
 (.seq (.seq (.region [⟨some 15,.p (.mov (.tmp 0)),none⟩,⟨some 16,.p (.lenb (.tmp 15)),none⟩,⟨some 17,.p (.mov (.val (.int .i64 (.ofNat 0)))),none⟩] [] [1,2,15,16,17])
 (.block 0 (.loop (.seq (.region [⟨some 18,.p (.bin .lss (.tmp 17) (.tmp 16)),none⟩] [] [1,2,15,16,17,18])
 (.seq (.cond (.tmp 18) (.skip)
 (.exit 0))
 (.seq (.block 1 (.seq (.region [⟨some 19,.p (.mov (.tmp 17)),none⟩,⟨some 20,.p (.iaddr 1 (.tmp 15) (.tmp 17)),none⟩,⟨some 21,.load1 (.tmp 20),none⟩,⟨some 7,.p (.mov (.tmp 19)),none⟩,⟨some 8,.p (.mov (.tmp 21)),none⟩] [] [1,2,7,8,15,16,17])
 (.seq (.region [⟨some 22,.p (.mov (.tmp 1)),none⟩,⟨some 23,.p (.mov (.tmp 7)),none⟩,⟨some 24,.p (.iaddr 1 (.tmp 22) (.tmp 23)),none⟩,⟨some 25,.load1 (.tmp 24),none⟩,⟨some 9,.p (.mov (.tmp 25)),none⟩] [] [1,2,8,9,15,16,17])
 (.seq (.region [⟨some 26,.p (.mov (.tmp 2)),none⟩,⟨some 27,.p (.mov (.tmp 8)),none⟩,⟨some 28,.p (.mov (.tmp 9)),none⟩,⟨some 29,.e (.callv (.tmp 26) [(.tmp 27),(.tmp 28)]),none⟩,⟨some 30,.p (.not (.tmp 29)),none⟩] [] [1,2,15,16,17,30])
 (.cond (.tmp 30) (.seq (.region [⟨some 6,.p (.mov (.val (.bool false))),none⟩] [] [6])
 (.ret))
 (.skip))))))
 (.region [⟨some 31,.p (.bin .add (.tmp 17) (.val (.int .i64 (.ofNat 1)))),none⟩,⟨some 17,.p (.mov (.tmp 31)),none⟩] [] [1,2,15,16,17])))))))
 (.seq (.region [⟨some 6,.p (.mov (.val (.bool true))),none⟩] [] [6])
 (.ret))))
def M16 (F : Nat → Nat) : Fun := ⟨32,3,(K16 F).erase,[.tmp 6]⟩
abbrev K17 (F : Nat → Nat) : KC := .seq (.region [⟨some 4,.p (.mov (.val (.bool false))),none⟩] [] [0,1])
 (.seq (.region [⟨some 5,.p (.mov (.tmp 0)),none⟩,⟨some 6,.p (.mov (.tmp 1)),none⟩,⟨some 7,.e (.call (F 21) [(.tmp 5),(.tmp 6),(.val (.func (F 6) [] []))]),none⟩,⟨some 4,.p (.mov (.tmp 7)),none⟩] [] [4])
 (.ret))
def M17 (F : Nat → Nat) : Fun := ⟨8,2,(K17 F).erase,[.tmp 4]⟩
abbrev K18 (_F : Nat → Nat) : KC := .seq (.region [⟨some 2,.p (.mov (.val (.bool false))),none⟩] [] [0])
 (.seq (.region [⟨some 3,.p (.mov (.tmp 0)),none⟩,⟨some 4,.p (.mov (.tmp 0)),none⟩,⟨some 5,.p (.bin .neq (.tmp 3) (.tmp 4)),none⟩,⟨some 2,.p (.mov (.tmp 5)),none⟩] [] [2])
 (.ret))
def M18 (F : Nat → Nat) : Fun := ⟨6,1,(K18 F).erase,[.tmp 2]⟩
theorem ok18 {F : Nat → Nat} : (K18 F).ok = true := rfl
abbrev K19 (_F : Nat → Nat) : KC := .seq (.region [⟨some 2,.p (.mov (.val (.bool false))),none⟩] [] [0])
 (.seq (.region [⟨some 3,.p (.mov (.tmp 0)),none⟩,⟨some 4,.p (.mov (.tmp 0)),none⟩,⟨some 5,.p (.bin .neq (.tmp 3) (.tmp 4)),none⟩,⟨some 2,.p (.mov (.tmp 5)),none⟩] [] [2])
 (.ret))
def M19 (F : Nat → Nat) : Fun := ⟨6,1,(K19 F).erase,[.tmp 2]⟩
theorem ok19 {F : Nat → Nat} : (K19 F).ok = true := rfl
abbrev K21 (_F : Nat → Nat) : KC := .seq (.region [⟨some 6,.p (.mov (.val (.bool false))),none⟩] [] [0,1,2])
 (.seq (.seq (.region [⟨some 10,.p (.mov (.tmp 0)),none⟩,⟨some 11,.p (.lenb (.tmp 10)),none⟩,⟨some 12,.p (.mov (.tmp 1)),none⟩,⟨some 13,.p (.lenb (.tmp 12)),none⟩,⟨some 14,.p (.bin .neq (.tmp 11) (.tmp 13)),none⟩] [] [0,1,2,14])
 (.cond (.tmp 14) (.seq (.region [⟨some 6,.p (.mov (.val (.bool false))),none⟩] [] [6])
 (.ret))
 (.skip)))
 (.seq (.seq (.region [⟨some 15,.p (.mov (.tmp 0)),none⟩,⟨some 16,.p (.lenb (.tmp 15)),none⟩,⟨some 17,.p (.mov (.val (.int .i64 (.ofNat 0)))),none⟩] [] [1,2,15,16,17])
 (.block 0 (.loop (.seq (.region [⟨some 18,.p (.bin .lss (.tmp 17) (.tmp 16)),none⟩] [] [1,2,15,16,17,18])
 (.seq (.cond (.tmp 18) (.skip)
 (.exit 0))
 (.seq (.block 1 (.seq (.region [⟨some 19,.p (.mov (.tmp 17)),none⟩,⟨some 20,.p (.iaddr 4 (.tmp 15) (.tmp 17)),none⟩,⟨some 21,.loadn 4 (.tmp 20),none⟩,⟨some 8,.a (.new [.bool false,.int .i64 (.ofNat 0),.int .i64 (.ofNat 0),.nilslice]),none⟩,⟨some 7,.p (.mov (.tmp 19)),none⟩,⟨none,.e (.store 4 (.tmp 8) (.tmp 21)),none⟩] [] [1,2,7,8,15,16,17])
 (.seq (.region [⟨some 22,.p (.mov (.tmp 1)),none⟩,⟨some 23,.p (.mov (.tmp 7)),none⟩,⟨some 24,.p (.iaddr 4 (.tmp 22) (.tmp 23)),none⟩,⟨some 25,.loadn 4 (.tmp 24),none⟩,⟨some 9,.a (.new [.bool false,.int .i64 (.ofNat 0),.int .i64 (.ofNat 0),.nilslice]),none⟩,⟨none,.e (.store 4 (.tmp 9) (.tmp 25)),none⟩] [] [1,2,8,9,15,16,17])
 (.seq (.region [⟨some 26,.p (.mov (.tmp 2)),none⟩,⟨some 27,.loadn 4 (.tmp 8),none⟩,⟨some 28,.loadn 4 (.tmp 9),none⟩,⟨some 29,.e (.callv (.tmp 26) [(.tmp 27),(.tmp 28)]),none⟩,⟨some 30,.p (.not (.tmp 29)),none⟩] [] [1,2,15,16,17,30])
 (.cond (.tmp 30) (.seq (.region [⟨some 6,.p (.mov (.val (.bool false))),none⟩] [] [6])
 (.ret))
 (.skip))))))
 (.region [⟨some 31,.p (.bin .add (.tmp 17) (.val (.int .i64 (.ofNat 1)))),none⟩,⟨some 17,.p (.mov (.tmp 31)),none⟩] [] [1,2,15,16,17])))))))
 (.seq (.region [⟨some 6,.p (.mov (.val (.bool true))),none⟩] [] [6])
 (.ret))))
def M21 (F : Nat → Nat) : Fun := ⟨32,3,(K21 F).erase,[.tmp 6]⟩
end Go.Lib
end

section
namespace Go.Lib
open Go.Vm Go.Dv
abbrev By := Fin 256
structure Vl where
  null : Bool
  kind : Int
  n : Int
  bytes : List By
  small : bytes.length < 1000000
def byE (b : List By) : List (List D) := b.map fun c => [.lit (.int .u8 (c.val : Int))]
def byD (b : List By) : D := .row 1 .p (byE b)
def Vl.c (v : Vl) : List D := [.lit (.bool v.null), .lit (.int .i64 v.kind), .lit (.int .i64 v.n), byD v.bytes]
abbrev Row := List Vl
def rowE (r : Row) : List (List D) := r.map Vl.c
def rowD (r : Row) : D := .row 4 .p (rowE r)
def rowsE (l : List Row) : List (List D) := l.map fun r => [rowD r]
def rowsD (l : List Row) : D := .row 1 .p (rowsE l)
theorem by_under {n : Nat} {b : List By} : (byD b).under n := by
  simp only [byD, D.under]; exact underss_map (fun _ => by simp) _
theorem vl_unders {n : Nat} {v : Vl} : D.unders n v.c := by simp [Vl.c, by_under]
theorem row_under {n : Nat} {r : Row} : (rowD r).under n := by
  simp only [rowD, D.under]; exact underss_map (fun _ => vl_unders) _
theorem rows_under {n : Nat} {l : List Row} : (rowsD l).under n := by
  simp only [rowsD, D.under]; exact underss_map (fun _ => by simp [row_under]) _
theorem by_underss {n : Nat} {b : List By} : D.underss n (byE b) := underss_map (fun _ => by simp) _
theorem row_underss {n : Nat} {r : Row} : D.underss n (rowE r) := underss_map (fun _ => vl_unders) _
theorem rows_underss {n : Nat} {l : List Row} : D.underss n (rowsE l) := underss_map (fun _ => by simp [row_under]) _
theorem by_flat {b : List By} : flatD (byD b) = true := rfl
theorem row_flat {r : Row} : flatD (rowD r) = true := rfl
theorem rows_flat {l : List Row} : flatD (rowsD l) = true := rfl
theorem vl_len {v : Vl} : v.c.length = 4 := rfl
theorem vl_flats {v : Vl} : flatsD v.c = true := rfl
theorem vl_0 {v : Vl} : v.c[0]? = some (.lit (.bool v.null)) := rfl
theorem vl_1 {v : Vl} : v.c[1]? = some (.lit (.int .i64 v.kind)) := rfl
theorem vl_2 {v : Vl} : v.c[2]? = some (.lit (.int .i64 v.n)) := rfl
theorem vl_3 {v : Vl} : v.c[3]? = some (byD v.bytes) := rfl
theorem vl_take {v : Vl} : v.c.take 4 = v.c := rfl
theorem vl_drop {v : Vl} : v.c.drop 4 = [] := rfl
theorem by_len {b : List By} : (byE b).length = b.length := by simp [byE]
theorem row_len {r : Row} : (rowE r).length = r.length := by simp [rowE]
theorem rows_len {l : List Row} : (rowsE l).length = l.length := by simp [rowsE]
theorem lenb_by {b : List By} : lenbD (byD b) = some (.lit (.int .i64 (b.length : Int))) := by simp [byD, by_len]
theorem lenb_row {r : Row} : lenbD (rowD r) = some (.lit (.int .i64 (r.length : Int))) := by simp [rowD, row_len]
theorem lenb_rows {l : List Row} : lenbD (rowsD l) = some (.lit (.int .i64 (l.length : Int))) := by simp [rowsD, rows_len]
theorem cellsD_by {b : List By} : cellsD (byD b) = some [byD b] := rfl
theorem cellsD_rowD {r : Row} : cellsD (rowD r) = some [rowD r] := rfl
theorem cellsD_rowsD {l : List Row} : cellsD (rowsD l) = some [rowsD l] := rfl
def bys (b : List By) : List Nat := b.map fun c => c.val
theorem bys_inj {a b : List By} : bys a = bys b ↔ a = b := by
  constructor
  · intro h
    induction a generalizing b with
    | nil => cases b with
      | nil => rfl
      | cons y b => simp [bys] at h
    | cons x a ih => cases b with
      | nil => simp [bys] at h
      | cons y b =>
        simp only [bys, List.map_cons, List.cons.injEq] at h
        rw [Fin.ext h.1, ih h.2]
  · rintro rfl; rfl
theorem toVs_by : ∀ b : List By, toVs (byE b).flatten = some (b.map fun c => V.int .u8 (c.val : Int))
  | [] => rfl
  | c :: b => by
    have := toVs_by b
    simp only [byE] at this
    simp only [byE, List.map_cons, List.flatten_cons, List.singleton_append, toVs, toV, this]
theorem bytesOf_by : ∀ b : List By, eV.bytesOf (b.map fun c => V.int .u8 (c.val : Int)) = some (bys b)
  | [] => rfl
  | c :: b => by
    show cond (Nat.blt c.val 256) _ none = _
    rw [show Nat.blt c.val 256 = true from nblt.2 c.isLt, cond_true, bytesOf_by b]; rfl
theorem text_by {H : HpD} {b : List By} : textD H (byD b) = some (.lit (.str (bys b)), H) := by
  simp only [byD, textD, Nat.beq, cond_true, strD, toVs_by, bytesOf_by]
theorem neqs_iff : ∀ {a b : List Nat}, neqs a b = true ↔ a = b
  | [], [] => by simp [neqs]
  | [], _ :: _ => by simp [neqs]
  | _ :: _, [] => by simp [neqs]
  | x :: a, y :: b => by
    simp only [neqs, cond_eq_ite]
    by_cases h : Nat.beq x y = true
    · rw [if_pos h, neqs_iff]; rw [nbeq] at h; simp [h]
    · rw [if_neg h]; rw [nbeq] at h; simp [h]
theorem neqs_bys {a b : List By} : neqs (bys a) (bys b) = decide (a = b) := by
  rw [Bool.eq_iff_iff, neqs_iff, bys_inj, decide_eq_true_iff]
theorem str_eql {tab : Tab} {a b : List Nat} : binV tab .eql (.str a) (.str b) = some (.bool (neqs a b)) := rfl
theorem str_neq {tab : Tab} {a b : List Nat} : binV tab .neq (.str a) (.str b) = some (.bool (!neqs a b)) := rfl
theorem str_lss {tab : Tab} {a b : List Nat} : binV tab .lss (.str a) (.str b) = some (.bool (slt a b)) := rfl
theorem bytesV_by {h : Hp} {ψ : Nat → Option Nat} {S : Nat → Prop} {b : List By} {v : V} (k : VD h ψ S (byD b) v) : bytesV h v = some (bys b) := by
  simp only [byD, VD] at k
  rcases k with ⟨rfl, hb⟩ | ⟨c, o, cp, ex, rfl, h1, h2, k⟩
  · cases b with
    | nil => rfl
    | cons x b => simp [byE] at hb
  · rcases k with ⟨hm, _⟩ | ⟨cs, ro, hs, hb, hp⟩
    · cases hm
    · obtain ⟨us, e1, k1⟩ := VDss.cells hp
      rw [Nat.mul_one] at e1
      have := toVs_ok _ (toVs_by b) k1
      subst this
      have hr : h.read c o (byE b).length = some (b.map fun c => V.int .u8 (c.val : Int)) := by unfold Hp.read; rw [hb]; exact e1
      simp only [bytesV, hr]
      exact bytesOf_by b
theorem vl_set3 {v : Vl} : spliceD v.c 3 [byD v.bytes] = v.c := rfl
theorem by_one {b : List By} : ∀ e, e ∈ byE b → e.length = 1 := by simp [byE]
theorem by_flats {b : List By} : ∀ e, e ∈ byE b → flatsD e = true := by simp [byE]
theorem row_four {r : Row} : ∀ e, e ∈ rowE r → e.length = 4 := by simp [rowE]; exact fun _ _ => rfl
theorem at_row {r : Row} {n : Nat} : atO 4 (rowD r) (some n) = elemD (r[n]?.map Vl.c) := by simp [rowD, rowE]
theorem at_rows {l : List Row} {n : Nat} : atO 1 (rowsD l) (some n) = elemD (l[n]?.map fun r => [rowD r]) := by simp [rowsD, rowsE]
theorem at_by {b : List By} {n : Nat} : atO 1 (byD b) (some n) = elemD (b[n]?.map fun c => [.lit (.int .u8 (c.val : Int))]) := by simp [byD, byE]
theorem rowE_snoc {r : Row} {i : Nat} {x : Vl} (hx : r[i]? = some x) : rowE (r.take i) ++ [x.c] = rowE (r.take (i + 1)) := by
  rw [List.take_add_one, hx]; simp [rowE]
theorem rowsE_snoc {l : List Row} {i : Nat} {x : Row} (hx : l[i]? = some x) : rowsE (l.take i) ++ [[rowD x]] = rowsE (l.take (i + 1)) := by
  rw [List.take_add_one, hx]; simp [rowsE]
attribute [simp] at_row at_rows at_by
theorem rows_one {l : List Row} : ∀ e, e ∈ rowsE l → e.length = 1 := by simp [rowsE]
theorem rows_flats {l : List Row} : ∀ e, e ∈ rowsE l → flatsD e = true := by simp [rowsE]; exact fun _ _ => rfl
def zv : Vl := ⟨false, 0, 0, [], by simp⟩
theorem zv_le : D.le (.agg [.lit (.bool false), .lit (.int .i64 0), .lit (.int .i64 0), .lit .nilslice]) (.agg zv.c) := by
  simp [Vl.c, zv, byD, byE, D.le]
attribute [simp] vl_set3 vl_0 vl_1 vl_2 vl_3 vl_take vl_drop by_len row_len rows_len lenb_by lenb_row lenb_rows cellsD_by cellsD_rowD cellsD_rowsD text_by neqs_bys str_eql str_neq str_lss
attribute [simp] by_underss row_underss rows_underss by_under vl_unders row_under rows_under by_flat row_flat rows_flat vl_len vl_flats
end Go.Lib
end

section
set_option maxRecDepth 10000
namespace Go.Lib
open Go.Vm Go.Dv
variable {p : Prog} {ext : Ext} {F : Nat → Nat}
structure HSchm (p : Prog) (ext : Ext) (F : Nat → Nat) : Prop where
  h1 : Has p ext F 1 M1
  h2 : Has p ext F 2 M2
  h3 : Has p ext F 3 M3
  h4 : Has p ext F 4 M4
  h5 : Has p ext F 5 M5
  h6 : Has p ext F 6 M6
  h7 : Has p ext F 7 M7
  h8 : Has p ext F 8 M8
  h9 : Has p ext F 9 M9
  h10 : Has p ext F 10 M10
  h11 : Has p ext F 11 M11
  h12 : Has p ext F 12 M12
  h13 : Has p ext F 13 M13
  h14 : Has p ext F 14 M14
  h15 : Has p ext F 15 M15
  h16 : Has p ext F 16 M16
  h17 : Has p ext F 17 M17
  h18 : Has p ext F 18 M18
  h19 : Has p ext F 19 M19
  h21 : Has p ext F 21 M21
  x20 : ∀ args h, ext (F 20) args h = extV .cmp args h
theorem isNaN_int (L : HSchm p ext F) {n : Int} : FnD p ext (F 18) [.lit (.int .i64 n)] (.lit (.bool false)) := by
  refine fn_of L.h18 (M := M18) rfl ok18 rfl fun H => sem_run 9000 _ ?_
  simp
  refine sem_ret ?_
  simp [M18]
  exact .same (by simp)
theorem isNaN_int64 (L : HSchm p ext F) {n : Int} : FnD p ext (F 19) [.lit (.int .i64 n)] (.lit (.bool false)) := by
  refine fn_of L.h19 (M := M19) rfl ok19 rfl fun H => sem_run 9000 _ ?_
  simp
  refine sem_ret ?_
  simp [M19]
  exact .same (by simp)
def cmpI (a b : Int) : Int := if a < b then -1 else if b < a then 1 else 0
theorem compare_int (L : HSchm p ext F) {a b : Int} : FnD p ext (F 9) [.lit (.int .i64 a), .lit (.int .i64 b)] (.lit (.int .i64 (cmpI a b))) := by
  refine fn_of L.h9 (M := M9) rfl ok9 rfl fun H => sem_run 9000 _ ?_
  simp
  refine sem_fn (isNaN_int L) (by first | exact D.les_refl _ | simp) (sem_run 9000 _ ?_)
  simp
  refine sem_fn (isNaN_int L) (by first | exact D.les_refl _ | simp) (sem_run 9000 _ ?_)
  simp
  refine sem_if (fun h => ?_) fun h => ?_
  · simp
    refine sem_ret ?_
    simp [M9, cmpI, h]
    exact .same (by simp)
  · simp
    refine sem_if (fun h2 => ?_) fun h2 => ?_
    · simp
      refine sem_ret ?_
      simp [M9, cmpI, h, h2]
      exact .same (by simp)
    · simp
      refine sem_ret ?_
      simp [M9, cmpI, h, h2]
      exact .same (by simp)
theorem compare_int64 (L : HSchm p ext F) {a b : Int} : FnD p ext (F 10) [.lit (.int .i64 a), .lit (.int .i64 b)] (.lit (.int .i64 (cmpI a b))) := by
  refine fn_of L.h10 (M := M10) rfl ok10 rfl fun H => sem_run 9000 _ ?_
  simp
  refine sem_fn (isNaN_int64 L) (by first | exact D.les_refl _ | simp) (sem_run 9000 _ ?_)
  simp
  refine sem_fn (isNaN_int64 L) (by first | exact D.les_refl _ | simp) (sem_run 9000 _ ?_)
  simp
  refine sem_if (fun h => ?_) fun h => ?_
  · simp
    refine sem_ret ?_
    simp [M10, cmpI, h]
    exact .same (by simp)
  · simp
    refine sem_if (fun h2 => ?_) fun h2 => ?_
    · simp
      refine sem_ret ?_
      simp [M10, cmpI, h, h2]
      exact .same (by simp)
    · simp
      refine sem_ret ?_
      simp [M10, cmpI, h, h2]
      exact .same (by simp)
def rankV (v : Vl) : Int := if v.null then 0 else 1
theorem rank (L : HSchm p ext F) {v : Vl} : FnD p ext (F 8) [.agg v.c] (.lit (.int .i64 (rankV v))) := by
  refine fn_of L.h8 (M := M8) rfl ok8 rfl fun H => sem_run 9000 _ ?_
  simp [Vl.c]
  refine sem_br (fun h => ?_) fun h => ?_
  · simp
    refine sem_ret ?_
    simp [M8, rankV, h]
    exact .same (by simp)
  · simp
    refine sem_ret ?_
    simp [M8, rankV, h]
    exact .same (by simp)
def cmpB (a b : List By) : Int := cmpL (bys a) (bys b)
theorem cmp_ext (L : HSchm p ext F) {a b : List By} : FnD p ext (F 20) [byD a, byD b] (.lit (.int .i64 (cmpB a b))) := by
  intro H ψ S h vs s k
  simp only [VDl] at k
  obtain ⟨v, r, rfl, k1, w, r2, rfl, k2, rfl⟩ := k
  refine wpc_ext (v := .int .i64 (cmpB a b)) (h' := h) ?_ ⟨ψ, S, _, H, .refl, s, ?_, rfl, rfl⟩
  · rw [L.x20]
    simp only [extV, bytesV_by k1, bytesV_by k2]
    rfl
  · simp [VD, atomV]
theorem bytes_compare (L : HSchm p ext F) {a b : List By} : FnD p ext (F 11) [byD a, byD b] (.lit (.int .i64 (cmpB a b))) := by
  refine fn_of L.h11 (M := M11) rfl ok11 rfl fun H => sem_run 9000 _ ?_
  simp
  refine sem_fn (cmp_ext L) (by first | exact D.les_refl _ | simp) (sem_run 9000 _ ?_)
  simp
  refine sem_ret ?_
  simp [M11]
  exact .same (by simp)
def cmpV (a b : Vl) : Int := if cmpI (rankV a) (rankV b) ≠ 0 ∨ a.null = true then cmpI (rankV a) (rankV b) else if a.kind = 1 then cmpI a.n b.n else if a.kind = 2 then cmpB a.bytes b.bytes else 0
theorem schm_compare (L : HSchm p ext F) {a b : Vl} : FnD p ext (F 1) [.agg a.c, .agg b.c] (.lit (.int .i64 (cmpV a b))) := by
  refine fn_of L.h1 (M := M1) rfl ok1 rfl fun H => sem_run 9000 _ ?_
  simp
  refine sem_dfn (rank L) (by first | exact D.les_refl _ | simp) (sem_run 9000 _ ?_)
  simp
  refine sem_dfn (rank L) (by first | exact D.les_refl _ | simp) (sem_run 9000 _ ?_)
  simp
  refine sem_dfn (compare_int L) (by first | exact D.les_refl _ | simp) (sem_run 9000 _ ?_)
  simp
  by_cases h1 : cmpI (rankV a) (rankV b) = 0
  · cases h2 : a.null
    · by_cases h3 : a.kind = 1
      · simp [h1, h2, h3]
        refine sem_fn (compare_int64 L) (by first | exact D.les_refl _ | simp) (sem_run 9000 _ ?_)
        simp
        refine sem_ret ?_
        simp [M1, cmpV, h1, h2, h3]
        exact .same (by simp)
      · by_cases h4 : a.kind = 2
        · simp [h1, h2, h4]
          refine sem_fn (bytes_compare L) (by first | exact D.les_refl _ | simp) (sem_run 9000 _ ?_)
          simp
          refine sem_ret ?_
          simp [M1, cmpV, h1, h2, h4]
          exact .same (by simp)
        · simp [h1, h2, h3, h4]
          refine sem_ret ?_
          simp [M1, cmpV, h1, h2, h3, h4]
          exact .same (by simp)
    · simp [h1, h2]
      refine sem_ret ?_
      simp [M1, cmpV, h1, h2]
      exact .same (by simp)
  · simp [h1]
    refine sem_ret ?_
    simp [M1, cmpV, h1]
    exact .same (by simp)
theorem slcRow_eq {sz : Nat} {m : Md} {l : List (List D)} {lo hi mx : Option V} : slcD sz (.row sz m l) (lo.map .lit) (hi.map .lit) (mx.map .lit) = cond (needH hi mx) (slcRow sz m l lo hi mx) none := by
  cases lo <;> cases hi <;> cases mx <;> simp only [slcD, Option.map, bndD, beq_d, decide_true, cond_true]
theorem slc_clip {sz : Nat} {m : Md} {l : List (List D)} (hm : m ≠ .w) : slcD sz (.row sz m l) none (some (.lit (.int .i64 (l.length : Int)))) (some (.lit (.int .i64 (l.length : Int)))) = some (.row sz .c l) := by
  have := slcRow_eq (sz := sz) (m := m) (l := l) (lo := none) (hi := some (.int .i64 (l.length : Int))) (mx := some (.int .i64 (l.length : Int)))
  simp only [Option.map] at this
  rw [this]
  simp only [needH, cond_true, slcRow, boundM, natOf_cast, ble_d, Nat.le_refl, decide_true, boundH, boundL, cutMd, beq_d]
  cases m <;> simp at hm ⊢
theorem clip_val (L : HSchm p ext F) {r : Row} : FnD p ext (F 13) [rowD r] (rowD r) := by
  refine fn_of L.h13 (M := M13) rfl ok13 rfl fun H => sem_run 9000 _ ?_
  simp [rowD]
  have := slc_clip (sz := 4) (m := .p) (l := rowE r) (by simp)
  simp only [row_len] at this
  simp [this]
  refine sem_ret ?_
  simp [M13]
  exact .le .refl (by simp [D.le]) (by simp)
theorem clone_by (L : HSchm p ext F) {b : List By} (hb : b.length < 1000000) : FnD p ext (F 14) [byD b] (byD b) := by
  refine fn_of L.h14 (M := M14) rfl ok14 rfl fun H => sem_run 9000 _ ?_
  simp [byD]
  refine ⟨?_, ?_⟩
  · intro h0
    refine sem_ret ?_
    simp [M14]
    exact .le .refl (by rw [h0]; simp [D.le]) (by simp)
  · obtain ⟨s', H', e, g, _⟩ := (Gr.lit (el := []) (sz := 1) (H := H) (ex := true) (c := []) (n := 0) Sub.refl (by simp) rfl rfl).app (by_ := 1) (m := .p) (new := byE b) by_one by_flats (roomyD (by simp; omega) (by simp; omega))
    simp [e]
    refine sem_ret ?_
    simp [M14]
    exact g.fin (by simp) (by simp)
theorem schm_val (L : HSchm p ext F) {v : Vl} : FnD p ext (F 5) [.agg v.c] (.agg v.c) := by
  refine fn_of L.h5 (M := M5) rfl ok5 rfl fun H => sem_run 9000 _ ?_
  simp
  refine sem_fn (clone_by L v.small) (by first | exact D.les_refl _ | simp) (sem_run 9000 _ ?_)
  simp
  refine sem_ret ?_
  simp [M5, Vl.c]
  exact .le (by repeat (first | exact Sub.refl | apply Sub.new | refine Sub.put ?_ (by first | omega | (simp only [put_next, new_next]; omega)))) (by simp) (by simp)
def RowI (H0 : HpD) (r : Row) (k : Nat) (fr : FrD) (H : HpD) : Prop :=
  ∃ (i : Nat) (s : D), k = r.length - i ∧ i ≤ r.length ∧ fr = [(3, s), (6, rowD r), (7, .lit (.int .i64 (r.length : Int))), (8, .lit (.int .i64 (i : Int)))] ∧ Gr H0 H 4 s (rowE (r.take i))
theorem schm_row (L : HSchm p ext F) {r : Row} (hr : r.length < 1000000) : FnD p ext (F 4) [rowD r] (rowD r) := by
  refine fn_of L.h4 (M := M4) rfl ok4 rfl fun H => sem_run 9000 _ ?_
  simp
  refine sem_loop (RowI H r) ?_ (k := r.length) ⟨0, .lit .nilslice, by simp, by simp, rfl, by simpa [rowE] using Gr.start⟩
  rintro k fr H' ⟨i, s, rfl, hi, rfl, g⟩
  refine sem_run 9000 _ ?_
  simp
  by_cases c : i < r.length
  · have hx : r[i]? = some r[i] := by simp
    simp [c]
    refine sem_fn (schm_val L) (by first | exact D.les_refl _ | simp) (sem_run 9000 _ ?_)
    simp
    refine sem_push (g.mono (by repeat (first | exact Sub.refl | apply Sub.new | refine Sub.put ?_ (by first | omega | (simp only [put_next, new_next]; omega))))) rfl rfl (roomyD (by simp; omega) (by simp; omega)) fun s' H1 g1 _ _ => ?_
    simp
    refine sem_ok ?_
    have hw : wr .i64 ((i : Int) + 1) = ((i + 1 : Nat) : Int) := by rw [wr_of] <;> omega
    rw [rowE_snoc hx] at g1
    exact ⟨_, by omega, i + 1, s', rfl, by omega, by rw [hw], g1⟩
  · simp [c]
    refine sem_exit (sem_run 9000 _ ?_)
    have : i = r.length := by omega
    subst this
    rw [List.take_length] at g
    simp
    refine sem_row g 0 rfl fun H2 s2 _ _ => ?_
    refine sem_fn (clip_val L) (by first | exact D.les_refl _ | simp) (sem_run 9000 _ ?_)
    simp
    refine sem_ret ?_
    simp [M4]
    exact .le s2 (D.le_refl _) (by simp)
def atV (r : Row) (c : Int) : Vl := if c < 0 then zv else (r[c.toNat]?).getD zv
theorem schm_at (L : HSchm p ext F) {r : Row} {c : Int} : FnD p ext (F 3) [rowD r, .lit (.int .i64 c)] (.agg (atV r c).c) := by
  refine fn_of L.h3 (M := M3) rfl ok3 rfl fun H => sem_run 9000 _ ?_
  simp
  by_cases h1 : c < 0
  · simp [h1]
    refine sem_ret ?_
    simp [M3]
    exact .le (by repeat (first | exact Sub.refl | apply Sub.new | refine Sub.put ?_ (by first | omega | (simp only [put_next, new_next]; omega)))) (by rw [atV, if_pos h1]; exact zv_le) (by simp)
  · obtain ⟨n, rfl⟩ : ∃ n : Nat, c = n := ⟨c.toNat, by omega⟩
    by_cases h2 : r.length ≤ n
    · simp [h1, h2]
      refine sem_ret ?_
      simp [M3]
      exact .le (by repeat (first | exact Sub.refl | apply Sub.new | refine Sub.put ?_ (by first | omega | (simp only [put_next, new_next]; omega)))) (by rw [atV, if_neg h1]; simp [h2]; exact zv_le) (by simp)
    · have h3 : n < r.length := by omega
      simp [h1, h2, h3]
      refine sem_fn (schm_val L) (by first | exact D.les_refl _ | simp) (sem_run 9000 _ ?_)
      simp
      refine sem_ret ?_
      simp [M3]
      exact .le (by repeat (first | exact Sub.refl | apply Sub.new | refine Sub.put ?_ (by first | omega | (simp only [put_next, new_next]; omega)))) (by rw [atV, if_neg h1]; simp [h3]) (by simp)
def cmpRow (cmp : Vl → Vl → Int) : Row → Row → Int
  | [], [] => 0
  | [], _ :: _ => -1
  | _ :: _, [] => 1
  | a :: x, b :: y => if cmp a b ≠ 0 then cmp a b else cmpRow cmp x y
theorem compareFunc (L : HSchm p ext F) {f : Nat} {cmp : Vl → Vl → Int} (hf : ∀ a b : Vl, FnD p ext f [.agg a.c, .agg b.c] (.lit (.int .i64 (cmp a b)))) {x y : Row} (hx : x.length < 1000000) : FnD p ext (F 12) [rowD x, rowD y, .func f [] []] (.lit (.int .i64 (cmpRow cmp x y))) := by
  refine fn_of L.h12 (M := M12) rfl ok12 rfl fun H => sem_run 9000 _ ?_
  simp
  refine sem_loop (fun k fr H' => ∃ i : Nat, k = x.length - i ∧ i ≤ x.length ∧ i ≤ y.length ∧ cmpRow cmp x y = cmpRow cmp (x.drop i) (y.drop i) ∧ fr = [(0, rowD x), (1, rowD y), (2, .func f [] []), (11, rowD x), (12, .lit (.int .i64 (x.length : Int))), (13, .lit (.int .i64 (i : Int)))] ∧ Sub H H') ?_ (k := x.length) ⟨0, by simp, by simp, by simp, by simp, rfl, .refl⟩
  rintro k fr H' ⟨i, rfl, hi, hi2, hc, rfl, hs⟩
  refine sem_run 9000 _ ?_
  simp
  by_cases c : i < x.length
  · by_cases c2 : y.length ≤ i
    · simp [c, c2]
      refine sem_ret ?_
      simp
      refine sem_ret ?_
      simp [M12]
      have : y.drop i = [] := List.drop_eq_nil_of_le (by omega)
      rw [hc, this, List.drop_eq_getElem_cons c]
      exact .le (by have := hs.next; repeat (first | exact hs | apply Sub.new | refine Sub.put ?_ (by first | omega | (simp only [put_next, new_next]; omega)))) (by simp [cmpRow]) trivial
    · have c3 : i < y.length := by omega
      simp [c, c2, c3]
      refine sem_fn (hf x[i] y[i]) (by first | exact D.les_refl _ | simp) (sem_run 9000 _ ?_)
      simp
      rw [List.drop_eq_getElem_cons c, List.drop_eq_getElem_cons c3] at hc
      by_cases c4 : cmp x[i] y[i] = 0
      · simp [c4]
        refine sem_ok ?_
        have hw : wr .i64 ((i : Int) + 1) = ((i + 1 : Nat) : Int) := by rw [wr_of] <;> omega
        exact ⟨_, by omega, i + 1, rfl, by omega, by omega, by rw [hc]; simp [cmpRow, c4], by rw [hw], (by have := hs.next; repeat (first | exact hs | apply Sub.new | refine Sub.put ?_ (by first | omega | (simp only [put_next, new_next]; omega))))⟩
      · simp [c4]
        refine sem_ret ?_
        simp
        refine sem_ret ?_
        simp [M12]
        exact .le (by have := hs.next; repeat (first | exact hs | apply Sub.new | refine Sub.put ?_ (by first | omega | (simp only [put_next, new_next]; omega)))) (by rw [hc]; simp [cmpRow, c4]) trivial
  · simp [c]
    refine sem_exit (sem_run 9000 _ ?_)
    have hd : x.drop i = [] := List.drop_eq_nil_of_le (by omega)
    have hl : i = x.length := by omega
    by_cases c2 : x.length < y.length
    · simp [c2]
      refine sem_ret ?_
      simp [M12]
      rw [hc, hd, List.drop_eq_getElem_cons (by omega)]
      exact .le (by have := hs.next; repeat (first | exact hs | apply Sub.new | refine Sub.put ?_ (by first | omega | (simp only [put_next, new_next]; omega)))) (by simp [cmpRow]) trivial
    · simp [c2]
      refine sem_ret ?_
      simp [M12]
      rw [hc, hd, List.drop_eq_nil_of_le (by omega : y.length ≤ i)]
      exact .le (by have := hs.next; repeat (first | exact hs | apply Sub.new | refine Sub.put ?_ (by first | omega | (simp only [put_next, new_next]; omega)))) (by simp [cmpRow]) trivial
theorem schm_rows (L : HSchm p ext F) {x y : Row} (hx : x.length < 1000000) : FnD p ext (F 2) [rowD x, rowD y] (.lit (.int .i64 (cmpRow cmpV x y))) := by
  refine fn_of L.h2 (M := M2) rfl ok2 rfl fun H => sem_run 9000 _ ?_
  simp
  refine sem_fn (compareFunc L (fun a b => schm_compare L) hx) (by first | exact D.les_refl _ | simp) (sem_run 9000 _ ?_)
  simp
  refine sem_ret ?_
  simp [M2]
  exact .same (by simp)
theorem vl_ext {a b : Vl} : a = b ↔ a.null = b.null ∧ a.kind = b.kind ∧ a.n = b.n ∧ a.bytes = b.bytes := by
  cases a; cases b; simp
instance : DecidableEq Vl := fun _a _b => decidable_of_iff _ vl_ext.symm
end Go.Lib
end

section
set_option maxRecDepth 10000
namespace Go.Lib
open Go.Vm Go.Dv
variable {α : Type}
structure Ord3 (G : α → Prop) (cmp : α → α → Int) : Prop where
  sym : ∀ x y, G x → G y → cmp x y = - cmp y x
  tr : ∀ x y z, G x → G y → G z → cmp x y ≤ 0 → cmp y z ≤ 0 → cmp x z ≤ 0
namespace Ord3
variable {G : α → Prop} {cmp : α → α → Int}
theorem lt_le (o : Ord3 G cmp) {x y z : α} (hx : G x) (hy : G y) (hz : G z) (h1 : cmp x y < 0) (h2 : cmp y z ≤ 0) : cmp x z < 0 := by
  have h3 := o.tr x y z hx hy hz (by omega) h2
  rcases Int.lt_or_eq_of_le h3 with h | h
  · exact h
  · have := o.sym x z hx hz
    have h4 := o.tr y z x hy hz hx h2 (by omega)
    have := o.sym x y hx hy
    omega
theorem le_lt (o : Ord3 G cmp) {x y z : α} (hx : G x) (hy : G y) (hz : G z) (h1 : cmp x y ≤ 0) (h2 : cmp y z < 0) : cmp x z < 0 := by
  have h3 := o.tr x y z hx hy hz h1 (by omega)
  rcases Int.lt_or_eq_of_le h3 with h | h
  · exact h
  · have := o.sym x z hx hz
    have h4 := o.tr z x y hz hx hy (by omega) h1
    have := o.sym y z hy hz
    omega
theorem eq_eq (o : Ord3 G cmp) {x y z : α} (hx : G x) (hy : G y) (hz : G z) (h1 : cmp x y = 0) (h2 : cmp y z = 0) : cmp x z = 0 := by
  have h3 := o.tr x y z hx hy hz (by omega) (by omega)
  have e1 := o.sym x y hx hy
  have e2 := o.sym y z hy hz
  have e3 := o.sym x z hx hz
  have h4 := o.tr z y x hz hy hx (by omega) (by omega)
  omega
theorem anti (o : Ord3 G cmp) : ∀ x y, G x → G y → cmp x y < 0 → ¬ cmp y x < 0 := fun x y hx hy h => by
  have := o.sym x y hx hy; omega
theorem trans (o : Ord3 G cmp) : ∀ x y z, G x → G y → G z → ¬ cmp y x < 0 → ¬ cmp z y < 0 → ¬ cmp z x < 0 := fun x y z hx hy hz h1 h2 => by
  have e1 := o.sym x y hx hy
  have e2 := o.sym y z hy hz
  have e3 := o.sym x z hx hz
  have := o.tr x y z hx hy hz (by omega) (by omega)
  omega
end Ord3
theorem cmpI_ord : Ord3 (fun _ => True) cmpI :=
  ⟨fun x y _ _ => by unfold cmpI; repeat' split <;> omega, fun x y z _ _ _ h1 h2 => by unfold cmpI at *; split at h1 <;> split at h2 <;> (repeat' split) <;> omega⟩
theorem cmpI_eq {x y : Int} : cmpI x y = 0 ↔ x = y := by unfold cmpI; repeat' split <;> omega
theorem cmpL_cons {a b : Nat} {x y : List Nat} : cmpL (a :: x) (b :: y) = if cmpI a b ≠ 0 then cmpI a b else cmpL x y := by
  simp only [cmpL, cmpI, cond_eq_ite, nblt]
  repeat' split
  all_goals first | rfl | omega
theorem cmpL_ord : Ord3 (fun _ => True) cmpL := by
  refine ⟨fun x y _ _ => ?_, fun x y z _ _ _ => ?_⟩
  · induction x generalizing y with
    | nil => cases y <;> rfl
    | cons a x ih => cases y with
      | nil => rfl
      | cons b y =>
        rw [cmpL_cons, cmpL_cons]
        have := cmpI_ord.sym (a : Int) b trivial trivial
        have := ih y
        split <;> split <;> omega
  · induction x generalizing y z with
    | nil => intro _ _; cases z <;> simp [cmpL]
    | cons a x ih => cases y with
      | nil => intro h; simp [cmpL] at h
      | cons b y => cases z with
        | nil => intro _ h; simp [cmpL] at h
        | cons c z =>
          rw [cmpL_cons, cmpL_cons, cmpL_cons]
          intro h1 h2
          have ih := ih y z
          have o := cmpI_ord
          have t := o.tr (a : Int) b c trivial trivial trivial
          have t1 := o.lt_le (x := (a : Int)) (y := b) (z := c) trivial trivial trivial
          have t2 := o.le_lt (x := (a : Int)) (y := b) (z := c) trivial trivial trivial
          have t3 := o.eq_eq (x := (a : Int)) (y := b) (z := c) trivial trivial trivial
          split at h1 <;> split at h2 <;> split <;> first | omega | (exact ih (by omega) (by omega)) | skip
theorem cmpB_ord : Ord3 (fun _ => True) cmpB := ⟨fun _ _ _ _ => cmpL_ord.sym _ _ trivial trivial, fun _ _ _ _ _ _ h1 h2 => cmpL_ord.tr _ _ _ trivial trivial trivial h1 h2⟩
theorem cmpL_eq : ∀ {x y : List Nat}, cmpL x y = 0 ↔ x = y
  | [], [] => by simp [cmpL]
  | [], _ :: _ => by simp [cmpL]
  | _ :: _, [] => by simp [cmpL]
  | a :: x, b :: y => by
    rw [cmpL_cons]
    have := cmpI_eq (x := (a : Int)) (y := b)
    split
    · constructor
      · intro h; omega
      · intro h; simp only [List.cons.injEq] at h; omega
    · rw [cmpL_eq]
      constructor
      · rintro rfl; simp; omega
      · intro h; exact (List.cons.inj h).2
theorem cmpB_eq {x y : List By} : cmpB x y = 0 ↔ x = y := by unfold cmpB; rw [cmpL_eq, bys_inj]
theorem cmpV_null {a b : Vl} : cmpV a b = if a.null = true then (if b.null = true then 0 else -1) else if b.null = true then 1 else if a.kind = 1 then cmpI a.n b.n else if a.kind = 2 then cmpB a.bytes b.bytes else 0 := by
  unfold cmpV rankV cmpI
  cases a.null <;> cases b.null <;> simp
theorem cmpV_ord {k : Int} : Ord3 (fun v : Vl => v.kind = k) cmpV := by
  refine ⟨fun x y hx hy => ?_, fun x y z hx hy hz h1 h2 => ?_⟩
  · rw [cmpV_null, cmpV_null, hx, hy]
    have := cmpI_ord.sym x.n y.n trivial trivial
    have := cmpB_ord.sym x.bytes y.bytes trivial trivial
    repeat' split
    all_goals omega
  · rw [cmpV_null] at *
    rw [hx] at *
    rw [hy] at h2
    have := cmpI_ord.tr x.n y.n z.n trivial trivial trivial
    have := cmpB_ord.tr x.bytes y.bytes z.bytes trivial trivial trivial
    cases hx0 : x.null <;> cases hy0 : y.null <;> cases hz0 : z.null <;> simp [hx0, hy0, hz0] at h1 h2 ⊢
    split at h1
    · rename_i e
      simp only [e] at h2 ⊢
      simp at h2 ⊢; omega
    · rename_i e
      simp only [e] at h2 ⊢
      split at h1
      · rename_i e2
        simp [e2] at h2 ⊢; omega
      · rename_i e2
        simp [e2]
theorem cmpL_abs : ∀ {x y : List Nat}, -1 ≤ cmpL x y ∧ cmpL x y ≤ 1
  | [], [] => by simp [cmpL]
  | [], _ :: _ => by simp [cmpL]
  | _ :: _, [] => by simp [cmpL]
  | a :: x, b :: y => by
    rw [cmpL_cons]
    have := cmpL_abs (x := x) (y := y)
    unfold cmpI
    repeat' split
    all_goals omega
theorem cmpV_abs {a b : Vl} : -1 ≤ cmpV a b ∧ cmpV a b ≤ 1 := by
  rw [cmpV_null]
  have := cmpL_abs (x := bys a.bytes) (y := bys b.bytes)
  unfold cmpI cmpB
  repeat' split
  all_goals omega
def Kin (ks : List Int) (r : Row) : Prop := r.map Vl.kind = ks
theorem cmpRow_ord : ∀ {ks : List Int}, Ord3 (Kin ks) (cmpRow cmpV) := by
  intro ks
  refine ⟨?_, ?_⟩
  · induction ks with
    | nil =>
      intro x y hx hy
      simp only [Kin, List.map_eq_nil_iff] at hx hy
      subst hx; subst hy; rfl
    | cons k ks ih =>
      intro x y hx hy
      cases x with
      | nil => simp [Kin] at hx
      | cons a x => cases y with
        | nil => simp [Kin] at hy
        | cons b y =>
          simp only [Kin, List.map_cons, List.cons.injEq] at hx hy
          have := ih x y hx.2 hy.2
          have := (cmpV_ord (k := k)).sym a b hx.1 hy.1
          simp only [cmpRow]
          split <;> split <;> omega
  · induction ks with
    | nil =>
      intro x y z hx hy hz
      simp only [Kin, List.map_eq_nil_iff] at hx hy hz
      subst hx; subst hy; subst hz; simp [cmpRow]
    | cons k ks ih =>
      intro x y z hx hy hz
      cases x with
      | nil => simp [Kin] at hx
      | cons a x => cases y with
        | nil => simp [Kin] at hy
        | cons b y => cases z with
          | nil => simp [Kin] at hz
          | cons c z =>
            simp only [Kin, List.map_cons, List.cons.injEq] at hx hy hz
            have ih := ih x y z hx.2 hy.2 hz.2
            have o := cmpV_ord (k := k)
            have t := o.tr a b c hx.1 hy.1 hz.1
            have t1 := o.lt_le hx.1 hy.1 hz.1
            have t2 := o.le_lt hx.1 hy.1 hz.1
            have t3 := o.eq_eq hx.1 hy.1 hz.1
            simp only [cmpRow]
            intro h1 h2
            split at h1 <;> split at h2 <;> split <;> first | omega | (exact ih (by omega) (by omega)) | skip
end Go.Lib
end

section
set_option maxRecDepth 10000
namespace Go.Lib
open Go.Vm Go.Dv Go.Srt
variable {p : Prog} {ext : Ext} {F : Nat → Nat}
structure HAggr (p : Prog) (ext : Ext) (F : Nat → Nat) : Prop where
  srt : HSrt p ext F
  schm : HSchm p ext F
  h32 : Has p ext F 32 M32
  h33 : Has p ext F 33 M33
  h34 : Has p ext F 34 M34
  h35 : Has p ext F 35 M35
  h36 : Has p ext F 36 M36
  h37 : Has p ext F 37 M37
  h38 : Has p ext F 38 M38
  h39 : Has p ext F 39 M39
  h40 : Has p ext F 40 M40
  h41 : Has p ext F 41 M41
  h42 : Has p ext F 42 M42
  h43 : Has p ext F 43 M43
  h44 : Has p ext F 44 M44
theorem slc_own {sz b n : Nat} {ex : Bool} : slcD sz (.slice b 0 sz n n ex) none (some (.lit (.int .i64 (n : Int)))) (some (.lit (.int .i64 (n : Int)))) = some (.slice b 0 sz n n true) := by
  simp [slcD, bndD, slcV, sliceO, needH, boundM, boundH, boundL, ble_d]
theorem slc_nil {sz : Nat} : slcD sz (.lit .nilslice) none (some (.lit (.int .i64 0))) (some (.lit (.int .i64 0))) = some (.lit .nilslice) := rfl
theorem clip_own (L : HAggr p ext F) {H0 H : HpD} {s : D} {el : List (List D)} (g : Gr H0 H 1 s el) : WcD p ext (F 39) [s] H (fun d H' => Gr H0 H' 1 d el) := by
  refine wc_of L.h39 (M := M39) rfl ok39 rfl (sem_run 9000 _ ?_)
  rcases g.at_ with ⟨rfl, rfl⟩ | ⟨b, ex, el0, rfl, h1, h2, h3, h4⟩
  · simp [slc_nil]
    refine sem_ret ?_
    simp [M39]
    exact g
  · simp [slc_own]
    refine sem_ret ?_
    simp [M39]
    exact ⟨g.sub, g.len, .inr ⟨b, true, el0, rfl, h1, h2, h3, h4⟩⟩
def StillI (H0 : HpD) (l : List Row) (k : Nat) (fr : FrD) (H : HpD) : Prop :=
  ∃ (i : Nat) (s : D), k = l.length - i ∧ i ≤ l.length ∧ fr = [(3, s), (6, rowsD l), (7, .lit (.int .i64 (l.length : Int))), (8, .lit (.int .i64 (i : Int)))] ∧ Gr H0 H 1 s (rowsE (l.take i))
def Fine (l : List Row) : Prop := l.length < 1000000 ∧ ∀ r, r ∈ l → r.length < 1000000
theorem still_own (L : HAggr p ext F) {l : List Row} {H : HpD} (hl : Fine l) : WcD p ext (F 37) [rowsD l] H (fun d H' => Gr H H' 1 d (rowsE l)) := by
  refine wc_of L.h37 (M := M37) rfl ok37 rfl (sem_run 9000 _ ?_)
  simp
  refine sem_loop (StillI H l) ?_ (k := l.length) ⟨0, .lit .nilslice, by simp, by simp, rfl, by simpa [rowsE] using Gr.start⟩
  rintro k fr H' ⟨i, s, rfl, hi, rfl, g⟩
  refine sem_run 9000 _ ?_
  simp
  have hl1 := hl.1
  by_cases c : i < l.length
  · have hx : l[i]? = some l[i] := by simp
    have hr := hl.2 l[i] (by simp)
    simp [c]
    refine sem_fn (schm_row L.schm hr) (by first | exact D.les_refl _ | simp) (sem_run 9000 _ ?_)
    simp
    refine sem_push (g.mono (by repeat (first | exact Sub.refl | apply Sub.new | refine Sub.put ?_ (by first | omega | (simp only [put_next, new_next]; omega))))) rfl rfl (roomyD (by simp; omega) (by simp; omega)) fun s' H1 g1 _ _ => ?_
    simp
    refine sem_ok ?_
    have hw : wr .i64 ((i : Int) + 1) = ((i + 1 : Nat) : Int) := by rw [wr_of] <;> omega
    rw [rowsE_snoc hx] at g1
    exact ⟨_, by omega, i + 1, s', rfl, by omega, by rw [hw], g1⟩
  · simp [c]
    refine sem_exit (sem_run 9000 _ ?_)
    have : i = l.length := by omega
    subst this
    rw [List.take_length] at g
    simp
    refine sem_call (clip_own L g) fun d H2 g2 => ?_
    refine sem_run 9000 _ ?_
    simp
    refine sem_ret ?_
    simp [M37]
    exact g2
def rowEnc : Enc Row := ⟨rowD, fun _ => rfl, fun _ => rfl⟩
theorem rowsE_flat {l : List Row} : (rowsE l).flatten = l.map rowEnc.d := by
  induction l with
  | nil => rfl
  | cons r l ih => simp only [rowsE, List.map_cons, List.flatten_cons] at ih ⊢; rw [ih]; rfl
def NilI (fr0 : FrD) (H0 : HpD) (k : Nat) (fr : FrD) (H : HpD) : Prop := k = 0 ∧ fr = fr0 ∧ H = H0
theorem insertion_nil (L : HSrt p ext F) {H : HpD} {cv : D} : WcD p ext (F 28) [.lit .nilslice, .lit (.int .i64 0), .lit (.int .i64 0), cv] H (fun d H' => d = .tup [] ∧ H' = H) := by
  refine wc_of L.h28 (M := M28) rfl ok28 rfl (sem_run 9000 _ ?_)
  simp
  refine sem_loop (NilI [(0, .lit .nilslice), (1, .lit (.int .i64 0)), (2, .lit (.int .i64 0)), (3, cv), (8, .lit (.int .i64 1))] H) ?_ (k := 0) ⟨rfl, rfl, rfl⟩
  rintro k fr H' ⟨rfl, rfl, rfl⟩
  refine sem_run 9000 _ ?_
  simp
  refine sem_exit (sem_run 9000 _ ?_)
  simp
  refine sem_ok ?_
  simp [M28]
theorem stable_nil (L : HSrt p ext F) {H : HpD} {cv : D} : WcD p ext (F 27) [.lit .nilslice, .lit (.int .i64 0), cv] H (fun d H' => d = .tup [] ∧ H' = H) := by
  refine wc_of L.h27 (M := M27) rfl ok27 rfl (sem_run 9000 _ ?_)
  simp
  refine sem_loop (NilI [(0, .lit .nilslice), (1, .lit (.int .i64 0)), (2, cv), (6, .lit (.int .i64 20)), (7, .lit (.int .i64 0)), (8, .lit (.int .i64 20))] H) ?_ (k := 0) ⟨rfl, rfl, rfl⟩
  rintro k fr H' ⟨rfl, rfl, rfl⟩
  refine sem_run 9000 _ ?_
  simp
  refine sem_exit (sem_run 9000 _ ?_)
  simp
  refine sem_call (insertion_nil L) ?_
  rintro _ _ ⟨rfl, rfl⟩
  refine sem_run 9000 _ ?_
  simp
  refine sem_loop (NilI [(0, .lit .nilslice), (1, .lit (.int .i64 0)), (2, cv), (6, .lit (.int .i64 20))] _) ?_ (k := 0) ⟨rfl, rfl, rfl⟩
  rintro k fr H' ⟨rfl, rfl, rfl⟩
  refine sem_run 9000 _ ?_
  simp
  refine sem_exit (sem_run 9000 _ ?_)
  simp
  refine sem_ok ?_
  simp [M27]
theorem sortStable_nil (L : HSrt p ext F) {H : HpD} {cv : D} : WcD p ext (F 26) [.lit .nilslice, cv] H (fun d H' => d = .tup [] ∧ H' = H) := by
  refine wc_of L.h26 (M := M26) rfl ok26 rfl (sem_run 9000 _ ?_)
  simp
  refine sem_call (stable_nil L) ?_
  rintro _ _ ⟨rfl, rfl⟩
  refine sem_run 9000 _ ?_
  simp
  refine sem_ok ?_
  simp [M26]
theorem sort_own (L : HAggr p ext F) {H0 H : HpD} {s : D} {l : List Row} {cv : D} {G : Row → Prop} {cmp : Row → Row → Int} (hc : Cmp p ext rowEnc G cv cmp) (hl : l.length < 1000000) (hG : ∀ r, r ∈ l → G r) (g : GrX H0 H 1 s (rowsE l)) :
    WcD p ext (F 26) [s, cv] H (fun d H' => d = .tup [] ∧ ∃ l', Gr H0 H' 1 s (rowsE l') ∧ l'.Perm l ∧ Srt cmp l' 0 l.length) := by
  rcases g.at_ with ⟨rfl, h⟩ | ⟨b, ex, rfl, h1, h2, h3⟩
  · have : l = [] := by simpa [rowsE] using h
    subst this
    refine (sortStable_nil L.srt).mono ?_
    rintro d H' ⟨rfl, rfl⟩
    exact ⟨rfl, [], g.gr, .refl _, fun p q x y h1 h2 h3 => by simp at h3⟩
  · rw [rowsE_flat] at h3
    have sp := sortStable L.srt (E := rowEnc) (H := H) (bs := b) (c := l.length) (ex := ex) (X := l) (n := l.length) hc h2 rfl hl hG
    rw [hp_self h3] at sp
    rw [rows_len]
    refine sp.mono ?_
    rintro d H' ⟨rfl, l', rfl, hp1, hs⟩
    refine ⟨rfl, l', ⟨g.gr.sub.put h1, by simpa using rows_one, .inr ⟨b, ex, rowsE l', ?_, h1, h2, ?_, D.less_refl _⟩⟩, hp1, hs⟩
    · rw [rows_len, hp1.length_eq]
    · rw [rowsE_flat]; simp
def cmpR (a b : Row) : Int := cmpRow cmpV a b
theorem cmpR_ok (L : HAggr p ext F) {ks : List Int} : Cmp p ext rowEnc (fun r => Kin ks r ∧ r.length < 1000000) (.func (F 2) [] []) cmpR :=
  ⟨⟨F 2, [], [], rfl, fun x y hx _ => by simpa [rowEnc, cmpR] using schm_rows L.schm hx.2⟩, fun x y hx hy => cmpRow_ord.anti x y hx.1 hy.1, fun x y z hx hy hz => cmpRow_ord.trans x y z hx.1 hy.1 hz.1⟩
theorem aggr_sort_own (L : HAggr p ext F) {l : List Row} {ks : List Int} {H : HpD} (hl : Fine l) (hks : ∀ r, r ∈ l → Kin ks r) : WcD p ext (F 33) [rowsD l] H (fun d H' => ∃ l', Gr H H' 1 d (rowsE l') ∧ l'.Perm l ∧ Srt cmpR l' 0 l.length) := by
  refine wc_of L.h33 (M := M33) rfl ok33 rfl (sem_run 9000 _ ?_)
  simp
  refine sem_call (still_own L hl) fun d H1 g1 => ?_
  refine sem_run 9000 _ ?_
  simp
  refine sem_exact_call g1 fun H2 g2 _ _ => ?_
  refine sem_call (sort_own L (cmpR_ok L) hl.1 (fun r hr => ⟨hks r hr, hl.2 r hr⟩) g2) ?_
  rintro _ H3 ⟨rfl, l', g3, hp1, hs⟩
  refine sem_run 9000 _ ?_
  simp
  refine sem_ret ?_
  simp [M33]
  exact ⟨l', g3, hp1, hs⟩
end Go.Lib
end

section
set_option maxRecDepth 10000
namespace Go.Lib
open Go.Vm Go.Dv Go.Srt
variable {p : Prog} {ext : Ext} {F : Nat → Nat}
theorem add64_ext (hx : ∀ args h, ext (F 45) args h = extV .add64 args h) {x y : Nat} : FnD p ext (F 45) [.lit (.int .u64 (x : Int)), .lit (.int .u64 (y : Int)), .lit (.int .u64 0)] (.tup [.lit (.int .u64 (((x + y) % 18446744073709551616 : Nat) : Int)), .lit (.int .u64 (((x + y) / 18446744073709551616 : Nat) : Int))]) := by
  intro H ψ S h vs s k
  simp only [VDl, VD, atomV] at k
  obtain ⟨v, r, rfl, ⟨rfl, -⟩, w, r2, rfl, ⟨rfl, -⟩, u, r3, rfl, ⟨rfl, -⟩, rfl⟩ := k
  refine wpc_ext (v := .tup [.int .u64 (((x + y) % 18446744073709551616 : Nat) : Int), .int .u64 (((x + y) / 18446744073709551616 : Nat) : Int)]) (h' := h) ?_ ⟨ψ, S, _, H, .refl, s, ?_, rfl, rfl⟩
  · rw [hx]; rfl
  · simp [VD, VDl, atomV]
theorem wr_u64m {n : Int} : wr .u64 n = n % 18446744073709551616 := by
  rw [wr_eq]; rfl
theorem wr_i64m {n : Int} (h1 : 0 ≤ n) (h2 : n < 18446744073709551616) : wr .i64 n = if n < 9223372036854775808 then n else n - 18446744073709551616 := by
  rw [wr_eq]
  have e : n % 18446744073709551616 = n := by omega
  have : IntKind.wrap .i64 n = if (decide (n % 18446744073709551616 ≥ 9223372036854775808)) = true then n % 18446744073709551616 - 18446744073709551616 else n % 18446744073709551616 := rfl
  rw [this, e]
  by_cases h : n < 9223372036854775808
  · rw [if_neg (by simp; omega), if_pos h]
  · rw [if_pos (by simp; omega), if_neg h]
theorem shr63 {n : Int} : shrI .i64 n 63 = n / 9223372036854775808 := by
  rw [shr_eq, Int.fdiv_eq_ediv_of_nonneg _ (by decide)]
  rfl
def hiT (t : Int) : D := .lit (.int .i64 (t / 18446744073709551616))
def loT (t : Int) : D := .lit (.int .u64 (t % 18446744073709551616))
def In64 (n : Int) : Prop := -9223372036854775808 ≤ n ∧ n < 9223372036854775808
theorem wide_sum {t n : Int} (hn : In64 n) : ∃ x y z q : Nat, t % 18446744073709551616 = x ∧ n % 18446744073709551616 = y ∧ (t + n) % 18446744073709551616 = z ∧ (x + y) % 18446744073709551616 = z ∧ (x + y) / 18446744073709551616 = q ∧ q ≤ 1 ∧
    t / 18446744073709551616 + (n / 9223372036854775808 + (q : Int)) = (t + n) / 18446744073709551616 := by
  unfold In64 at hn
  exact ⟨(t % 18446744073709551616).toNat, (n % 18446744073709551616).toNat, ((t + n) % 18446744073709551616).toNat, _, by omega, by omega, by omega, by omega, rfl, by omega, by omega⟩
theorem wide_add (L : HAggr p ext F) (hx : ∀ args h, ext (F 45) args h = extV .add64 args h) {H : HpD} {b : Nat} {t n : Int} (hb : H.blk b = .cells [hiT t, loT t] false) (_hlt : b < H.next) (ht : -1000000000000000000000000000000000000 < t ∧ t < 1000000000000000000000000000000000000) (hn : In64 n) : WcD p ext (F 42) [.ptr b 0, .lit (.int .i64 n)] H (fun d H' => d = .tup [] ∧ H' = H.put b (.cells [hiT (t + n), loT (t + n)] false)) := by
  refine wc_of L.h42 (M := M42) rfl ok42 rfl (sem_run 9000 _ ?_)
  simp [hb, hiT, loT, wr_u64m]
  obtain ⟨x, y, z, q, e1, e2, e3, s1, s2, s3, s4⟩ := wide_sum (t := t) hn
  rw [e1, e2, e3]
  refine sem_fn (add64_ext hx) (by first | exact D.les_refl _ | simp) (sem_run 9000 _ ?_)
  rw [s1, s2]
  have hn' := hn
  unfold In64 at hn'
  have w1 : wr .i64 (q : Int) = q := by rw [wr_of] <;> omega
  have w2 : wr .i64 (n / 9223372036854775808 + (q : Int)) = n / 9223372036854775808 + (q : Int) := by rw [wr_of] <;> omega
  have w3 : wr .i64 (t / 18446744073709551616 + (n / 9223372036854775808 + (q : Int))) = (t + n) / 18446744073709551616 := by rw [s4, wr_of] <;> omega
  simp [hb, shr63, w1, w2, w3, hiT, loT]
  refine sem_ok ?_
  simp [M42]
def term (c : Int) (r : Row) : Int := if (atV r c).null = true then 0 else (atV r c).n
def sumT (c : Int) (l : List Row) : Int := (l.map (term c)).sum
def Nums (c : Int) (l : List Row) : Prop := ∀ r, r ∈ l → In64 (atV r c).n
theorem sumT_snoc {c : Int} {l : List Row} {i : Nat} {r : Row} (h : l[i]? = some r) : sumT c (l.take (i + 1)) = sumT c (l.take i) + term c r := by
  rw [List.take_add_one, h]; simp [sumT]
theorem sumT_le {c : Int} : ∀ {l : List Row}, Nums c l → -(9223372036854775808 * (l.length : Int)) ≤ sumT c l ∧ sumT c l ≤ 9223372036854775808 * (l.length : Int)
  | [], _ => by simp [sumT]
  | r :: l, h => by
    have ih := sumT_le (c := c) (l := l) fun r hr => h r (by simp [hr])
    have h0 := h r (by simp)
    unfold In64 at h0
    have : sumT c (r :: l) = term c r + sumT c l := by simp [sumT]
    rw [this, List.length_cons]
    unfold term
    split <;> omega
theorem Nums.take {c : Int} {l : List Row} (h : Nums c l) (i : Nat) : Nums c (l.take i) := fun r hr => h r (List.mem_of_mem_take hr)
instance {n : Int} : Decidable (In64 n) := by unfold In64; exact inferInstance
def numV (n : Int) : Vl := ⟨false, 1, n, [], by simp⟩
def sumV (c : Int) (l : List Row) : Vl × Bool := if In64 (sumT c l) then (numV (sumT c l), true) else (zv, false)
theorem wide_end {t : Int} (ht : -1000000000000000000000000000000000000 < t ∧ t < 1000000000000000000000000000000000000) : (¬ t / 18446744073709551616 = (wr .i64 (t % 18446744073709551616)) / 9223372036854775808) ↔ ¬ In64 t := by
  rw [wr_i64m (by omega) (by omega)]
  unfold In64
  split <;> omega
theorem wide_low {t : Int} (h : In64 t) : wr .i64 (t % 18446744073709551616) = t := by
  rw [wr_i64m (by omega) (by omega)]
  unfold In64 at h
  split <;> omega
def zeroC : List D := [.lit (.bool false), .lit (.int .i64 0), .lit (.int .i64 0), .lit .nilslice]
def SumI (H0 : HpD) (c : Int) (l : List Row) (k : Nat) (fr : FrD) (H : HpD) : Prop :=
  ∃ (i : Nat) (t : Int), k = l.length - i ∧ i ≤ l.length ∧ t = sumT c (l.take i) ∧ fr = [(1, .lit (.int .i64 c)), (4, .ptr H0.next 0), (6, .ptr (H0.next + 1) 0), (10, rowsD l), (11, .lit (.int .i64 (l.length : Int))), (12, .lit (.int .i64 (i : Int)))] ∧
    Sub H0 H ∧ H.blk (H0.next + 1) = .cells [hiT t, loT t] false ∧ H.blk H0.next = .cells zeroC false ∧ H0.next + 1 < H.next
theorem aggr_sum (L : HAggr p ext F) (hx : ∀ args h, ext (F 45) args h = extV .add64 args h) {l : List Row} {c : Int} (hl : Fine l) (hn : Nums c l) : FnD p ext (F 43) [rowsD l, .lit (.int .i64 c)] (.tup [.agg (sumV c l).1.c, .lit (.bool (sumV c l).2)]) := by
  refine fn_of L.h43 (M := M43) rfl ok43 rfl fun H => sem_run 9000 _ ?_
  simp
  refine sem_loop (SumI H c l) ?_ (k := l.length) ⟨0, 0, by simp, by simp, by simp [sumT], rfl, (by repeat (first | exact Sub.refl | apply Sub.new | refine Sub.put ?_ (by first | omega | (simp only [put_next, new_next]; omega)))), by simp [hiT, loT], by simp [zeroC], by simp⟩
  rintro k fr H' ⟨i, t, rfl, hi, ht, rfl, hs, h1, h0, hlt⟩
  refine sem_run 9000 _ ?_
  simp
  have hl1 := hl.1
  by_cases c1 : i < l.length
  · have hx' : l[i]? = some l[i] := by simp
    simp [c1]
    refine sem_fn (schm_at L.schm) (by first | exact D.les_refl _ | simp) (sem_run 9000 _ ?_)
    simp
    have hb := sumT_le (hn.take i)
    rw [← ht, List.length_take, Nat.min_eq_left hi] at hb
    have hw : wr .i64 ((i : Int) + 1) = ((i + 1 : Nat) : Int) := by rw [wr_of] <;> omega
    have hterm := sumT_snoc (c := c) hx'
    rw [← ht] at hterm
    have hne : H.next + 1 ≠ H'.next := by omega
    have hne0 : H.next ≠ H'.next := by omega
    cases hnul : (atV l[i] c).null with
    | false =>
      simp
      refine sem_call (wide_add L hx (t := t) (n := (atV l[i] c).n) (by simp [hne, h1]) (by simp; omega) (by omega) (hn _ (by simp))) ?_
      rintro _ H2 ⟨rfl, rfl⟩
      refine sem_run 9000 _ ?_
      simp
      refine sem_ok ?_
      refine ⟨_, by omega, i + 1, t + (atV l[i] c).n, rfl, by omega, ?_, by simp [hw], (by have := hs.next; repeat (first | exact hs | apply Sub.new | refine Sub.put ?_ (by first | omega | (simp only [put_next, new_next]; omega)))), by simp, ?_, by simp; omega⟩
      · rw [hterm, term, hnul]; simp
      · simp [hne0, h0]
    | true =>
      simp
      refine sem_ok ?_
      refine ⟨_, by omega, i + 1, t, rfl, by omega, ?_, by simp [hw], (by have := hs.next; repeat (first | exact hs | apply Sub.new | refine Sub.put ?_ (by first | omega | (simp only [put_next, new_next]; omega)))), ?_, ?_, by simp; omega⟩
      · rw [hterm, term, hnul]; simp
      · simp [hne, h1]
      · simp [hne0, h0]
  · have : i = l.length := by omega
    subst this
    simp
    refine sem_exit (sem_run 9000 _ ?_)
    have hb := sumT_le hn
    rw [List.take_length] at ht
    rw [← ht] at hb
    have he := wide_end (t := t) (by omega)
    by_cases c2 : In64 t
    · have hq : t / 18446744073709551616 = (wr .i64 (t % 18446744073709551616)) / 9223372036854775808 := Decidable.byContradiction fun h => he.1 h c2
      rw [wide_low c2] at hq
      simp [h1, hiT, loT, shr63, hq, wide_low c2, h0, zeroC]
      refine sem_ret ?_
      simp [M43]
      have e : sumV c l = (numV t, true) := by rw [sumV, ← ht, if_pos c2]
      rw [e]
      exact .le (by have := hs.next; repeat (first | exact hs | apply Sub.new | refine Sub.put ?_ (by first | omega | (simp only [put_next, new_next]; omega)))) (by simp [Vl.c, numV, byD, byE, D.le]) (by simp)
    · have hq := he.2 c2
      simp [h1, hiT, loT, shr63, hq, h0, zeroC]
      refine sem_ret ?_
      simp [M43]
      have e : sumV c l = (zv, false) := by rw [sumV, ← ht, if_neg c2]
      rw [e]
      exact .le (by have := hs.next; repeat (first | exact hs | apply Sub.new | refine Sub.put ?_ (by first | omega | (simp only [put_next, new_next]; omega)))) (by simp [Vl.c, zv, byD, byE, D.le]) (by simp)
end Go.Lib
end

section
set_option maxRecDepth 10000
namespace Go.Lib
open Go.Vm Go.Dv Go.Srt
variable {p : Prog} {ext : Ext} {F : Nat → Nat}
def setKind (v : Vl) (k : Int) : Vl := ⟨v.null, k, v.n, v.bytes, v.small⟩
theorem vl_setk {v : Vl} {k : Int} : spliceD v.c 1 [.lit (.int .i64 k)] = (setKind v k).c := rfl
def endS (sg : Int) (out v : Vl) : Vl := if v.null = true then setKind out v.kind else if out.null = true ∨ 0 < cmpV v out * sg then v else out
def nullV : Vl := ⟨true, 0, 0, [], by simp⟩
def endF (c sg : Int) (l : List Row) : Vl := (l.map fun r => atV r c).foldl (endS sg) nullV
theorem endF_snoc {c sg : Int} {l : List Row} {i : Nat} {r : Row} (h : l[i]? = some r) : endF c sg (l.take (i + 1)) = endS sg (endF c sg (l.take i)) (atV r c) := by
  rw [List.take_add_one, h]; simp [endF]
def EndI (H0 : HpD) (c sg : Int) (l : List Row) (k : Nat) (fr : FrD) (H : HpD) : Prop :=
  ∃ (i : Nat) (o : Vl), k = l.length - i ∧ i ≤ l.length ∧ o = endF c sg (l.take i) ∧ fr = [(1, .lit (.int .i64 c)), (2, .lit (.int .i64 sg)), (6, .ptr H0.next 0), (7, .ptr (H0.next + 1) 0), (12, rowsD l), (13, .lit (.int .i64 (l.length : Int))), (14, .lit (.int .i64 (i : Int)))] ∧
    Sub H0 H ∧ H.blk (H0.next + 1) = .cells o.c false ∧ H.blk H0.next = .cells zeroC false ∧ H0.next + 1 < H.next
theorem aggr_end (L : HAggr p ext F) {l : List Row} {c sg : Int} (hl : Fine l) (hsg : sg = 1 ∨ sg = -1) : FnD p ext (F 44) [rowsD l, .lit (.int .i64 c), .lit (.int .i64 sg)] (.agg (endF c sg l).c) := by
  refine fn_of L.h44 (M := M44) rfl ok44 rfl fun H => sem_run 9000 _ ?_
  simp
  refine sem_weak (Weak.tell (b := H.next + 1) (ro := false) (cs := [.lit (.bool true), .lit (.int .i64 0), .lit (.int .i64 0), .lit .nilslice]) (cs' := nullV.c) (by simp) (by simp [Vl.c, nullV, byD, byE, D.le, D.les])) ?_
  refine sem_loop (EndI H c sg l) ?_ (k := l.length) ⟨0, nullV, by simp, by simp, by simp [endF], rfl, (by repeat (first | exact Sub.refl | apply Sub.new | refine Sub.put ?_ (by first | omega | (simp only [put_next, new_next]; omega)))), by simp, by simp [zeroC], by simp⟩
  rintro k fr H' ⟨i, o, rfl, hi, ho, rfl, hs, h1, h0, hlt⟩
  refine sem_run 9000 _ ?_
  simp
  have hl1 := hl.1
  by_cases c1 : i < l.length
  · have hx' : l[i]? = some l[i] := by simp
    simp [c1]
    refine sem_fn (schm_at L.schm) (by first | exact D.les_refl _ | simp) (sem_run 9000 _ ?_)
    simp
    have hw : wr .i64 ((i : Int) + 1) = ((i + 1 : Nat) : Int) := by rw [wr_of] <;> omega
    have hterm := endF_snoc (c := c) (sg := sg) hx'
    rw [← ho] at hterm
    have hne : H.next + 1 ≠ H'.next := by omega
    have hne0 : H.next ≠ H'.next := by omega
    have hlt2 : H.next + 1 < H'.next + 1 := by omega
    cases hnul : (atV l[i] c).null with
    | true =>
      simp [hne, h1, vl_setk]
      refine sem_ok ?_
      refine ⟨_, by omega, i + 1, setKind o (atV l[i] c).kind, rfl, by omega, ?_, by simp [hw], (by have := hs.next; repeat (first | exact hs | apply Sub.new | refine Sub.put ?_ (by first | omega | (simp only [put_next, new_next]; omega)))), by simp, ?_, by simp; omega⟩
      · rw [hterm, endS, if_pos hnul]
      · simp [hne0, h0]
    | false =>
      cases honul : o.null with
      | true =>
        simp [hne, h1, honul]
        refine sem_ok ?_
        refine ⟨_, by omega, i + 1, atV l[i] c, rfl, by omega, ?_, by simp [hw], (by have := hs.next; repeat (first | exact hs | apply Sub.new | refine Sub.put ?_ (by first | omega | (simp only [put_next, new_next]; omega)))), by simp, ?_, by simp; omega⟩
        · rw [hterm, endS, if_neg (by simp [hnul]), if_pos (.inl honul)]
        · simp [hne0, h0]
      | false =>
        simp [hne, h1, honul]
        refine sem_fn (schm_compare L.schm) (by first | exact D.les_refl _ | simp) (sem_run 9000 _ ?_)
        simp
        have hab := cmpV_abs (a := atV l[i] c) (b := o)
        have hm : -1 ≤ cmpV (atV l[i] c) o * sg ∧ cmpV (atV l[i] c) o * sg ≤ 1 := by
          rcases hsg with rfl | rfl <;> omega
        rw [wr_of (by omega) (by omega)]
        by_cases c3 : 0 < cmpV (atV l[i] c) o * sg
        · simp [c3, hne, h1]
          refine sem_ok ?_
          refine ⟨_, by omega, i + 1, atV l[i] c, rfl, by omega, ?_, by simp [hw], (by have := hs.next; repeat (first | exact hs | apply Sub.new | refine Sub.put ?_ (by first | omega | (simp only [put_next, new_next]; omega)))), by simp, ?_, by simp; omega⟩
          · rw [hterm, endS, if_neg (by simp [hnul]), if_pos (.inr c3)]
          · simp [hne0, h0]
        · simp [c3]
          refine sem_ok ?_
          refine ⟨_, by omega, i + 1, o, rfl, by omega, ?_, by simp [hw], (by have := hs.next; repeat (first | exact hs | apply Sub.new | refine Sub.put ?_ (by first | omega | (simp only [put_next, new_next]; omega)))), by simp [hne, h1], ?_, by simp; omega⟩
          · rw [hterm, endS, if_neg (by simp [hnul]), if_neg (by simp [honul, c3])]
          · simp [hne0, h0]
  · have : i = l.length := by omega
    subst this
    simp
    refine sem_exit (sem_run 9000 _ ?_)
    have hlt0 : H.next < H'.next := by omega
    simp [h1, h0, zeroC]
    refine sem_ret ?_
    simp [M44]
    rw [List.take_length] at ho
    rw [← ho]
    exact .le (by have := hs.next; repeat (first | exact hs | apply Sub.new | refine Sub.put ?_ (by first | omega | (simp only [put_next, new_next]; omega)))) (by simp) (by simp)
end Go.Lib
end

section
set_option maxRecDepth 10000
namespace Go.Lib
open Go.Vm Go.Dv Go.Srt
variable {p : Prog} {ext : Ext} {F : Nat → Nat}
structure Ag where
  kind : Int
  col : Int
def Ag.c (a : Ag) : List D := [.lit (.int .i64 a.kind), .lit (.int .i64 a.col)]
def agsE (l : List Ag) : List (List D) := l.map Ag.c
def agsD (l : List Ag) : D := .row 2 .p (agsE l)
theorem ags_len {l : List Ag} : (agsE l).length = l.length := by simp [agsE]
theorem lenb_ags {l : List Ag} : lenbD (agsD l) = some (.lit (.int .i64 (l.length : Int))) := by simp [agsD, ags_len]
theorem at_ags {l : List Ag} {n : Nat} : atO 2 (agsD l) (some n) = elemD (l[n]?.map Ag.c) := by simp [agsD, agsE]
theorem ag_len {a : Ag} : a.c.length = 2 := rfl
theorem ag_flats {a : Ag} : flatsD a.c = true := rfl
theorem ag_take {a : Ag} : a.c.take 2 = a.c := rfl
theorem ag_drop {a : Ag} : a.c.drop 2 = [] := rfl
attribute [simp] ags_len lenb_ags at_ags ag_len ag_flats ag_take ag_drop
def oneF (l : List Row) (a : Ag) : Vl × Bool :=
  if a.kind = 1 then (numV l.length, true) else if a.kind = 2 then sumV a.col l else if a.kind = 3 then (endF a.col (-1) l, true) else (endF a.col 1 l, true)
def AgOk (l : List Row) (a : Ag) : Prop := a.kind = 2 → Nums a.col l
theorem aggr_one (L : HAggr p ext F) (hx : ∀ args h, ext (F 45) args h = extV .add64 args h) {l : List Row} {a : Ag} (hl : Fine l) (ha : AgOk l a) : FnD p ext (F 41) [rowsD l, .agg a.c] (.tup [.agg (oneF l a).1.c, .lit (.bool (oneF l a).2)]) := by
  refine fn_of L.h41 (M := M41) rfl ok41 rfl fun H => sem_run 9000 _ ?_
  simp [Ag.c]
  have e : ∀ {x y : Vl × Bool} {c : Prop} [Decidable c], c → (if c then x else y) = x := fun h => if_pos h
  refine sem_if (fun c1 => ?_) fun c1 => ?_
  · simp
    refine sem_ret ?_
    simp [M41]
    rw [oneF, if_pos c1]
    exact .le (by repeat (first | exact Sub.refl | apply Sub.new | refine Sub.put ?_ (by first | omega | (simp only [put_next, new_next]; omega)))) (by simp [Vl.c, numV, byD, byE, D.le]) (by simp)
  simp
  refine sem_if (fun c2 => ?_) fun c2 => ?_
  · simp
    refine sem_fn (aggr_sum L hx hl (ha c2)) (by first | exact D.les_refl _ | simp) (sem_run 9000 _ ?_)
    simp
    refine sem_ret ?_
    simp [M41]
    rw [oneF, if_neg c1, if_pos c2]
    exact .le (by repeat (first | exact Sub.refl | apply Sub.new | refine Sub.put ?_ (by first | omega | (simp only [put_next, new_next]; omega)))) (by simp) (by simp)
  simp
  refine sem_if (fun c3 => ?_) fun c3 => ?_
  · simp
    refine sem_fn (aggr_end L hl (.inr rfl)) (by first | exact D.les_refl _ | simp) (sem_run 9000 _ ?_)
    simp
    refine sem_ret ?_
    simp [M41]
    rw [oneF, if_neg c1, if_neg c2, if_pos c3]
    exact .le (by repeat (first | exact Sub.refl | apply Sub.new | refine Sub.put ?_ (by first | omega | (simp only [put_next, new_next]; omega)))) (by simp) (by simp)
  simp
  refine sem_fn (aggr_end L hl (.inl rfl)) (by first | exact D.les_refl _ | simp) (sem_run 9000 _ ?_)
  simp
  refine sem_ret ?_
  simp [M41]
  rw [oneF, if_neg c1, if_neg c2, if_neg c3]
  exact .le (by repeat (first | exact Sub.refl | apply Sub.new | refine Sub.put ?_ (by first | omega | (simp only [put_next, new_next]; omega)))) (by simp) (by simp)
theorem clip4_own (L : HSchm p ext F) {H0 H : HpD} {s : D} {el : List (List D)} (g : Gr H0 H 4 s el) : WcD p ext (F 13) [s] H (fun d H' => Gr H0 H' 4 d el) := by
  refine wc_of L.h13 (M := M13) rfl ok13 rfl (sem_run 9000 _ ?_)
  rcases g.at_ with ⟨rfl, rfl⟩ | ⟨b, ex, el0, rfl, h1, h2, h3, h4⟩
  · simp [slc_nil]
    refine sem_ret ?_
    simp [M13]
    exact g
  · simp [slc_own]
    refine sem_ret ?_
    simp [M13]
    exact ⟨g.sub, g.len, .inr ⟨b, true, el0, rfl, h1, h2, h3, h4⟩⟩
def oks (l : List Row) (ags : List Ag) : Bool := ags.all fun a => (oneF l a).2
def vals (l : List Row) (ags : List Ag) : Row := ags.map fun a => (oneF l a).1
theorem oks_snoc {l : List Row} {ags : List Ag} {i : Nat} {a : Ag} (h : ags[i]? = some a) : oks l (ags.take (i + 1)) = (oks l (ags.take i) && (oneF l a).2) := by
  rw [List.take_add_one, h]; simp [oks]
theorem vals_snoc {l : List Row} {ags : List Ag} {i : Nat} {a : Ag} (h : ags[i]? = some a) : vals l (ags.take (i + 1)) = vals l (ags.take i) ++ [(oneF l a).1] := by
  rw [List.take_add_one, h]; simp [vals]
def AllI (H0 : HpD) (r : Row) (l : List Row) (ags : List Ag) (k : Nat) (fr : FrD) (H : HpD) : Prop :=
  ∃ (i : Nat) (s : D), k = ags.length - i ∧ i ≤ ags.length ∧ fr = [(1, rowsD l), (8, s), (14, agsD ags), (15, .lit (.int .i64 (ags.length : Int))), (16, .lit (.int .i64 (i : Int)))] ∧ Gr H0 H 4 s (rowE (r ++ vals l (ags.take i))) ∧ oks l (ags.take i) = true
def AllR (H0 : HpD) (r : Row) (l : List Row) (ags : List Ag) (d : D) (H' : HpD) : Prop :=
  (oks l ags = true ∧ ∃ s', d = .tup [s', .lit (.bool true)] ∧ Gr H0 H' 4 s' (rowE (r ++ vals l ags))) ∨ (oks l ags = false ∧ d = .tup [.lit .nilslice, .lit (.bool false)] ∧ Sub H0 H')
theorem oks_take {l : List Row} {ags : List Ag} {i : Nat} (h : oks l (ags.take i) = false) : oks l ags = false := by
  rw [oks, ← Bool.not_eq_true, List.all_eq_true] at h ⊢
  exact fun hh => h fun a ha => hh a (List.mem_of_mem_take ha)
theorem all_own (L : HAggr p ext F) (hx : ∀ args h, ext (F 45) args h = extV .add64 args h) {H0 H : HpD} {s : D} {r : Row} {l : List Row} {ags : List Ag} (hl : Fine l) (ha : ∀ a, a ∈ ags → AgOk l a) (hb : r.length + ags.length < 1000) (g : Gr H0 H 4 s (rowE r)) : WcD p ext (F 36) [s, rowsD l, agsD ags] H (fun d H' => AllR H0 r l ags d H') := by
  refine wc_of L.h36 (M := M36) rfl ok36 rfl (sem_run 9000 _ ?_)
  simp
  refine sem_loop (AllI H0 r l ags) ?_ (k := ags.length) ⟨0, s, by simp, by simp, rfl, by simpa [vals] using g, by simp [oks]⟩
  rintro k fr H' ⟨i, s, rfl, hi, rfl, g, hok⟩
  refine sem_run 9000 _ ?_
  simp
  by_cases c : i < ags.length
  · have hx' : ags[i]? = some ags[i] := by simp
    simp [c]
    refine sem_fn (aggr_one L hx hl (ha ags[i] (by simp))) (by first | exact D.les_refl _ | simp) (sem_run 9000 _ ?_)
    simp
    have hw : wr .i64 ((i : Int) + 1) = ((i + 1 : Nat) : Int) := by rw [wr_of] <;> omega
    have ho := oks_snoc (l := l) hx'
    rw [hok, Bool.true_and] at ho
    have hv := vals_snoc (l := l) hx'
    cases hk : (oneF l ags[i]).2 with
    | false =>
      rw [hk] at ho
      simp
      refine sem_ret ?_
      simp [M36]
      refine sem_ret ?_
      simp
      exact .inr ⟨oks_take ho, rfl, (by have := g.sub.next; repeat (first | exact g.sub | apply Sub.new | refine Sub.put ?_ (by first | omega | (simp only [put_next, new_next]; omega))))⟩
    | true =>
      rw [hk] at ho
      simp
      refine sem_push (g.mono (by repeat (first | exact Sub.refl | apply Sub.new | refine Sub.put ?_ (by first | omega | (simp only [put_next, new_next]; omega))))) rfl rfl (roomyD (by simp [row_len, vals]; omega) (by simp [row_len, vals]; omega)) fun s' H1 g1 _ _ => ?_
      simp
      refine sem_ok ?_
      have e : rowE (r ++ vals l (ags.take i)) ++ [(oneF l ags[i]).1.c] = rowE (r ++ vals l (ags.take (i + 1))) := by rw [hv]; simp [rowE]
      rw [e] at g1
      exact ⟨_, by omega, i + 1, s', rfl, by omega, by rw [hw], g1, ho⟩
  · have : i = ags.length := by omega
    subst this
    simp
    refine sem_exit (sem_run 9000 _ ?_)
    rw [List.take_length] at g hok
    simp
    refine sem_call (clip4_own L.schm g) fun d H2 g2 => ?_
    refine sem_run 9000 _ ?_
    simp
    refine sem_ret ?_
    simp [M36]
    exact .inl ⟨hok, d, rfl, g2⟩
end Go.Lib
end
