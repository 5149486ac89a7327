/-
  Texts that the claim's last one rests on, joined.
-/
import Derived.Test.YtcpfgjkhjadgoaaBModlOwng
import Derived.Test.YtcpfgjkhjadgoaaBModlOwnf

section
set_option maxRecDepth 10000
namespace Go.Lib
open Go.Vm Go.Dv Go.Srt
variable {p : Prog} {ext : Ext} {F : Nat → Nat} {α : Type}
structure HSrt (p : Prog) (ext : Ext) (F : Nat → Nat) : Prop where
  h26 : Has p ext F 26 M26
  h27 : Has p ext F 27 M27
  h28 : Has p ext F 28 M28
  h29 : Has p ext F 29 M29
  h30 : Has p ext F 30 M30
  h31 : Has p ext F 31 M31
structure Enc (α : Type) where
  d : α → D
  flat : ∀ x, flatD (d x) = true
  cells : ∀ x, cellsD (d x) = some [d x]
attribute [simp] Enc.flat Enc.cells
def hp (E : Enc α) (H : HpD) (bs : Nat) (L : List α) : HpD := H.put bs (.cells (L.map E.d) false)
theorem hp_blk {E : Enc α} {H : HpD} {bs : Nat} {L : List α} : (hp E H bs L).blk bs = .cells (L.map E.d) false := by simp [hp]
theorem put_put {H : HpD} {bs : Nat} {x y : BD} : (H.put bs x).put bs y = H.put bs y := by
  simp only [HpD.put]
  congr 1
  funext c
  by_cases h : c = bs <;> simp [h]
theorem hp_put {E : Enc α} {H : HpD} {bs : Nat} {L : List α} {l : List D} : (hp E H bs L).put bs (.cells l false) = H.put bs (.cells l false) := by
  simp only [hp, HpD.put]
  congr 1
  funext c
  by_cases h : c = bs <;> simp [h]
theorem hp_self {E : Enc α} {H : HpD} {bs : Nat} {L : List α} (h : H.blk bs = .cells (L.map E.d) false) : hp E H bs L = H := by
  simp only [hp, HpD.put]
  rw [← h]
  cases H
  simp only [HpD.mk.injEq, true_and]
  funext c
  by_cases h : c = bs <;> simp [h]
theorem hp_next {E : Enc α} {H : HpD} {bs : Nat} {L : List α} : (hp E H bs L).next = H.next := rfl
attribute [simp] hp_blk hp_next hp_put put_put
abbrev sl (bs n c : Nat) (ex : Bool) : D := .slice bs 0 1 n c ex
abbrev iD (n : Nat) : D := .lit (.int .i64 (n : Int))
def SwpI (E : Enc α) (H : HpD) (bs c : Nat) (ex : Bool) (X : List α) (a b m k : Nat) (fr : FrD) (H' : HpD) : Prop :=
  ∃ i : Nat, k = m - i ∧ i ≤ m ∧ fr = [(0, sl bs X.length c ex), (1, iD a), (2, iD b), (3, iD m), (10, iD i)] ∧ H' = hp E H bs (swpR X a b i)
theorem set_map {E : Enc α} {X : List α} {i : Nat} {x : α} : (X.map E.d).set i (E.d x) = (X.set i x).map E.d := by rw [List.map_set]
theorem hp_swp {E : Enc α} {H : HpD} {bs : Nat} {X : List α} {i j : Nat} {x y : α} (hx : X[i]? = some x) (hy : X[j]? = some y) : H.put bs (.cells (((X.map E.d).set i (E.d y)).set j (E.d x)) false) = hp E H bs (swp X i j) := by
  rw [set_map, set_map, swp_eq hx hy, hp]
theorem get_of {X : List α} {n : Nat} (h : n < X.length) : ∃ x, X[n]? = some x := ⟨X[n], by simp [h]⟩
theorem spliceD_one : ∀ {X : List D} {i : Nat} {x : D}, i < X.length → spliceD X i [x] = X.set i x
  | d :: l, 0, x, _ => rfl
  | d :: l, i + 1, x, h => by
    simp only [spliceD, List.set_cons_succ]
    rw [spliceD_one (by simpa using h)]
  | [], _, _, h => by simp at h
theorem swapRange (L : HSrt p ext F) {E : Enc α} {H : HpD} {bs c : Nat} {ex : Bool} {X : List α} {cv : D} (hbs : bs < H.next) (hX : X.length < 1000000) {a b m : Nat} (h1 : a + m ≤ b) (h2 : b + m ≤ X.length) : WcD p ext (F 31) [sl bs X.length c ex, iD a, iD b, iD m, cv] (hp E H bs X) (fun d H' => d = .tup [] ∧ H' = hp E H bs (swpR X a b m)) := by
  refine wc_of L.h31 (M := M31) rfl ok31 rfl (sem_run 9000 _ ?_)
  simp
  refine sem_loop (SwpI E H bs c ex X a b m) ?_ (k := m) ⟨0, by simp, by simp, by simp, rfl⟩
  rintro k fr H' ⟨i, rfl, hi, rfl, rfl⟩
  refine sem_run 9000 _ ?_
  simp
  by_cases c1 : i < m
  · have w1 : wr .i64 ((a : Int) + i) = ((a + i : Nat) : Int) := by rw [wr_of] <;> omega
    have w2 : wr .i64 ((b : Int) + i) = ((b + i : Nat) : Int) := by rw [wr_of] <;> omega
    have w3 : wr .i64 ((i : Int) + 1) = ((i + 1 : Nat) : Int) := by rw [wr_of] <;> omega
    have ha : a + i < X.length := by omega
    have hb : b + i < X.length := by omega
    obtain ⟨x, gx⟩ := get_of (X := swpR X a b i) (n := a + i) (by rw [swpR_length]; omega)
    obtain ⟨y, gy⟩ := get_of (X := swpR X a b i) (n := b + i) (by rw [swpR_length]; omega)
    have s1 := spliceD_one (X := (swpR X a b i).map E.d) (i := a + i) (x := E.d y) (by simp [swpR_length]; omega)
    have s2 := spliceD_one (X := ((swpR X a b i).map E.d).set (a + i) (E.d y)) (i := b + i) (x := E.d x) (by simp [swpR_length]; omega)
    have l1 : a + i + 1 ≤ X.length := by omega
    have l2 : b + i + 1 ≤ X.length := by omega
    simp [c1, w1, w2, w3, ha, hb, gx, gy, s1, s2, hbs, swpR_length, l1, l2, hp_swp gx gy, -Int.natCast_add, -List.map_set, -getElem?_pos]
    refine sem_ok ?_
    exact ⟨_, by omega, i + 1, rfl, by omega, rfl, by simp [hp, swpR]⟩
  · have : i = m := by omega
    subst this
    simp [c1]
    refine sem_exit (sem_run 9000 _ ?_)
    simp
    refine sem_ok ?_
    simp [M31]
def RotI (E : Enc α) (H : HpD) (bs c : Nat) (ex : Bool) (X : List α) (cv : D) (a m b k : Nat) (fr : FrD) (H' : HpD) : Prop :=
  ∃ (i j : Nat) (Y : List α), k = i + j ∧ 0 < i ∧ 0 < j ∧ i ≤ m ∧ m + j ≤ X.length ∧ fr = [(0, sl bs X.length c ex), (2, iD m), (4, cv), (10, iD i), (11, iD j)] ∧
    H' = hp E H bs Y ∧ Y.Perm X ∧ ∀ Z, RotR Y Z (m - i) m (m + j) → RotR X Z a m b
theorem rotate (L : HSrt p ext F) {E : Enc α} {H : HpD} {bs c : Nat} {ex : Bool} {X : List α} {cv : D} (hbs : bs < H.next) (hX : X.length < 1000000) {a m b : Nat} (h1 : a < m) (h2 : m < b) (h3 : b ≤ X.length) : WcD p ext (F 30) [sl bs X.length c ex, iD a, iD m, iD b, cv] (hp E H bs X) (fun d H' => d = .tup [] ∧ ∃ X', H' = hp E H bs X' ∧ X'.Perm X ∧ RotR X X' a m b) := by
  refine wc_of L.h30 (M := M30) rfl ok30 rfl (sem_run 9000 _ ?_)
  have w1 : wr .i64 ((m : Int) - a) = ((m - a : Nat) : Int) := by rw [wr_of] <;> omega
  have w2 : wr .i64 ((b : Int) - m) = ((b - m : Nat) : Int) := by rw [wr_of] <;> omega
  simp [w1, w2]
  refine sem_loop (RotI E H bs c ex X cv a m b) ?_ (k := (m - a) + (b - m)) ⟨m - a, b - m, X, rfl, by omega, by omega, by omega, by omega, by simp, rfl, .refl _, fun Z hr => by
      rwa [show m - (m - a) = a by omega, show m + (b - m) = b by omega] at hr⟩
  rintro k fr H' ⟨i, j, Y, rfl, hi0, hj0, hi, hj, rfl, rfl, hp, hr⟩
  refine sem_run 9000 _ ?_
  simp
  have hl : Y.length = X.length := hp.length_eq
  have w3 : wr .i64 ((m : Int) - i) = ((m - i : Nat) : Int) := by rw [wr_of] <;> omega
  rcases Nat.lt_trichotomy i j with c1 | c1 | c1
  · have d1 : ¬ ((i : Int) = j) := by omega
    have d2 : ¬ j < i := by omega
    have w4 : wr .i64 ((m : Int) + j) = ((m + j : Nat) : Int) := by rw [wr_of] <;> omega
    have w5 : wr .i64 (((m + j : Nat) : Int) - i) = ((m + j - i : Nat) : Int) := by rw [wr_of] <;> omega
    have w6 : wr .i64 ((j : Int) - i) = ((j - i : Nat) : Int) := by rw [wr_of] <;> omega
    simp [d1, d2, w3, w4, w5, -Int.natCast_add]
    have sp := swapRange L (E := E) (H := H) (c := c) (ex := ex) (X := Y) (cv := cv) hbs (by omega) (a := m - i) (b := m + j - i) (m := i) (by omega) (by omega)
    rw [hl] at sp
    refine sem_call sp ?_
    rintro _ _ ⟨rfl, rfl⟩
    refine sem_run 9000 _ ?_
    simp [w6]
    refine sem_ok ?_
    exact ⟨i + (j - i), by omega, i, j - i, swpR Y (m - i) (m + j - i) i, rfl, hi0, by omega, hi, by omega, rfl, rfl, swpR_perm.trans hp, fun Z h => hr Z (rot_less hi c1 (by omega) h)⟩
  · subst c1
    simp
    refine sem_exit (sem_run 9000 _ ?_)
    simp [w3]
    have sp := swapRange L (E := E) (H := H) (c := c) (ex := ex) (X := Y) (cv := cv) hbs (by omega) (a := m - i) (b := m) (m := i) (by omega) (by omega)
    rw [hl] at sp
    refine sem_call sp ?_
    rintro _ _ ⟨rfl, rfl⟩
    refine sem_run 9000 _ ?_
    simp
    refine sem_ok ?_
    simp [M30]
    exact ⟨_, rfl, swpR_perm.trans hp, hr _ (rot_same hi (by omega))⟩
  · have d1 : ¬ ((i : Int) = j) := by omega
    have w6 : wr .i64 ((i : Int) - j) = ((i - j : Nat) : Int) := by rw [wr_of] <;> omega
    simp [d1, c1, w3]
    have sp := swapRange L (E := E) (H := H) (c := c) (ex := ex) (X := Y) (cv := cv) hbs (by omega) (a := m - i) (b := m) (m := j) (by omega) (by omega)
    rw [hl] at sp
    refine sem_call sp ?_
    rintro _ _ ⟨rfl, rfl⟩
    refine sem_run 9000 _ ?_
    simp [w6]
    refine sem_ok ?_
    exact ⟨i - j + j, by omega, i - j, j, swpR Y (m - i) m j, rfl, by omega, hj0, by omega, by omega, rfl, rfl, swpR_perm.trans hp, fun Z h => hr Z (rot_more hi c1 (by omega) (by rwa [show m - i + j = m - (i - j) by omega]))⟩
structure Cmp (p : Prog) (ext : Ext) (E : Enc α) (D : α → Prop) (cv : Dv.D) (cmp : α → α → Int) : Prop where
  fn : ∃ g a c, cv = .func g a c ∧ ∀ x y, D x → D y → FnD p ext g (a ++ E.d x :: E.d y :: c) (.lit (.int .i64 (cmp x y)))
  anti : ∀ x y, D x → D y → cmp x y < 0 → ¬ cmp y x < 0
  trans : ∀ x y z, D x → D y → D z → ¬ cmp y x < 0 → ¬ cmp z y < 0 → ¬ cmp z x < 0
def InsI (E : Enc α) (H : HpD) (bs c : Nat) (ex : Bool) (n : Nat) (cv : D) (cmp : α → α → Int) (X : List α) (a b i k : Nat) (fr : FrD) (H' : HpD) : Prop :=
  ∃ (j : Nat) (Y : List α), k = j ∧ a ≤ j ∧ j ≤ i ∧ fr = [(0, sl bs n c ex), (1, iD a), (2, iD b), (3, cv), (8, iD i), (9, iD j)] ∧
    H' = hp E H bs Y ∧ Mix X Y a b ∧ (∀ p q x y, a ≤ p → p < q → q ≤ i → p ≠ j → q ≠ j → Y[p]? = some x → Y[q]? = some y → ¬ cmp y x < 0) ∧ ∀ q x y, j < q → q ≤ i → Y[j]? = some x → Y[q]? = some y → ¬ cmp y x < 0
def InsO (E : Enc α) (H : HpD) (bs c : Nat) (ex : Bool) (n : Nat) (cv : D) (cmp : α → α → Int) (X : List α) (a b k : Nat) (fr : FrD) (H' : HpD) : Prop :=
  ∃ (i : Nat) (Y : List α), k = b + 1 - i ∧ a < i ∧ i ≤ max b (a + 1) ∧ fr = [(0, sl bs n c ex), (1, iD a), (2, iD b), (3, cv), (8, iD i)] ∧
    H' = hp E H bs Y ∧ Mix X Y a b ∧ Srt cmp Y a i
theorem insertion (L : HSrt p ext F) {E : Enc α} {H : HpD} {bs c : Nat} {ex : Bool} {X : List α} {cv : D} {G : α → Prop} {cmp : α → α → Int} (hc : Cmp p ext E G cv cmp) (hbs : bs < H.next) (hX : X.length < 1000000) (hG : ∀ x, x ∈ X → G x) {a b : Nat} (hab : a ≤ b) (hbl : b ≤ X.length) : WcD p ext (F 28) [sl bs X.length c ex, iD a, iD b, cv] (hp E H bs X) (fun d H' => d = .tup [] ∧ ∃ X', H' = hp E H bs X' ∧ Mix X X' a b ∧ Srt cmp X' a b) := by
  refine wc_of L.h28 (M := M28) rfl ok28 rfl (sem_run 9000 _ ?_)
  obtain ⟨g, ga, gc, rfl, hcall⟩ := hc.fn
  have w1 : wr .i64 ((a : Int) + 1) = ((a + 1 : Nat) : Int) := by rw [wr_of] <;> omega
  simp [w1, -Int.natCast_add]
  refine sem_loop (InsO E H bs c ex X.length (.func g ga gc) cmp X a b) ?_ (k := b + 1 - (a + 1)) ⟨a + 1, X, rfl, by omega, by omega, rfl, rfl, .refl, fun p q x y h1 h2 h3 => by omega⟩
  rintro k fr H' ⟨i, Y, rfl, hai, hib, rfl, rfl, hm, hsrt⟩
  refine sem_run 9000 _ ?_
  simp
  by_cases c1 : i < b
  · have hl : Y.length = X.length := hm.perm.length_eq
    simp [c1]
    refine sem_loop (InsI E H bs c ex X.length (.func g ga gc) cmp X a b i) ?_ (k := i) ⟨i, Y, rfl, by omega, by omega, rfl, rfl, hm, fun p q x y h1 h2 h3 h4 h5 => hsrt p q x y h1 h2 (by omega), fun q x y h1 h2 => by omega⟩
    rintro j fr H' ⟨_, Z, rfl, haj, hji, rfl, rfl, hm2, hso, hsj⟩
    refine sem_run 9000 _ ?_
    simp
    have hl2 : Z.length = X.length := hm2.perm.length_eq
    have w4 : wr .i64 ((i : Int) + 1) = ((i + 1 : Nat) : Int) := by rw [wr_of] <;> omega
    by_cases c2 : a < j
    · have w5 : wr .i64 ((j : Int) - 1) = ((j - 1 : Nat) : Int) := by rw [wr_of] <;> omega
      obtain ⟨x, gx⟩ := get_of (X := Z) (n := j) (by omega)
      obtain ⟨y, gy⟩ := get_of (X := Z) (n := j - 1) (by omega)
      have hxm : x ∈ X := hm2.perm.mem_iff.1 (List.mem_of_getElem? gx)
      have hym : y ∈ X := hm2.perm.mem_iff.1 (List.mem_of_getElem? gy)
      have l1 : j < X.length := by omega
      have l2 : j - 1 < X.length := by omega
      simp [c2, w5, gx, gy, l1, l2, hbs, -getElem?_pos]
      refine sem_dfn (hcall x y (hG x hxm) (hG y hym)) (by first | exact D.les_refl _ | simp) (sem_run 9000 _ ?_)
      simp
      by_cases c3 : cmp x y < 0
      · have s1 := spliceD_one (X := Z.map E.d) (i := j) (x := E.d y) (by simp; omega)
        have s2 := spliceD_one (X := (Z.map E.d).set j (E.d y)) (i := j - 1) (x := E.d x) (by simp; omega)
        have l3 : j + 1 ≤ X.length := by omega
        have l4 : j - 1 + 1 ≤ X.length := by omega
        simp [c3, w5, gx, gy, l1, l2, l3, l4, hl2, s1, s2, hbs, hp_swp gx gy, -List.map_set, -getElem?_pos]
        refine sem_ok ?_
        have hlj : j < Z.length := by omega
        have hlj1 : j - 1 < Z.length := by omega
        have hg := swp_get hlj hlj1
        refine ⟨j - 1, by omega, j - 1, swp Z j (j - 1), rfl, by omega, by omega, rfl, by simp [hp], hm2.trans (Mix.swp (by omega) (by omega) (by omega)), fun p q u v h1 h2 h3 h4 h5 h6 h7 => ?_, fun q u v h1 h2 h3 h4 => ?_⟩
        · rw [hg, if_neg h4] at h6
          rw [hg, if_neg h5] at h7
          split at h6
          · rename_i hp
            rw [if_neg (by omega)] at h7
            exact hso (j - 1) q u v (by omega) (by omega) h3 (by omega) (by omega) h6 h7
          · rename_i hp
            split at h7
            · exact hso p (j - 1) u v h1 (by omega) (by omega) hp (by omega) h6 h7
            · rename_i hq'
              exact hso p q u v h1 h2 h3 hp hq' h6 h7
        · rw [hg, if_pos rfl, gx] at h3
          rw [hg, if_neg (by omega)] at h4
          cases h3
          split at h4
          · rw [gy] at h4; cases h4
            exact hc.anti _ _ (hG _ hxm) (hG _ hym) c3
          · exact hsj q x v (by omega) h2 gx h4
      · simp [c3]
        refine sem_exit (sem_run 9000 _ ?_)
        simp [w4]
        refine sem_ok ?_
        refine ⟨b + 1 - (i + 1), by omega, i + 1, Z, rfl, by omega, by omega, by simp, rfl, hm2, fun p q u v h1 h2 h3 h4 h5 => ?_⟩
        by_cases hp : p = j
        · subst hp; exact hsj q u v h2 (by omega) h4 h5
        · by_cases hq' : q = j
          · subst hq'
            rw [gx] at h5; cases h5
            by_cases hp1 : p = q - 1
            · subst hp1; rw [gy] at h4; cases h4; exact c3
            · have hGu : G u := hG u (hm2.perm.mem_iff.1 (List.mem_of_getElem? h4))
              exact hc.trans u y x hGu (hG y hym) (hG x hxm) (hso p (q - 1) u y h1 (by omega) (by omega) hp (by omega) h4 gy) c3
          · exact hso p q u v h1 h2 (by omega) hp hq' h4 h5
    · have : j = a := by omega
      subst this
      simp
      refine sem_exit (sem_run 9000 _ ?_)
      simp [w4]
      refine sem_ok ?_
      refine ⟨b + 1 - (i + 1), by omega, i + 1, Z, rfl, by omega, by omega, by simp, rfl, hm2, fun p q x y h1 h2 h3 h4 h5 => ?_⟩
      by_cases hp : p = j
      · subst hp; exact hsj q x y h2 (by omega) h4 h5
      · exact hso p q x y h1 h2 (by omega) hp (by omega) h4 h5
  · simp [c1]
    refine sem_exit (sem_run 9000 _ ?_)
    simp
    refine sem_ok ?_
    simp [M28]
    exact ⟨Y, rfl, hm, fun p q x y h1 h2 h3 => hsrt p q x y h1 h2 (by omega)⟩
theorem mid_of {n : Nat} (h : n < 4000000) : wr .i64 (shrI .u64 (wr .u64 (n : Int)) 1) = ((n / 2 : Nat) : Int) := by
  have e0 : Nat.blt n (hiN .u64) = true := nblt.2 (by simp only [hiN]; omega)
  have e1 : wr .u64 (n : Int) = (n : Int) := by
    show cond (Nat.blt n (hiN .u64)) _ _ = _
    rw [e0]; rfl
  rw [e1]
  have e2 : shrI .u64 (n : Int) 1 = ((n / 2 : Nat) : Int) := rfl
  rw [e2, wr_of] <;> omega
def SymI1 (E : Enc α) (H : HpD) (bs c : Nat) (ex : Bool) (n : Nat) (cv : D) (cmp : α → α → Int) (X : List α) (a m b k : Nat) (fr : FrD) (H' : HpD) : Prop :=
  ∃ (i j : Nat), k = j - i ∧ m ≤ i ∧ i ≤ j ∧ j ≤ b ∧ fr = [(0, sl bs n c ex), (1, iD a), (4, cv), (10, iD i), (11, iD j)] ∧ H' = hp E H bs X ∧
    (∀ q x y, X[a]? = some x → X[q]? = some y → m ≤ q → q < i → cmp y x < 0) ∧ ∀ q x y, X[a]? = some x → X[q]? = some y → j ≤ q → q < b → ¬ cmp y x < 0
def SymS1 (E : Enc α) (H : HpD) (bs c : Nat) (ex : Bool) (n : Nat) (X : List α) (a b i k : Nat) (fr : FrD) (H' : HpD) : Prop :=
  ∃ (t : Nat) (Y : List α), k = i - 1 - t ∧ a ≤ t ∧ t ≤ i - 1 ∧ fr = [(0, sl bs n c ex), (10, iD i), (13, iD t)] ∧ H' = hp E H bs Y ∧
    Mix X Y a b ∧ (∀ p, a ≤ p → p < t → Y[p]? = X[p + 1]?) ∧ Y[t]? = X[a]? ∧ ∀ p, t < p → Y[p]? = X[p]?
def SymI2 (E : Enc α) (H : HpD) (bs c : Nat) (ex : Bool) (n : Nat) (cv : D) (cmp : α → α → Int) (X : List α) (a m _b k : Nat) (fr : FrD) (H' : HpD) : Prop :=
  ∃ (i j : Nat), k = j - i ∧ a ≤ i ∧ i ≤ j ∧ j ≤ m ∧ fr = [(0, sl bs n c ex), (2, iD m), (4, cv), (14, iD i), (15, iD j)] ∧ H' = hp E H bs X ∧
    (∀ q x y, X[m]? = some x → X[q]? = some y → a ≤ q → q < i → ¬ cmp x y < 0) ∧ ∀ q x y, X[m]? = some x → X[q]? = some y → j ≤ q → q < m → cmp x y < 0
def SymS2 (E : Enc α) (H : HpD) (bs c : Nat) (ex : Bool) (n : Nat) (X : List α) (a m b i k : Nat) (fr : FrD) (H' : HpD) : Prop :=
  ∃ (t : Nat) (Y : List α), k = t - i ∧ i ≤ t ∧ t ≤ m ∧ fr = [(0, sl bs n c ex), (14, iD i), (17, iD t)] ∧ H' = hp E H bs Y ∧
    Mix X Y a b ∧ (∀ p, p < t → Y[p]? = X[p]?) ∧ Y[t]? = X[m]? ∧ ∀ p, t < p → p ≤ m → Y[p]? = X[p - 1]?
def SymI3 (E : Enc α) (H : HpD) (bs c : Nat) (ex : Bool) (n : Nat) (cv : D) (cmp : α → α → Int) (X : List α) (a m b md S R k : Nat) (fr : FrD) (H' : HpD) : Prop :=
  ∃ (i j : Nat), k = j - i ∧ S ≤ i ∧ i ≤ j ∧ j ≤ R ∧ fr = [(0, sl bs n c ex), (1, iD a), (2, iD m), (3, iD b), (4, cv), (18, iD md), (19, iD (md + m)), (20, iD i), (21, iD j), (22, iD (md + m - 1))] ∧ H' = hp E H bs X ∧
    (S < i → ∀ x y, X[i - 1]? = some x → X[md + m - i]? = some y → ¬ cmp y x < 0) ∧ (j < R → ∀ x y, X[j]? = some x → X[md + m - 1 - j]? = some y → cmp y x < 0)
structure Sym4 (cmp : α → α → Int) (Y : List α) (a s md e b : Nat) : Prop where
  s1 : Srt cmp Y a s
  s2 : Srt cmp Y s md
  s3 : Srt cmp Y md e
  s4 : Srt cmp Y e b
  part : Parted cmp Y a md b
theorem rot_mix {X Y : List α} {s m e a b : Nat} (hr : RotR X Y s m e) (hp : Y.Perm X) (h1 : a ≤ s) (h2 : s ≤ m) (h3 : m ≤ e) (h4 : e ≤ b) : Mix X Y a b :=
  ⟨hp, fun k hk => by rw [hr k, if_neg (by omega), if_neg (by omega)]⟩
theorem rot_id {X : List α} {s m e : Nat} (h : s = m ∨ e = m) (h2 : s ≤ m) (h3 : m ≤ e) : RotR X X s m e := fun k => by
  split
  · congr 1; omega
  · split
    · congr 1; omega
    · rfl
theorem sym4 {E : Enc α} {cv : D} {G : α → Prop} {cmp : α → α → Int} (hc : Cmp p ext E G cv cmp) {X Y : List α} {a m b md s S R : Nat} (hG : ∀ x, x ∈ X → G x) (h1 : a < m) (h2 : m < b) (hmd : a < md ∧ md < b) (hb : b ≤ X.length)
    (hs1 : Srt cmp X a m) (hs2 : Srt cmp X m b) (hq : md = (a + b) / 2) (hS : S = if md < m then md + m - b else a) (hR : R = min m md) (hSs : S ≤ s) (hsR : s ≤ R)
    (hlo : S < s → ∀ x y, X[s - 1]? = some x → X[md + m - s]? = some y → ¬ cmp y x < 0) (hhi : s < R → ∀ x y, X[s]? = some x → X[md + m - 1 - s]? = some y → cmp y x < 0)
    (hr : RotR X Y s m (md + m - s)) : Sym4 cmp Y a s md (md + m - s) b := by
  have hk : a ≤ s ∧ s ≤ m ∧ s ≤ md ∧ md + m - s ≤ b ∧ m ≤ md + m - s := by
    have : R ≤ m ∧ R ≤ md := by omega
    split at hS <;> omega
  have hSc : S = s → s = a ∨ md + m - s = b := by
    intro e; split at hS <;> omega
  have hRc : s = R → s = m ∨ md + m - s = m := by omega
  have y1 : ∀ k, k < s → Y[k]? = X[k]? := fun k h => by rw [hr k, if_neg (by omega), if_neg (by omega)]
  have y2 : ∀ k, s ≤ k → k < md → Y[k]? = X[m + (k - s)]? := fun k h h' => by rw [hr k, if_pos (by omega)]
  have y3 : ∀ k, md ≤ k → k < md + m - s → Y[k]? = X[k - (md - s)]? := fun k h h' => by
    rw [hr k, if_neg (by omega), if_pos (by omega)]; congr 1; omega
  have y4 : ∀ k, md + m - s ≤ k → Y[k]? = X[k]? := fun k h => by rw [hr k, if_neg (by omega), if_neg (by omega)]
  have hGm : ∀ {k x}, X[k]? = some x → G x := fun h => hG _ (List.mem_of_getElem? h)
  refine ⟨fun p q x y k1 k2 k3 k4 k5 => ?_, fun p q x y k1 k2 k3 k4 k5 => ?_, fun p q x y k1 k2 k3 k4 k5 => ?_, fun p q x y k1 k2 k3 k4 k5 => ?_, fun p q x y k1 k2 k3 k4 k5 k6 => ?_⟩
  · rw [y1 p (by omega)] at k4; rw [y1 q (by omega)] at k5
    exact hs1 p q x y k1 k2 (by omega) k4 k5
  · rw [y2 p (by omega) (by omega)] at k4; rw [y2 q (by omega) (by omega)] at k5
    exact hs2 _ _ x y (by omega) (by omega) (by omega) k4 k5
  · rw [y3 p (by omega) (by omega)] at k4; rw [y3 q (by omega) (by omega)] at k5
    exact hs1 _ _ x y (by omega) (by omega) (by omega) k4 k5
  · rw [y4 p (by omega)] at k4; rw [y4 q (by omega)] at k5
    exact hs2 p q x y (by omega) k2 k3 k4 k5
  · by_cases cp : p < s
    · rw [y1 p cp] at k5
      by_cases cq : q < md + m - s
      · rw [y3 q k3 cq] at k6
        exact hs1 p _ x y k1 (by omega) (by omega) k5 k6
      · rw [y4 q (by omega)] at k6
        have hlt : S < s := by
          rcases Nat.lt_or_ge S s with h | h
          · exact h
          · have := hSc (by omega); omega
        obtain ⟨u, gu⟩ := get_of (X := X) (n := s - 1) (by omega)
        obtain ⟨v, gv⟩ := get_of (X := X) (n := md + m - s) (by omega)
        have huv := hlo hlt u v gu gv
        have hxu : ¬ cmp v x < 0 := by
          by_cases e : p = s - 1
          · subst e; rw [gu] at k5; cases k5; exact huv
          · exact hc.trans x u v (hGm k5) (hGm gu) (hGm gv) (hs1 p (s - 1) x u k1 (by omega) (by omega) k5 gu) huv
        by_cases e : q = md + m - s
        · subst e; rw [gv] at k6; cases k6; exact hxu
        · exact hc.trans x v y (hGm k5) (hGm gv) (hGm k6) hxu (hs2 _ q v y (by omega) (by omega) k4 gv k6)
    · rw [y2 p (by omega) k2] at k5
      by_cases cq : q < md + m - s
      · rw [y3 q k3 cq] at k6
        have hlt : s < R := by
          rcases Nat.lt_or_ge s R with h | h
          · exact h
          · have := hRc (by omega); omega
        obtain ⟨u, gu⟩ := get_of (X := X) (n := s) (by omega)
        obtain ⟨v, gv⟩ := get_of (X := X) (n := md + m - 1 - s) (by omega)
        have huv := hc.anti _ _ (hGm gv) (hGm gu) (hhi hlt u v gu gv)
        have hxu : ¬ cmp u x < 0 := by
          by_cases e : m + (p - s) = md + m - 1 - s
          · rw [e, gv] at k5; cases k5; exact huv
          · exact hc.trans x v u (hGm k5) (hGm gv) (hGm gu) (hs2 _ _ x v (by omega) (by omega) (by omega) k5 gv) huv
        by_cases e : q - (md - s) = s
        · rw [e, gu] at k6; cases k6; exact hxu
        · exact hc.trans x u y (hGm k5) (hGm gu) (hGm k6) hxu (hs1 _ _ u y (by omega) (by omega) (by omega) gu k6)
      · rw [y4 q (by omega)] at k6
        exact hs2 _ q x y (by omega) (by omega) k4 k5 k6
theorem Srt.of_out {cmp : α → α → Int} {Y Z : List α} {a b c d : Nat} (h : Srt cmp Y a b) (hm : Mix Y Z c d) (ho : b ≤ c ∨ d ≤ a) : Srt cmp Z a b := fun p q x y k1 k2 k3 k4 k5 => by
  rw [hm.out p (by omega)] at k4
  rw [hm.out q (by omega)] at k5
  exact h p q x y k1 k2 k3 k4 k5
theorem Mix.wide {Y Z : List α} {a b c d : Nat} (h : Mix Y Z c d) (h1 : a ≤ c) (h2 : d ≤ b) : Mix Y Z a b := ⟨h.perm, fun k hk => h.out k (by omega)⟩
theorem sym_end {cmp : α → α → Int} {X Y Z W : List α} {a s md e b : Nat} (h4 : Sym4 cmp Y a s md e b) (h0 : Mix X Y a b) (hmd : a ≤ md ∧ md ≤ b) (m1 : Mix Y Z a md) (t1 : Srt cmp Z a md) (m2 : Mix Z W md b) (t2 : Srt cmp W md b) : Mix X W a b ∧ Srt cmp W a b := by
  refine ⟨h0.trans ((Mix.wide m1 (Nat.le_refl _) hmd.2).trans (Mix.wide m2 hmd.1 (Nat.le_refl _))), ?_⟩
  exact Srt.join (Srt.of_out t1 m2 (.inl (Nat.le_refl _))) t2 ((h4.part.mix m1 (.inl ⟨Nat.le_refl _, Nat.le_refl _⟩)).mix m2 (.inr ⟨Nat.le_refl _, Nat.le_refl _⟩))
def SymJ (E : Enc α) (H : HpD) (bs c : Nat) (ex : Bool) (n : Nat) (cv : D) (X : List α) (a m b md S R : Nat) (fr : FrD) (H' : HpD) : Prop :=
  fr = [(0, sl bs n c ex), (1, iD a), (2, iD m), (3, iD b), (4, cv), (18, iD md), (19, iD (md + m)), (20, iD S), (21, iD R)] ∧ H' = hp E H bs X
def SymJ2 (E : Enc α) (H : HpD) (bs c : Nat) (ex : Bool) (n : Nat) (cv : D) (X : List α) (a m b md s e : Nat) (fr : FrD) (H' : HpD) : Prop :=
  ∃ Y, (lk fr 0 = sl bs n c ex ∧ lk fr 1 = iD a ∧ lk fr 3 = iD b ∧ lk fr 4 = cv ∧ lk fr 18 = iD md ∧ lk fr 20 = iD s ∧ lk fr 24 = iD e) ∧ H' = hp E H bs Y ∧ Y.Perm X ∧ RotR X Y s m e
def SymJ3 (E : Enc α) (H : HpD) (bs c : Nat) (ex : Bool) (n : Nat) (cv : D) (cmp : α → α → Int) (Y : List α) (a b md e : Nat) (fr : FrD) (H' : HpD) : Prop :=
  ∃ Z, (lk fr 0 = sl bs n c ex ∧ lk fr 3 = iD b ∧ lk fr 4 = cv ∧ lk fr 18 = iD md ∧ lk fr 24 = iD e) ∧ H' = hp E H bs Z ∧ Mix Y Z a md ∧ Srt cmp Z a md
set_option maxHeartbeats 2000000 in
theorem symMerge (L : HSrt p ext F) {E : Enc α} {H : HpD} {bs c : Nat} {ex : Bool} {n : Nat} {cv : D} {G : α → Prop} {cmp : α → α → Int} (hc : Cmp p ext E G cv cmp) (hbs : bs < H.next) (hn : n < 1000000) : ∀ (w : Nat) {X : List α} {a m b : Nat},
    b - a ≤ w → X.length = n → (∀ x, x ∈ X → G x) → a < m → m < b → b ≤ n → Srt cmp X a m → Srt cmp X m b →
    WcD p ext (F 29) [sl bs n c ex, iD a, iD m, iD b, cv] (hp E H bs X) fun d H' => d = .tup [] ∧ ∃ X', H' = hp E H bs X' ∧ Mix X X' a b ∧ Srt cmp X' a b := by
  obtain ⟨g, ga, gc, rfl, hcall⟩ := hc.fn
  intro w
  induction w with
  | zero => intro X a m b hw _ _ h1 h2; omega
  | succ w ih =>
  intro X a m b hw hl hG h1 h2 h3 hs1 hs2
  refine wc_of L.h29 (M := M29) rfl ok29 rfl (sem_run 57 _ ?_)
  have w1 : wr .i64 ((m : Int) - a) = ((m - a : Nat) : Int) := by rw [wr_of] <;> omega
  simp [w1]
  refine sem_if (fun c1 => ?_) fun c1 => ?_
  · simp
    refine sem_loop (SymI1 E H bs c ex n (.func g ga gc) cmp X a m b) ?_ (k := b - m) ⟨m, b, rfl, by omega, by omega, by omega, rfl, rfl, fun q x y _ _ h4 h5 => by omega, fun q x y _ _ h4 h5 => by omega⟩
    rintro k fr H' ⟨i, j, rfl, hmi, hij, hjb, rfl, rfl, hlo, hhi⟩
    refine sem_run 9000 _ ?_
    simp
    by_cases c2 : i < j
    · have w2 : wr .i64 ((i : Int) + j) = ((i + j : Nat) : Int) := by rw [wr_of] <;> omega
      have w3 := mid_of (n := i + j) (by omega)
      have hmid : m ≤ (i + j) / 2 ∧ (i + j) / 2 < b ∧ i ≤ (i + j) / 2 ∧ (i + j) / 2 < j := by omega
      generalize (i + j) / 2 = t at w3 hmid
      obtain ⟨x, gx⟩ := get_of (X := X) (n := t) (by omega)
      obtain ⟨y, gy⟩ := get_of (X := X) (n := a) (by omega)
      have hxm : x ∈ X := List.mem_of_getElem? gx
      have hym : y ∈ X := List.mem_of_getElem? gy
      have w4 : wr .i64 ((t : Int) + 1) = ((t + 1 : Nat) : Int) := by rw [wr_of] <;> omega
      have l1 : t < n := by omega
      have l2 : a < n := by omega
      simp [c2, w2, w3, gx, gy, l1, l2, hbs, -Int.natCast_add, -getElem?_pos]
      refine sem_dfn (hcall x y (hG x hxm) (hG y hym)) (by first | exact D.les_refl _ | simp) (sem_run 9000 _ ?_)
      simp
      by_cases c3 : cmp x y < 0
      · simp [c3, w4, -Int.natCast_add]
        refine sem_ok ?_
        refine ⟨j - (t + 1), by omega, t + 1, j, rfl, by omega, by omega, hjb, rfl, rfl, fun q u v hu hv h4 h5 => ?_, hhi⟩
        rw [gy] at hu; cases hu
        have hGv : G v := hG v (List.mem_of_getElem? hv)
        by_cases hqt : q = t
        · subst hqt; rw [gx] at hv; cases hv; exact c3
        · exact Decidable.byContradiction fun hne => hc.trans y v x (hG y hym) hGv (hG x hxm) hne (hs2 q t v x h4 (by omega) (by omega) hv gx) c3
      · simp [c3]
        refine sem_ok ?_
        refine ⟨t - i, by omega, i, t, rfl, by omega, by omega, by omega, rfl, rfl, hlo, fun q u v hu hv h4 h5 => ?_⟩
        rw [gy] at hu; cases hu
        have hGv : G v := hG v (List.mem_of_getElem? hv)
        by_cases hqt : q = t
        · subst hqt; rw [gx] at hv; cases hv; exact c3
        · exact hc.trans y x v (hG y hym) (hG x hxm) hGv c3 (hs2 t q x v (by omega) (by omega) h5 gx hv)
    · obtain rfl : i = j := by omega
      simp
      refine sem_exit (sem_run 9000 _ ?_)
      simp
      have w5 : wr .i64 ((i : Int) - 1) = ((i - 1 : Nat) : Int) := by rw [wr_of] <;> omega
      refine sem_loop (SymS1 E H bs c ex n X a b i) ?_ (k := i - 1 - a) ⟨a, X, rfl, by omega, by omega, rfl, rfl, .refl, fun p _ _ => by omega, rfl, fun _ _ => rfl⟩
      rintro k fr H' ⟨t, Y, rfl, hat1, hti, rfl, rfl, hmt, hlt, hxt, hgt⟩
      refine sem_run 9000 _ ?_
      simp
      have hl1 : Y.length = n := hmt.perm.length_eq.trans hl
      by_cases c3 : t < i - 1
      · have w6 : wr .i64 ((t : Int) + 1) = ((t + 1 : Nat) : Int) := by rw [wr_of] <;> omega
        have hlj : t < Y.length := by omega
        have hlj1 : t + 1 < Y.length := by omega
        obtain ⟨x, gx⟩ := get_of hlj
        obtain ⟨y, gy⟩ := get_of hlj1
        have s1 := spliceD_one (X := Y.map E.d) (i := t) (x := E.d y) (by simp; omega)
        have s2 := spliceD_one (X := (Y.map E.d).set t (E.d y)) (i := t + 1) (x := E.d x) (by simp; omega)
        have l1 : t < n := by omega
        have l2 : t + 1 < n := by omega
        have l3 : t + 1 ≤ n := by omega
        have l4 : t + 1 + 1 ≤ n := by omega
        simp [c3, w5, w6, gx, gy, l1, l2, l3, l4, hl1, s1, s2, hbs, hp_swp gx gy, -List.map_set, -getElem?_pos, -Int.natCast_add]
        refine sem_ok ?_
        have hg := swp_get hlj hlj1
        refine ⟨i - 1 - (t + 1), by omega, t + 1, swp Y t (t + 1), rfl, by omega, by omega, rfl, by simp [hp], hmt.trans (Mix.swp (by omega) (by omega) (by omega)), fun p h4 h5 => ?_, ?_, fun p h4 => ?_⟩
        · rw [hg, if_neg (by omega)]
          split
          · rename_i hp; subst hp; exact hgt _ (by omega)
          · exact hlt p h4 (by omega)
        · rw [hg, if_pos rfl]; exact hxt
        · rw [hg, if_neg (by omega), if_neg (by omega)]; exact hgt p (by omega)
      · obtain rfl : t = i - 1 := by omega
        simp [w5]
        refine sem_exit (sem_run 9000 _ ?_)
        simp
        refine sem_ret ?_
        simp [M29]
        refine ⟨Y, rfl, hmt, fun p q u v h4 h5 h6 h7 h8 => ?_⟩
        obtain ⟨y, gy⟩ := get_of (X := X) (n := a) (by omega)
        have hGy : G y := hG y (List.mem_of_getElem? gy)
        rw [gy] at hxt
        rcases Nat.lt_trichotomy p (i - 1) with cp | cp | cp
        · rw [hlt p h4 cp] at h7
          rcases Nat.lt_trichotomy q (i - 1) with cq | cq | cq
          · rw [hlt q (by omega) cq] at h8
            exact hs2 (p + 1) (q + 1) u v (by omega) (by omega) (by omega) h7 h8
          · subst cq
            rw [hxt] at h8; cases h8
            exact hc.anti _ _ (hG u (List.mem_of_getElem? h7)) hGy (hlo (p + 1) v u gy h7 (by omega) (by omega))
          · rw [hgt q cq] at h8
            exact hs2 (p + 1) q u v (by omega) (by omega) h6 h7 h8
        · subst cp
          rw [hxt] at h7; cases h7
          rw [hgt q h5] at h8
          exact hhi q u v gy h8 (by omega) h6
        · rw [hgt p cp] at h7
          rw [hgt q (by omega)] at h8
          exact hs2 p q u v (by omega) h5 h6 h7 h8
  have w1 : wr .i64 ((b : Int) - m) = ((b - m : Nat) : Int) := by rw [wr_of] <;> omega
  simp [w1]
  refine sem_if (fun c1 => ?_) fun c1 => ?_
  · simp
    refine sem_loop (SymI2 E H bs c ex n (.func g ga gc) cmp X a m b) ?_ (k := m - a) ⟨a, m, rfl, by omega, by omega, by omega, rfl, rfl, fun q x y _ _ h4 h5 => by omega, fun q x y _ _ h4 h5 => by omega⟩
    rintro k fr H' ⟨i, j, rfl, hmi, hij, hjb, rfl, rfl, hlo, hhi⟩
    refine sem_run 9000 _ ?_
    simp
    by_cases c2 : i < j
    · have w2 : wr .i64 ((i : Int) + j) = ((i + j : Nat) : Int) := by rw [wr_of] <;> omega
      have w3 := mid_of (n := i + j) (by omega)
      have hmid : a ≤ (i + j) / 2 ∧ (i + j) / 2 < m ∧ i ≤ (i + j) / 2 ∧ (i + j) / 2 < j := by omega
      generalize (i + j) / 2 = t at w3 hmid
      obtain ⟨x, gx⟩ := get_of (X := X) (n := t) (by omega)
      obtain ⟨y, gy⟩ := get_of (X := X) (n := m) (by omega)
      have hxm : x ∈ X := List.mem_of_getElem? gx
      have hym : y ∈ X := List.mem_of_getElem? gy
      have w4 : wr .i64 ((t : Int) + 1) = ((t + 1 : Nat) : Int) := by rw [wr_of] <;> omega
      have l1 : t < n := by omega
      have l2 : m < n := by omega
      simp [c2, w2, w3, gx, gy, l1, l2, hbs, -Int.natCast_add, -getElem?_pos]
      refine sem_dfn (hcall y x (hG y hym) (hG x hxm)) (by first | exact D.les_refl _ | simp) (sem_run 9000 _ ?_)
      simp
      by_cases c3 : cmp y x < 0
      · simp [c3]
        refine sem_ok ?_
        refine ⟨t - i, by omega, i, t, rfl, by omega, by omega, by omega, rfl, rfl, hlo, fun q u v hu hv h4 h5 => ?_⟩
        rw [gy] at hu; cases hu
        have hGv : G v := hG v (List.mem_of_getElem? hv)
        by_cases hqt : q = t
        · subst hqt; rw [gx] at hv; cases hv; exact c3
        · exact Decidable.byContradiction fun hne => hc.trans x v y (hG x hxm) hGv (hG y hym) (hs1 t q x v (by omega) (by omega) h5 gx hv) hne c3
      · simp [c3, w4, -Int.natCast_add]
        refine sem_ok ?_
        refine ⟨j - (t + 1), by omega, t + 1, j, rfl, by omega, by omega, hjb, rfl, rfl, fun q u v hu hv h4 h5 => ?_, hhi⟩
        rw [gy] at hu; cases hu
        have hGv : G v := hG v (List.mem_of_getElem? hv)
        by_cases hqt : q = t
        · subst hqt; rw [gx] at hv; cases hv; exact c3
        · exact hc.trans v x y hGv (hG x hxm) (hG y hym) (hs1 q t v x h4 (by omega) (by omega) hv gx) c3
    · obtain rfl : i = j := by omega
      simp
      refine sem_exit (sem_run 9000 _ ?_)
      simp
      refine sem_loop (SymS2 E H bs c ex n X a m b i) ?_ (k := m - i) ⟨m, X, rfl, by omega, by omega, rfl, rfl, .refl, fun _ _ => rfl, rfl, fun p _ _ => by omega⟩
      rintro k fr H' ⟨t, Y, rfl, hat1, hti, rfl, rfl, hmt, hlt, hxt, hgt⟩
      refine sem_run 9000 _ ?_
      simp
      have hl1 : Y.length = n := hmt.perm.length_eq.trans hl
      by_cases c3 : i < t
      · have w6 : wr .i64 ((t : Int) - 1) = ((t - 1 : Nat) : Int) := by rw [wr_of] <;> omega
        have hlj : t < Y.length := by omega
        have hlj1 : t - 1 < Y.length := by omega
        obtain ⟨x, gx⟩ := get_of hlj
        obtain ⟨y, gy⟩ := get_of hlj1
        have s1 := spliceD_one (X := Y.map E.d) (i := t) (x := E.d y) (by simp; omega)
        have s2 := spliceD_one (X := (Y.map E.d).set t (E.d y)) (i := t - 1) (x := E.d x) (by simp; omega)
        have l1 : t < n := by omega
        have l2 : t - 1 < n := by omega
        have l3 : t + 1 ≤ n := by omega
        have l4 : t - 1 + 1 ≤ n := by omega
        simp [c3, w6, gx, gy, l1, l2, l3, l4, hl1, s1, s2, hbs, hp_swp gx gy, -List.map_set, -getElem?_pos]
        refine sem_ok ?_
        have hg := swp_get hlj hlj1
        refine ⟨t - 1 - i, by omega, t - 1, swp Y t (t - 1), rfl, by omega, by omega, rfl, by simp [hp], hmt.trans (Mix.swp (by omega) (by omega) (by omega)), fun p h4 => ?_, ?_, fun p h4 h5 => ?_⟩
        · rw [hg, if_neg (by omega), if_neg (by omega)]; exact hlt p (by omega)
        · rw [hg, if_pos rfl]; exact hxt
        · rw [hg, if_neg (by omega)]
          split
          · rename_i hp; subst hp; exact hlt _ (by omega)
          · exact hgt p (by omega) h5
      · obtain rfl : t = i := by omega
        simp
        refine sem_exit (sem_run 9000 _ ?_)
        simp
        refine sem_ret ?_
        simp [M29]
        refine ⟨Y, rfl, hmt, fun p q u v h4 h5 h6 h7 h8 => ?_⟩
        obtain ⟨y, gy⟩ := get_of (X := X) (n := m) (by omega)
        rw [gy] at hxt
        rcases Nat.lt_trichotomy p t with cp | cp | cp
        · rw [hlt p cp] at h7
          rcases Nat.lt_trichotomy q t with cq | cq | cq
          · rw [hlt q cq] at h8
            exact hs1 p q u v h4 h5 (by omega) h7 h8
          · subst cq
            rw [hxt] at h8; cases h8
            exact hlo p v u gy h7 h4 cp
          · rw [hgt q cq (by omega)] at h8
            exact hs1 p (q - 1) u v h4 (by omega) (by omega) h7 h8
        · subst cp
          rw [hxt] at h7; cases h7
          rw [hgt q h5 (by omega)] at h8
          exact hc.anti _ _ (hG u (List.mem_of_getElem? gy)) (hG v (List.mem_of_getElem? h8)) (hhi (q - 1) u v gy h8 (by omega) (by omega))
        · rw [hgt p cp (by omega)] at h7
          rw [hgt q (by omega) (by omega)] at h8
          exact hs1 (p - 1) (q - 1) u v (by omega) (by omega) (by omega) h7 h8
  have w2 : wr .i64 ((a : Int) + b) = ((a + b : Nat) : Int) := by rw [wr_of] <;> omega
  have w3 := mid_of (n := a + b) (by omega)
  obtain ⟨md, hmd⟩ : ∃ md, md = (a + b) / 2 := ⟨_, rfl⟩
  rw [← hmd] at w3
  have w4 : wr .i64 ((md : Int) + m) = ((md + m : Nat) : Int) := by rw [wr_of] <;> omega
  have w5 : wr .i64 (((md + m : Nat) : Int) - 1) = ((md + m - 1 : Nat) : Int) := by rw [wr_of] <;> omega
  have w6 : md < m → wr .i64 (((md + m : Nat) : Int) - b) = ((md + m - b : Nat) : Int) := fun _ => by rw [wr_of] <;> omega
  obtain ⟨S, hS⟩ : ∃ S, S = if md < m then md + m - b else a := ⟨_, rfl⟩
  obtain ⟨R, hR⟩ : ∃ R, R = min m md := ⟨_, rfl⟩
  simp [w2, w3, w4, -Int.natCast_add]
  refine sem_cut (SymJ E H bs c ex n (.func g ga gc) X a m b md S R) (sem_run 9000 _ ?_) ?_
  · simp [-Int.natCast_add]
    refine sem_if (fun e => ?_) fun e => ?_
    · simp [w6 e, -Int.natCast_add]
      refine sem_ok ?_
      simp only [okQ_ok]
      refine ⟨?_, rfl⟩
      rw [hS, hR, if_pos e, Nat.min_eq_right (by omega)]
    · simp [-Int.natCast_add]
      refine sem_ok ?_
      simp only [okQ_ok]
      refine ⟨?_, rfl⟩
      rw [hS, hR, if_neg e, Nat.min_eq_left (by omega)]
  rintro fr _ ⟨rfl, rfl⟩
  refine sem_run 9000 _ ?_
  simp [w5, -Int.natCast_add]
  have hSR : a ≤ S ∧ S ≤ R ∧ R ≤ m ∧ R ≤ md ∧ md < b ∧ a < md ∧ md + m - S ≤ b ∧ m ≤ md + m - R := by
    rw [hS, hR]
    split <;> omega
  refine sem_loop (SymI3 E H bs c ex n (.func g ga gc) cmp X a m b md S R) ?_ (k := R - S) ⟨S, R, rfl, by omega, by omega, by omega, rfl, rfl, fun h => by omega, fun h => by omega⟩
  rintro k fr H' ⟨i, j, rfl, hSi, hij, hjR, rfl, rfl, hlo, hhi⟩
  refine sem_run 9000 _ ?_
  simp
  by_cases c2 : i < j
  · have v2 : wr .i64 ((i : Int) + j) = ((i + j : Nat) : Int) := by rw [wr_of] <;> omega
    have v3 := mid_of (n := i + j) (by omega)
    have hmid : i ≤ (i + j) / 2 ∧ (i + j) / 2 < j := by omega
    generalize (i + j) / 2 = t at v3 hmid
    have v4 : wr .i64 ((t : Int) + 1) = ((t + 1 : Nat) : Int) := by rw [wr_of] <;> omega
    have v5 : wr .i64 (((md + m - 1 : Nat) : Int) - t) = ((md + m - 1 - t : Nat) : Int) := by rw [wr_of] <;> omega
    obtain ⟨x, gx⟩ := get_of (X := X) (n := t) (by omega)
    obtain ⟨y, gy⟩ := get_of (X := X) (n := md + m - 1 - t) (by omega)
    have hxm : x ∈ X := List.mem_of_getElem? gx
    have hym : y ∈ X := List.mem_of_getElem? gy
    have l1 : t < n := by omega
    have l2 : md + m - 1 - t < n := by omega
    simp [c2, v2, v3, v5, gx, gy, l1, l2, hbs, -Int.natCast_add, -getElem?_pos]
    refine sem_dfn (hcall y x (hG y hym) (hG x hxm)) (by first | exact D.les_refl _ | simp) (sem_run 9000 _ ?_)
    simp
    by_cases c3 : cmp y x < 0
    · simp [c3]
      refine sem_ok ?_
      refine ⟨t - i, by omega, i, t, rfl, hSi, by omega, by omega, rfl, rfl, hlo, fun _ u v hu hv => ?_⟩
      rw [gx] at hu; rw [gy] at hv; cases hu; cases hv; exact c3
    · simp [c3, v4, -Int.natCast_add]
      refine sem_ok ?_
      refine ⟨j - (t + 1), by omega, t + 1, j, rfl, by omega, by omega, hjR, rfl, rfl, fun _ u v hu hv => ?_, hhi⟩
      rw [Nat.add_sub_cancel, gx] at hu
      rw [show md + m - (t + 1) = md + m - 1 - t by omega, gy] at hv
      cases hu; cases hv; exact c3
  obtain rfl : i = j := by omega
  have v6 : wr .i64 (((md + m : Nat) : Int) - i) = ((md + m - i : Nat) : Int) := by rw [wr_of] <;> omega
  simp
  refine sem_exit (sem_run 11 _ ?_)
  simp [v6, -Int.natCast_add]
  obtain ⟨e, he⟩ : ∃ e, e = md + m - i := ⟨_, rfl⟩
  rw [← he]
  refine sem_cut (SymJ2 E H bs c ex n (.func g ga gc) X a m b md i e) (sem_run 9000 _ ?_) ?_
  · simp
    by_cases d1 : i < m
    · by_cases d2 : m < e
      · simp [d1, d2]
        have sp := rotate L (E := E) (H := H) (c := c) (ex := ex) (X := X) (cv := .func g ga gc) hbs (by omega) d1 d2 (by omega)
        rw [hl] at sp
        refine sem_call sp ?_
        rintro _ _ ⟨rfl, Y, rfl, hp1, hr1⟩
        refine sem_run 9000 _ ?_
        simp
        refine sem_ok ?_
        exact ⟨Y, by simp, rfl, hp1, hr1⟩
      · simp [d1, d2]
        refine sem_ok ?_
        exact ⟨X, by simp, rfl, .refl _, rot_id (.inr (by omega)) (by omega) (by omega)⟩
    · simp [d1]
      refine sem_ok ?_
      exact ⟨X, by simp, rfl, .refl _, rot_id (.inl (by omega)) (by omega) (by omega)⟩
  rintro fr _ ⟨Y, ⟨e0, e1, e3, e4, e18, e20, e24⟩, rfl, hp1, hr1⟩
  have hm1 := rot_mix hr1 hp1 (a := a) (b := b) (by omega) (by omega) (by omega) (by omega)
  have h4 := sym4 hc hG h1 h2 ⟨by omega, by omega⟩ (by omega) hs1 hs2 hmd hS hR hSi hjR hlo hhi (he ▸ hr1)
  rw [← he] at h4
  have hlY : Y.length = n := hp1.length_eq.trans hl
  have hGY : ∀ x, x ∈ Y → G x := fun x h => hG x (hp1.mem_iff.1 h)
  refine sem_run 2 _ ?_
  simp
  refine sem_cut (SymJ3 E H bs c ex n (.func g ga gc) cmp Y a b md e) (sem_run 9000 _ ?_) ?_
  · simp [e1, e20]
    by_cases d1 : a < i
    · by_cases d2 : i < md
      · simp [d1, d2, e0, e1, e3, e4, e18, e20, e24]
        refine sem_call (ih (X := Y) (by omega) hlY hGY d1 d2 (by omega) h4.s1 h4.s2) ?_
        rintro _ _ ⟨rfl, Z, rfl, hm2, hz⟩
        refine sem_run 9000 _ ?_
        simp
        refine sem_ok ?_
        exact ⟨Z, by simp, rfl, hm2, hz⟩
      · simp [d1, d2, e0, e1, e3, e4, e18, e20, e24]
        refine sem_ok ?_
        obtain rfl : i = md := by omega
        exact ⟨Y, by simp, rfl, .refl, h4.s1⟩
    · simp [d1, e0, e1, e3, e4, e18, e20, e24]
      refine sem_ok ?_
      obtain rfl : i = a := by omega
      exact ⟨Y, by simp, rfl, .refl, h4.s2⟩
  rintro fr _ ⟨Z, ⟨e0, e3, e4, e18, e24⟩, rfl, hm2, hz⟩
  have hlZ : Z.length = n := hm2.perm.length_eq.trans hlY
  have hGZ : ∀ x, x ∈ Z → G x := fun x h => hGY x (hm2.perm.mem_iff.1 h)
  have z3 := Srt.of_out h4.s3 hm2 (.inr (Nat.le_refl _))
  have z4 := Srt.of_out h4.s4 hm2 (.inr (by omega))
  refine sem_run 9000 _ ?_
  simp [e18, e24]
  by_cases d1 : md < e
  · by_cases d2 : e < b
    · simp [d1, d2, e0, e3, e4, e18, e24]
      refine sem_call (ih (X := Z) (by omega) hlZ hGZ d1 d2 (by omega) z3 z4) ?_
      rintro _ _ ⟨rfl, W, rfl, hm3, hw3⟩
      refine sem_run 9000 _ ?_
      simp
      refine sem_ok ?_
      simp [M29]
      exact ⟨W, rfl, sym_end h4 hm1 ⟨by omega, by omega⟩ hm2 hz hm3 hw3⟩
    · simp [d1, d2, e0, e3, e4, e18, e24]
      refine sem_ok ?_
      simp [M29]
      obtain rfl : e = b := by omega
      exact ⟨Z, rfl, sym_end h4 hm1 ⟨by omega, by omega⟩ hm2 hz .refl z3⟩
  · simp [d1, e0, e3, e4, e18, e24]
    refine sem_ok ?_
    simp [M29]
    obtain rfl : e = md := by omega
    exact ⟨Z, rfl, sym_end h4 hm1 ⟨by omega, by omega⟩ hm2 hz .refl z4⟩
end Go.Lib
end

section
set_option maxRecDepth 10000
namespace Go.Lib
open Go.Vm Go.Dv Go.Srt
variable {p : Prog} {ext : Ext} {F : Nat → Nat} {α : Type}
theorem dvd_step {d c a : Nat} (h1 : d ∣ c) (h2 : d ∣ a) (h : c < a) : c + d ≤ a := by
  have := Nat.le_of_dvd (show 0 < a - c by omega) (Nat.dvd_sub h2 h1)
  omega
def Blk (cmp : α → α → Int) (Y : List α) (z lo n : Nat) : Prop := ∀ a, lo ≤ a → z ∣ a → Srt cmp Y a (min (a + z) n)
def Blb (cmp : α → α → Int) (Y : List α) (z hi : Nat) : Prop := ∀ a, a < hi → z ∣ a → Srt cmp Y a (a + z)
def StI1 (E : Enc α) (H : HpD) (bs c : Nat) (ex : Bool) (n : Nat) (cv : D) (cmp : α → α → Int) (X : List α) (k : Nat) (fr : FrD) (H' : HpD) : Prop :=
  ∃ (a : Nat) (Y : List α), k = n - a ∧ a ≤ n ∧ 20 ∣ a ∧ fr = [(0, sl bs n c ex), (1, iD n), (2, cv), (6, iD 20), (7, iD a), (8, iD (a + 20))] ∧ H' = hp E H bs Y ∧ Y.Perm X ∧ Blb cmp Y 20 a
def StI2 (E : Enc α) (H : HpD) (bs c : Nat) (ex : Bool) (n : Nat) (cv : D) (cmp : α → α → Int) (X : List α) (k : Nat) (fr : FrD) (H' : HpD) : Prop :=
  ∃ (z : Nat) (Y : List α), k = 2 * n + 40 - z ∧ 20 ≤ z ∧ z ≤ 2 * n + 20 ∧ fr = [(0, sl bs n c ex), (1, iD n), (2, cv), (6, iD z)] ∧ H' = hp E H bs Y ∧ Y.Perm X ∧ Blk cmp Y z 0 n
def StI3 (E : Enc α) (H : HpD) (bs c : Nat) (ex : Bool) (n : Nat) (cv : D) (cmp : α → α → Int) (X : List α) (z k : Nat) (fr : FrD) (H' : HpD) : Prop :=
  ∃ (a : Nat) (Y : List α), k = n - a ∧ a ≤ n ∧ 2 * z ∣ a ∧ fr = [(0, sl bs n c ex), (1, iD n), (2, cv), (6, iD z), (7, iD a), (8, iD (a + 2 * z))] ∧ H' = hp E H bs Y ∧ Y.Perm X ∧ Blb cmp Y (2 * z) a ∧ Blk cmp Y z a n
set_option maxHeartbeats 2000000 in
theorem stable (L : HSrt p ext F) {E : Enc α} {H : HpD} {bs c : Nat} {ex : Bool} {X : List α} {cv : D} {n : Nat} {G : α → Prop} {cmp : α → α → Int} (hc : Cmp p ext E G cv cmp) (hbs : bs < H.next) (hX : X.length = n) (hn : n < 1000000) (hG : ∀ x, x ∈ X → G x) : WcD p ext (F 27) [sl bs n c ex, iD n, cv] (hp E H bs X) (fun d H' => d = .tup [] ∧ ∃ X', H' = hp E H bs X' ∧ X'.Perm X ∧ Srt cmp X' 0 n) := by
  refine wc_of L.h27 (M := M27) rfl ok27 rfl (sem_run 9000 _ ?_)
  simp
  refine sem_loop (StI1 E H bs c ex n cv cmp X) ?_ (k := n) ⟨0, X, by simp, by omega, ⟨0, rfl⟩, by simp, rfl, .refl _, fun a h => by omega⟩
  rintro k fr H' ⟨a, Y, rfl, ha, hda, rfl, rfl, hp1, hb1⟩
  refine sem_run 9000 _ ?_
  simp
  have hlY : Y.length = n := hp1.length_eq.trans hX
  have hGY : ∀ x, x ∈ Y → G x := fun x h => hG x (hp1.mem_iff.1 h)
  by_cases c1 : a + 20 ≤ n
  · have c1' : (a : Int) + 20 ≤ n := by omega
    have w1 : wr .i64 ((a : Int) + 20 + 20) = ((a + 20 + 20 : Nat) : Int) := by rw [wr_of] <;> omega
    simp [c1']
    have sp := insertion L (X := Y) (c := c) (ex := ex) hc hbs (by omega) hGY (a := a) (b := a + 20) (by omega) (by omega)
    rw [hlY] at sp
    refine sem_call (by simpa [iD] using sp) ?_
    rintro _ _ ⟨rfl, Z, rfl, hm, hz⟩
    refine sem_run 9000 _ ?_
    simp [w1]
    refine sem_ok ?_
    refine ⟨n - (a + 20), by omega, a + 20, Z, rfl, c1, (Nat.dvd_add_right hda).2 ⟨1, rfl⟩, by simp, rfl, hm.perm.trans hp1, fun q h1 h2 => ?_⟩
    by_cases e : q < a
    · exact Srt.of_out (hb1 q e h2) hm (.inl (dvd_step h2 hda e))
    · by_cases e2 : q = a
      · subst e2; exact hz
      · have := dvd_step hda h2 (by omega); omega
  · have c1' : ¬ (a : Int) + 20 ≤ n := by omega
    simp [c1']
    refine sem_exit (sem_run 9000 _ ?_)
    simp
    have sp := insertion L (X := Y) (c := c) (ex := ex) hc hbs (by omega) hGY (a := a) (b := n) (by omega) (by omega)
    rw [hlY] at sp
    refine sem_call sp ?_
    rintro _ _ ⟨rfl, Z, rfl, hm, hz⟩
    refine sem_run 9000 _ ?_
    simp
    have hb2 : Blk cmp Z 20 0 n := fun q _ h2 => by
      by_cases e : q < a
      · exact (Srt.of_out (hb1 q e h2) hm (.inl (dvd_step h2 hda e))).mono (Nat.le_refl _) (by omega)
      · by_cases e2 : q = a
        · subst e2; exact hz.mono (Nat.le_refl _) (by omega)
        · intro p' q' x y k1 k2 k3
          have := dvd_step hda h2 (by omega); omega
    refine sem_loop (StI2 E H bs c ex n cv cmp X) ?_ (k := 2 * n + 40 - 20) ⟨20, Z, rfl, by omega, by omega, rfl, rfl, hm.perm.trans hp1, hb2⟩
    rintro k fr H' ⟨z, Y, rfl, hz1, hz2, rfl, rfl, hp2, hb3⟩
    refine sem_run 9000 _ ?_
    simp
    by_cases c2 : z < n
    · have w2 : wr .i64 (2 * (z : Int)) = ((2 * z : Nat) : Int) := by rw [wr_of] <;> omega
      have w3 : wr .i64 ((z : Int) * 2) = ((2 * z : Nat) : Int) := by rw [wr_of] <;> omega
      simp [c2, w2, -Int.natCast_mul]
      refine sem_loop (StI3 E H bs c ex n cv cmp X z) ?_ (k := n) ⟨0, Y, by simp, by omega, ⟨0, by simp⟩, by simp, rfl, hp2, fun a h => by omega, hb3⟩
      rintro k fr H' ⟨a, Y, rfl, ha, hda, rfl, rfl, hp1, hb1, hb2⟩
      refine sem_run 9000 _ ?_
      simp
      have hlY : Y.length = n := hp1.length_eq.trans hX
      have hGY : ∀ x, x ∈ Y → G x := fun x h => hG x (hp1.mem_iff.1 h)
      have hdz : z ∣ a := Nat.dvd_trans ⟨2, by omega⟩ hda
      have w4 : wr .i64 ((a : Int) + z) = ((a + z : Nat) : Int) := by rw [wr_of] <;> omega
      by_cases c3 : a + 2 * z ≤ n
      · have c3' : (a : Int) + 2 * (z : Int) ≤ n := by omega
        have w1 : wr .i64 ((a : Int) + 2 * (z : Int) + 2 * (z : Int)) = ((a + 2 * z + 2 * z : Nat) : Int) := by rw [wr_of] <;> omega
        have w1' : wr .i64 (((a + 2 * z : Nat) : Int) + ((2 * z : Nat) : Int)) = ((a + 2 * z + 2 * z : Nat) : Int) := by rw [wr_of] <;> omega
        have w5 : wr .i64 (2 * (z : Int)) = 2 * (z : Int) := by rw [wr_of] <;> omega
        simp [c3', w4]
        have sp := symMerge L (X := Y) (c := c) (ex := ex) hc hbs hn n (a := a) (m := a + z) (b := a + 2 * z) (by omega) hlY hGY (by omega) (by omega) c3 ((hb2 a (Nat.le_refl _) hdz).mono (Nat.le_refl _) (by omega)) ((hb2 (a + z) (by omega) ((Nat.dvd_add_right hdz).2 ⟨1, by omega⟩)).mono (Nat.le_refl _) (by omega))
        refine sem_call (by simpa [iD] using sp) ?_
        rintro _ _ ⟨rfl, Z, rfl, hm, hz⟩
        refine sem_run 9000 _ ?_
        simp [w1, w5]
        refine sem_ok ?_
        refine ⟨n - (a + 2 * z), by omega, a + 2 * z, Z, rfl, c3, (Nat.dvd_add_right hda).2 ⟨1, by omega⟩, by simp, rfl, hm.perm.trans hp1, fun q h1 h2 => ?_, fun q h1 h2 => ?_⟩
        · by_cases e : q < a
          · exact Srt.of_out (hb1 q e h2) hm (.inl (dvd_step h2 hda e))
          · by_cases e2 : q = a
            · subst e2; exact hz
            · have := dvd_step hda h2 (by omega); omega
        · exact Srt.of_out (hb2 q (by omega) h2) hm (.inr h1)
      · have c3' : ¬ (a : Int) + 2 * (z : Int) ≤ n := by omega
        simp [c3']
        refine sem_exit (sem_run 9000 _ ?_)
        simp [w4]
        have fin : ∀ Z : List α, Mix Y Z a n → Srt cmp Z a n → Blk cmp Z (2 * z) 0 n := fun Z hm hz q _ h2 => by
          by_cases e : q < a
          · exact (Srt.of_out (hb1 q e h2) hm (.inl (dvd_step h2 hda e))).mono (Nat.le_refl _) (by omega)
          · by_cases e2 : q = a
            · subst e2; exact hz.mono (Nat.le_refl _) (by omega)
            · intro p' q' x y k1 k2 k3
              have := dvd_step hda h2 (by omega); omega
        by_cases c4 : a + z < n
        · have c4' : (a : Int) + (z : Int) < n := by omega
          simp [c4']
          have sp := symMerge L (X := Y) (c := c) (ex := ex) hc hbs hn n (a := a) (m := a + z) (b := n) (by omega) hlY hGY (by omega) (by omega) (Nat.le_refl _) ((hb2 a (Nat.le_refl _) hdz).mono (Nat.le_refl _) (by omega)) ((hb2 (a + z) (by omega) ((Nat.dvd_add_right hdz).2 ⟨1, by omega⟩)).mono (Nat.le_refl _) (by omega))
          refine sem_call (by simpa [iD] using sp) ?_
          rintro _ _ ⟨rfl, Z, rfl, hm, hz⟩
          refine sem_run 9000 _ ?_
          simp [w3]
          refine sem_ok ?_
          exact ⟨2 * n + 40 - 2 * z, by omega, 2 * z, Z, rfl, by omega, by omega, by simp, rfl, hm.perm.trans hp1, fin Z hm hz⟩
        · have c4' : ¬ (a : Int) + (z : Int) < n := by omega
          simp [c4', w3]
          refine sem_ok ?_
          exact ⟨2 * n + 40 - 2 * z, by omega, 2 * z, Y, rfl, by omega, by omega, by simp, rfl, hp1, fin Y .refl ((hb2 a (Nat.le_refl _) hdz).mono (Nat.le_refl _) (by omega))⟩
    · simp [c2]
      refine sem_exit (sem_run 9000 _ ?_)
      simp
      refine sem_ok ?_
      simp [M27]
      refine ⟨Y, rfl, hp2, ?_⟩
      have := hb3 0 (Nat.le_refl _) ⟨0, by simp⟩
      rwa [Nat.min_eq_right (by omega)] at this
theorem sortStable (L : HSrt p ext F) {E : Enc α} {H : HpD} {bs c : Nat} {ex : Bool} {X : List α} {cv : D} {n : Nat} {G : α → Prop} {cmp : α → α → Int} (hc : Cmp p ext E G cv cmp) (hbs : bs < H.next) (hX : X.length = n) (hn : n < 1000000) (hG : ∀ x, x ∈ X → G x) : WcD p ext (F 26) [sl bs n c ex, cv] (hp E H bs X) (fun d H' => d = .tup [] ∧ ∃ X', H' = hp E H bs X' ∧ X'.Perm X ∧ Srt cmp X' 0 n) := by
  refine wc_of L.h26 (M := M26) rfl ok26 rfl (sem_run 9000 _ ?_)
  simp
  refine sem_call (stable L hc hbs hX hn hG) ?_
  rintro _ _ ⟨rfl, Z, rfl, h1, h2⟩
  refine sem_run 9000 _ ?_
  simp
  refine sem_ok ?_
  simp [M26]
  exact ⟨Z, rfl, h1, h2⟩
end Go.Lib
end

section
namespace Go.Lib
open Go.Vm Go.Dv
set_option maxRecDepth 100000
abbrev K1 (F : Nat → Nat) : KC := .seq (.region [⟨(some 2),(.a (.box (.tmp 0))),none⟩,⟨(some 3),(.a (.box (.tmp 1))),none⟩,mi 4 0] [2,3] [2,3])
 (.seq (.seq (.dregion [⟨ln 6 4 2,0,1⟩,⟨⟨(some 7),(.e (.call (F 8) [(.tmp 6)])),none⟩,0,3⟩,⟨ln 8 4 3,0,3⟩,⟨⟨(some 9),(.e (.call (F 8) [(.tmp 8)])),none⟩,2,4⟩,⟨⟨(some 10),(.e (.call (F 9) [(.tmp 7),(.tmp 9)])),none⟩,4,6⟩,⟨mv 5 10,5,6⟩] [2,3,5])
 (.seq (.region [mv 11 5,bi 12 .neq 11 0,mv 13 12,⟨(some 14),(.p (.faddr 0 (.tmp 2))),(some (13,false))⟩,⟨(some 15),(.load1 (.tmp 14)),(some (13,false))⟩,⟨(some 16),(.p (.pick (.tmp 13) (.val (.bool true)) (.tmp 15))),none⟩] [] [2,3,5,16])
 (.cond (.tmp 16) (.seq (.region [mv 17 5,mv 4 17] [] [4])
 (.ret))
 (.skip))))
 (.seq (.seq (.region [fa 18 1 2,l1 19 18] [] [2,3,19])
 (.block 0 (.seq (.region [bi 21 .eql 19 1,mv 20 21] [] [2,3,19,20])
 (.cond (.tmp 20) (.seq (.region [fa 22 2 2,l1 23 22,fa 24 2 3,l1 25 24,⟨(some 26),(.e (.call (F 10) [(.tmp 23),(.tmp 25)])),none⟩,mv 4 26] [] [4])
 (.ret))
 (.seq (.region [bi 28 .eql 19 2,mv 27 28] [] [2,3,27])
 (.cond (.tmp 27) (.seq (.region [fa 29 3 2,l1 30 29,fa 31 3 3,l1 32 31,⟨(some 33),(.e (.call (F 11) [(.tmp 30),(.tmp 32)])),none⟩,mv 4 33] [] [4])
 (.ret))
 (.skip)))))))
 (.seq (.region [mi 4 0] [] [4])
 (.ret))))
def M1 (F : Nat → Nat) : Fun := ⟨34,2,(K1 F).erase,[.tmp 4]⟩
theorem ok1 {F : Nat → Nat} : (K1 F).ok = true := rfl
abbrev K2 (F : Nat → Nat) : KC := .seq (.region [mi 4 0] [] [0,1])
 (.seq (.region [mv 5 0,mv 6 1,⟨(some 7),(.e (.call (F 12) [(.tmp 5),(.tmp 6),(.val (.func (F 1) [] []))])),none⟩,mv 4 7] [] [4])
 (.ret))
def M2 (F : Nat → Nat) : Fun := ⟨8,2,(K2 F).erase,[.tmp 4]⟩
theorem ok2 {F : Nat → Nat} : (K2 F).ok = true := rfl
abbrev K3 (F : Nat → Nat) : KC := .seq (.region [⟨(some 4),(.a (.new [.bool false,.int .i64 (.ofNat 0),.int .i64 (.ofNat 0),.nilslice])),none⟩] [] [0,1,4])
 (.seq (.seq (.region [mv 5 1,bi 6 .lss 5 0,mv 7 6,⟨(some 8),(.p (.mov (.tmp 1))),(some (7,false))⟩,⟨(some 9),(.p (.mov (.tmp 0))),(some (7,false))⟩,⟨(some 10),(.p (.lenb (.tmp 9))),(some (7,false))⟩,⟨(some 11),(.p (.bin .geq (.tmp 8) (.tmp 10))),(some (7,false))⟩,⟨(some 12),(.p (.pick (.tmp 7) (.val (.bool true)) (.tmp 11))),none⟩] [] [0,1,4,12])
 (.cond (.tmp 12) (.seq (.region [⟨(some 13),(.p (.build [.bool false,.int .i64 (.ofNat 0),.int .i64 (.ofNat 0),.nilslice] [])),none⟩,⟨none,(.e (.store 4 (.tmp 4) (.tmp 13))),none⟩] [] [4])
 (.ret))
 (.skip)))
 (.seq (.region [mv 14 0,mv 15 1,ix 16 4 14 15,ln 17 4 16,⟨(some 18),(.e (.call (F 5) [(.tmp 17)])),none⟩,⟨none,(.e (.store 4 (.tmp 4) (.tmp 18))),none⟩] [] [4])
 (.ret)))
def M3 (F : Nat → Nat) : Fun := ⟨19,2,(K3 F).erase,[.celln 4 4]⟩
theorem ok3 {F : Nat → Nat} : (K3 F).ok = true := rfl
abbrev K4 (F : Nat → Nat) : KC := .seq (.region [⟨(some 2),(.p (.mov (.val (.nilslice)))),none⟩] [] [0])
 (.seq (.region [⟨(some 3),(.p (.mov (.val (.nilslice)))),none⟩] [] [0,3])
 (.seq (.seq (.region [mv 6 0,lb 7 6,mi 8 0] [] [3,6,7,8])
 (.block 0 (.loop (.seq (.region [bt 9 .lss 8 7] [] [3,6,7,8,9])
 (.seq (.cond (.tmp 9) (.skip)
 (.exit 0))
 (.seq (.block 1 (.seq (.region [ix 10 4 6 8,ln 11 4 10,⟨(some 5),(.a (.new [.bool false,.int .i64 (.ofNat 0),.int .i64 (.ofNat 0),.nilslice])),none⟩,⟨none,(.e (.store 4 (.tmp 5) (.tmp 11))),none⟩] [] [3,5,6,7,8])
 (.region [mv 12 3,ln 13 4 5,⟨(some 14),(.e (.call (F 5) [(.tmp 13)])),none⟩,⟨(some 15),(.a (.bslice [.bool false,.int .i64 (.ofNat 0),.int .i64 (.ofNat 0),.nilslice] 4 1 [(0,4,(.tmp 14))])),none⟩,⟨(some 16),(.e (.append 4 48 (.tmp 12) (.tmp 15))),none⟩,mv 3 16] [15] [3,6,7,8])))
 (.region [bi 17 .add 8 1,mv 8 17] [] [3,6,7,8])))))))
 (.seq (.region [mv 18 3,⟨(some 19),(.e (.call (F 13) [(.tmp 18)])),none⟩,mv 2 19] [] [2])
 (.ret))))
def M4 (F : Nat → Nat) : Fun := ⟨20,1,(K4 F).erase,[.tmp 2]⟩
theorem ok4 {F : Nat → Nat} : (K4 F).ok = true := rfl
abbrev K5 (F : Nat → Nat) : KC := .seq (.region [⟨(some 1),(.a (.box (.tmp 0))),none⟩,⟨(some 2),(.a (.new [.bool false,.int .i64 (.ofNat 0),.int .i64 (.ofNat 0),.nilslice])),none⟩] [] [1,2])
 (.seq (.region [fa 3 3 1,l1 4 3,⟨(some 5),(.e (.call (F 14) [(.tmp 4)])),none⟩,fa 6 3 1,⟨none,(.e (.store 1 (.tmp 6) (.tmp 5))),none⟩] [] [1,2])
 (.seq (.region [ln 7 4 1,⟨none,(.e (.store 4 (.tmp 2) (.tmp 7))),none⟩] [] [2])
 (.ret)))
def M5 (F : Nat → Nat) : Fun := ⟨8,1,(K5 F).erase,[.celln 4 2]⟩
theorem ok5 {F : Nat → Nat} : (K5 F).ok = true := rfl
abbrev K6 (F : Nat → Nat) : KC := .seq (.region [⟨(some 2),(.a (.box (.tmp 0))),none⟩,⟨(some 3),(.a (.box (.tmp 1))),none⟩,⟨(some 4),(.p (.mov (.val (.bool false)))),none⟩] [2,3] [2,3])
 (.seq (.region [fa 5 0 2,l1 6 5,fa 7 0 3,l1 8 7,⟨(some 9),(.p (.eq .bool false (.tmp 6) (.tmp 8))),none⟩,mv 10 9,⟨(some 11),(.p (.faddr 1 (.tmp 2))),(some (10,true))⟩,⟨(some 12),(.load1 (.tmp 11)),(some (10,true))⟩,⟨(some 13),(.p (.faddr 1 (.tmp 3))),(some (10,true))⟩,⟨(some 14),(.load1 (.tmp 13)),(some (10,true))⟩,⟨(some 15),(.p (.bin .eql (.tmp 12) (.tmp 14))),(some (10,true))⟩,⟨(some 16),(.p (.pick (.tmp 10) (.tmp 15) (.val (.bool false)))),none⟩,mv 17 16,⟨(some 18),(.p (.faddr 2 (.tmp 2))),(some (17,true))⟩,⟨(some 19),(.load1 (.tmp 18)),(some (17,true))⟩,⟨(some 20),(.p (.faddr 2 (.tmp 3))),(some (17,true))⟩,⟨(some 21),(.load1 (.tmp 20)),(some (17,true))⟩,⟨(some 22),(.p (.bin .eql (.tmp 19) (.tmp 21))),(some (17,true))⟩,⟨(some 23),(.p (.pick (.tmp 17) (.tmp 22) (.val (.bool false)))),none⟩,mv 24 23,⟨(some 25),(.p (.faddr 3 (.tmp 2))),(some (24,true))⟩,⟨(some 26),(.load1 (.tmp 25)),(some (24,true))⟩,⟨(some 27),(.p (.faddr 3 (.tmp 3))),(some (24,true))⟩,⟨(some 28),(.load1 (.tmp 27)),(some (24,true))⟩,⟨(some 29),(.e (.call (F 15) [(.tmp 26),(.tmp 28)])),(some (24,true))⟩,⟨(some 30),(.p (.pick (.tmp 24) (.tmp 29) (.val (.bool false)))),none⟩,mv 4 30] [] [4])
 (.ret))
def M6 (F : Nat → Nat) : Fun := ⟨31,2,(K6 F).erase,[.tmp 4]⟩
abbrev K7 (F : Nat → Nat) : KC := .seq (.region [⟨(some 4),(.p (.mov (.val (.bool false)))),none⟩] [] [0,1])
 (.seq (.region [mv 5 0,mv 6 1,⟨(some 7),(.e (.call (F 16) [(.tmp 5),(.tmp 6),(.val (.func (F 17) [] []))])),none⟩,mv 4 7] [] [4])
 (.ret))
def M7 (F : Nat → Nat) : Fun := ⟨8,2,(K7 F).erase,[.tmp 4]⟩
abbrev K8 (_F : Nat → Nat) : KC := .seq (.region [⟨(some 1),(.a (.box (.tmp 0))),none⟩,mi 2 0] [1] [1])
 (.seq (.seq (.region [fa 3 0 1,l1 4 3] [] [4])
 (.cond (.tmp 4) (.seq (.region [mi 2 0] [] [2])
 (.ret))
 (.skip)))
 (.seq (.region [mi 2 1] [] [2])
 (.ret)))
def M8 (F : Nat → Nat) : Fun := ⟨5,1,(K8 F).erase,[.tmp 2]⟩
theorem ok8 {F : Nat → Nat} : (K8 F).ok = true := rfl
abbrev K9 (F : Nat → Nat) : KC := .seq (.region [mi 4 0] [] [0,1])
 (.seq (.region [mv 7 0,⟨(some 8),(.e (.call (F 18) [(.tmp 7)])),none⟩,mv 5 8] [] [0,1,5])
 (.seq (.region [mv 9 1,⟨(some 10),(.e (.call (F 18) [(.tmp 9)])),none⟩,mv 6 10] [] [0,1,5,6])
 (.seq (.seq (.region [mv 11 5] [] [0,1,6,11])
 (.cond (.tmp 11) (.seq (.seq (.region [mv 12 6] [] [12])
 (.cond (.tmp 12) (.seq (.region [mi 4 0] [] [4])
 (.ret))
 (.skip)))
 (.seq (.region [⟨(some 4),(.p (.mov (.val (.int .i64 (.negSucc 0))))),none⟩] [] [4])
 (.ret)))
 (.skip)))
 (.seq (.seq (.region [mv 13 6] [] [0,1,13])
 (.cond (.tmp 13) (.seq (.region [mi 4 1] [] [4])
 (.ret))
 (.skip)))
 (.seq (.seq (.region [mv 14 0,mv 15 1,bt 16 .lss 14 15] [] [0,1,16])
 (.cond (.tmp 16) (.seq (.region [⟨(some 4),(.p (.mov (.val (.int .i64 (.negSucc 0))))),none⟩] [] [4])
 (.ret))
 (.skip)))
 (.seq (.seq (.region [mv 17 0,mv 18 1,bt 19 .gtr 17 18] [] [19])
 (.cond (.tmp 19) (.seq (.region [mi 4 1] [] [4])
 (.ret))
 (.skip)))
 (.seq (.region [mi 4 0] [] [4])
 (.ret))))))))
def M9 (F : Nat → Nat) : Fun := ⟨20,2,(K9 F).erase,[.tmp 4]⟩
theorem ok9 {F : Nat → Nat} : (K9 F).ok = true := rfl
abbrev K10 (F : Nat → Nat) : KC := .seq (.region [mi 4 0] [] [0,1])
 (.seq (.region [mv 7 0,⟨(some 8),(.e (.call (F 19) [(.tmp 7)])),none⟩,mv 5 8] [] [0,1,5])
 (.seq (.region [mv 9 1,⟨(some 10),(.e (.call (F 19) [(.tmp 9)])),none⟩,mv 6 10] [] [0,1,5,6])
 (.seq (.seq (.region [mv 11 5] [] [0,1,6,11])
 (.cond (.tmp 11) (.seq (.seq (.region [mv 12 6] [] [12])
 (.cond (.tmp 12) (.seq (.region [mi 4 0] [] [4])
 (.ret))
 (.skip)))
 (.seq (.region [⟨(some 4),(.p (.mov (.val (.int .i64 (.negSucc 0))))),none⟩] [] [4])
 (.ret)))
 (.skip)))
 (.seq (.seq (.region [mv 13 6] [] [0,1,13])
 (.cond (.tmp 13) (.seq (.region [mi 4 1] [] [4])
 (.ret))
 (.skip)))
 (.seq (.seq (.region [mv 14 0,mv 15 1,bt 16 .lss 14 15] [] [0,1,16])
 (.cond (.tmp 16) (.seq (.region [⟨(some 4),(.p (.mov (.val (.int .i64 (.negSucc 0))))),none⟩] [] [4])
 (.ret))
 (.skip)))
 (.seq (.seq (.region [mv 17 0,mv 18 1,bt 19 .gtr 17 18] [] [19])
 (.cond (.tmp 19) (.seq (.region [mi 4 1] [] [4])
 (.ret))
 (.skip)))
 (.seq (.region [mi 4 0] [] [4])
 (.ret))))))))
def M10 (F : Nat → Nat) : Fun := ⟨20,2,(K10 F).erase,[.tmp 4]⟩
theorem ok10 {F : Nat → Nat} : (K10 F).ok = true := rfl
abbrev K11 (F : Nat → Nat) : KC := .seq (.region [mi 4 0] [] [0,1])
 (.seq (.region [mv 5 0,mv 6 1,⟨(some 7),(.e (.extern (F 20) [(.tmp 5),(.tmp 6)])),none⟩,mv 4 7] [] [4])
 (.ret))
def M11 (F : Nat → Nat) : Fun := ⟨8,2,(K11 F).erase,[.tmp 4]⟩
theorem ok11 {F : Nat → Nat} : (K11 F).ok = true := rfl
abbrev K12 (_F : Nat → Nat) : KC := .seq (.region [mi 6 0] [] [0,1,2])
 (.seq (.seq (.region [mv 11 0,lb 12 11,mi 13 0] [] [0,1,2,11,12,13])
 (.block 0 (.loop (.seq (.region [bt 14 .lss 13 12] [] [0,1,2,11,12,13,14])
 (.seq (.cond (.tmp 14) (.skip)
 (.exit 0))
 (.seq (.block 1 (.seq (.region [mv 15 13,ix 16 4 11 13,ln 17 4 16,⟨(some 8),(.a (.new [.bool false,.int .i64 (.ofNat 0),.int .i64 (.ofNat 0),.nilslice])),none⟩,mv 7 15,⟨none,(.e (.store 4 (.tmp 8) (.tmp 17))),none⟩] [] [0,1,2,7,8,11,12,13])
 (.seq (.seq (.region [mv 18 7,mv 19 1,lb 20 19,bt 21 .geq 18 20] [] [0,1,2,7,8,11,12,13,21])
 (.cond (.tmp 21) (.seq (.region [mi 6 1] [] [6])
 (.ret))
 (.skip)))
 (.seq (.region [mv 22 1,mv 23 7,ix 24 4 22 23,ln 25 4 24,⟨(some 9),(.a (.new [.bool false,.int .i64 (.ofNat 0),.int .i64 (.ofNat 0),.nilslice])),none⟩,⟨none,(.e (.store 4 (.tmp 9) (.tmp 25))),none⟩] [] [0,1,2,8,9,11,12,13])
 (.seq (.region [mv 26 2,ln 27 4 8,ln 28 4 9,⟨(some 29),(.e (.callv (.tmp 26) [(.tmp 27),(.tmp 28)])),none⟩,mv 10 29] [] [0,1,2,10,11,12,13])
 (.seq (.region [mv 30 10,bi 31 .neq 30 0] [] [0,1,2,10,11,12,13,31])
 (.cond (.tmp 31) (.seq (.region [mv 32 10,mv 6 32] [] [6])
 (.ret))
 (.skip))))))))
 (.region [bi 33 .add 13 1,mv 13 33] [] [0,1,2,11,12,13])))))))
 (.seq (.seq (.region [mv 34 0,lb 35 34,mv 36 1,lb 37 36,bt 38 .lss 35 37] [] [38])
 (.cond (.tmp 38) (.seq (.region [⟨(some 6),(.p (.mov (.val (.int .i64 (.negSucc 0))))),none⟩] [] [6])
 (.ret))
 (.skip)))
 (.seq (.region [mi 6 0] [] [6])
 (.ret))))
def M12 (F : Nat → Nat) : Fun := ⟨39,3,(K12 F).erase,[.tmp 6]⟩
theorem ok12 {F : Nat → Nat} : (K12 F).ok = true := rfl
abbrev K13 (_F : Nat → Nat) : KC := .seq (.region [⟨(some 2),(.p (.mov (.val (.nilslice)))),none⟩] [] [0])
 (.seq (.region [mv 3 0,mv 4 0,lb 5 4,mv 6 0,lb 7 6,⟨(some 8),(.p (.slc 4 (.tmp 3) none (some (.tmp 5)) (some (.tmp 7)))),none⟩,mv 2 8] [] [2])
 (.ret))
def M13 (F : Nat → Nat) : Fun := ⟨9,1,(K13 F).erase,[.tmp 2]⟩
theorem ok13 {F : Nat → Nat} : (K13 F).ok = true := rfl
abbrev K14 (_F : Nat → Nat) : KC := .seq (.region [⟨(some 2),(.p (.mov (.val (.nilslice)))),none⟩] [] [0])
 (.seq (.seq (.region [mv 3 0,⟨(some 4),(.p (.eq .slice false (.tmp 3) (.val (.nilslice)))),none⟩] [] [0,4])
 (.cond (.tmp 4) (.seq (.region [⟨(some 2),(.p (.mov (.val (.nilslice)))),none⟩] [] [2])
 (.ret))
 (.skip)))
 (.seq (.region [⟨(some 5),(.a (.bslice [] 1 0 [])),none⟩,mv 6 0,⟨(some 7),(.e (.append 1 1 (.tmp 5) (.tmp 6))),none⟩,mv 2 7] [] [2])
 (.ret)))
def M14 (F : Nat → Nat) : Fun := ⟨8,1,(K14 F).erase,[.tmp 2]⟩
theorem ok14 {F : Nat → Nat} : (K14 F).ok = true := rfl
abbrev K15 (_F : Nat → Nat) : KC := .seq (.region [⟨(some 4),(.p (.mov (.val (.bool false)))),none⟩] [] [0,1])
 (.seq (.region [mv 5 0,⟨(some 6),(.e (.text (.tmp 5))),none⟩,mv 7 1,⟨(some 8),(.e (.text (.tmp 7))),none⟩,bt 9 .eql 6 8,mv 4 9] [] [4])
 (.ret))
def M15 (F : Nat → Nat) : Fun := ⟨10,2,(K15 F).erase,[.tmp 4]⟩
abbrev K16 (_F : Nat → Nat) : KC := .seq (.region [⟨(some 6),(.p (.mov (.val (.bool false)))),none⟩] [] [0,1,2])
 (.seq (.seq (.region [mv 10 0,lb 11 10,mv 12 1,lb 13 12,bt 14 .neq 11 13] [] [0,1,2,14])
 (.cond (.tmp 14) (.seq (.region [⟨(some 6),(.p (.mov (.val (.bool false)))),none⟩] [] [6])
 (.ret))
 (.skip)))
 (.seq (.seq (.region [mv 15 0,lb 16 15,mi 17 0] [] [1,2,15,16,17])
 (.block 0 (.loop (.seq (.region [bt 18 .lss 17 16] [] [1,2,15,16,17,18])
 (.seq (.cond (.tmp 18) (.skip)
 (.exit 0))
 (.seq (.block 1 (.seq (.region [mv 19 17,ix 20 1 15 17,l1 21 20,mv 7 19,mv 8 21] [] [1,2,7,8,15,16,17])
 (.seq (.region [mv 22 1,mv 23 7,ix 24 1 22 23,l1 25 24,mv 9 25] [] [1,2,8,9,15,16,17])
 (.seq (.region [mv 26 2,mv 27 8,mv 28 9,⟨(some 29),(.e (.callv (.tmp 26) [(.tmp 27),(.tmp 28)])),none⟩,⟨(some 30),(.p (.not (.tmp 29))),none⟩] [] [1,2,15,16,17,30])
 (.cond (.tmp 30) (.seq (.region [⟨(some 6),(.p (.mov (.val (.bool false)))),none⟩] [] [6])
 (.ret))
 (.skip))))))
 (.region [bi 31 .add 17 1,mv 17 31] [] [1,2,15,16,17])))))))
 (.seq (.region [⟨(some 6),(.p (.mov (.val (.bool true)))),none⟩] [] [6])
 (.ret))))
def M16 (F : Nat → Nat) : Fun := ⟨32,3,(K16 F).erase,[.tmp 6]⟩
abbrev K17 (F : Nat → Nat) : KC := .seq (.region [⟨(some 4),(.p (.mov (.val (.bool false)))),none⟩] [] [0,1])
 (.seq (.region [mv 5 0,mv 6 1,⟨(some 7),(.e (.call (F 21) [(.tmp 5),(.tmp 6),(.val (.func (F 6) [] []))])),none⟩,mv 4 7] [] [4])
 (.ret))
def M17 (F : Nat → Nat) : Fun := ⟨8,2,(K17 F).erase,[.tmp 4]⟩
abbrev K18 (_F : Nat → Nat) : KC := .seq (.region [⟨(some 2),(.p (.mov (.val (.bool false)))),none⟩] [] [0])
 (.seq (.region [mv 3 0,mv 4 0,bt 5 .neq 3 4,mv 2 5] [] [2])
 (.ret))
def M18 (F : Nat → Nat) : Fun := ⟨6,1,(K18 F).erase,[.tmp 2]⟩
theorem ok18 {F : Nat → Nat} : (K18 F).ok = true := rfl
abbrev K19 (_F : Nat → Nat) : KC := .seq (.region [⟨(some 2),(.p (.mov (.val (.bool false)))),none⟩] [] [0])
 (.seq (.region [mv 3 0,mv 4 0,bt 5 .neq 3 4,mv 2 5] [] [2])
 (.ret))
def M19 (F : Nat → Nat) : Fun := ⟨6,1,(K19 F).erase,[.tmp 2]⟩
theorem ok19 {F : Nat → Nat} : (K19 F).ok = true := rfl
abbrev K21 (_F : Nat → Nat) : KC := .seq (.region [⟨(some 6),(.p (.mov (.val (.bool false)))),none⟩] [] [0,1,2])
 (.seq (.seq (.region [mv 10 0,lb 11 10,mv 12 1,lb 13 12,bt 14 .neq 11 13] [] [0,1,2,14])
 (.cond (.tmp 14) (.seq (.region [⟨(some 6),(.p (.mov (.val (.bool false)))),none⟩] [] [6])
 (.ret))
 (.skip)))
 (.seq (.seq (.region [mv 15 0,lb 16 15,mi 17 0] [] [1,2,15,16,17])
 (.block 0 (.loop (.seq (.region [bt 18 .lss 17 16] [] [1,2,15,16,17,18])
 (.seq (.cond (.tmp 18) (.skip)
 (.exit 0))
 (.seq (.block 1 (.seq (.region [mv 19 17,ix 20 4 15 17,ln 21 4 20,⟨(some 8),(.a (.new [.bool false,.int .i64 (.ofNat 0),.int .i64 (.ofNat 0),.nilslice])),none⟩,mv 7 19,⟨none,(.e (.store 4 (.tmp 8) (.tmp 21))),none⟩] [] [1,2,7,8,15,16,17])
 (.seq (.region [mv 22 1,mv 23 7,ix 24 4 22 23,ln 25 4 24,⟨(some 9),(.a (.new [.bool false,.int .i64 (.ofNat 0),.int .i64 (.ofNat 0),.nilslice])),none⟩,⟨none,(.e (.store 4 (.tmp 9) (.tmp 25))),none⟩] [] [1,2,8,9,15,16,17])
 (.seq (.region [mv 26 2,ln 27 4 8,ln 28 4 9,⟨(some 29),(.e (.callv (.tmp 26) [(.tmp 27),(.tmp 28)])),none⟩,⟨(some 30),(.p (.not (.tmp 29))),none⟩] [] [1,2,15,16,17,30])
 (.cond (.tmp 30) (.seq (.region [⟨(some 6),(.p (.mov (.val (.bool false)))),none⟩] [] [6])
 (.ret))
 (.skip))))))
 (.region [bi 31 .add 17 1,mv 17 31] [] [1,2,15,16,17])))))))
 (.seq (.region [⟨(some 6),(.p (.mov (.val (.bool true)))),none⟩] [] [6])
 (.ret))))
def M21 (F : Nat → Nat) : Fun := ⟨32,3,(K21 F).erase,[.tmp 6]⟩
end Go.Lib
end

section
set_option maxRecDepth 10000
namespace Go.Lib
open Go.Vm Go.Dv
variable {p : Prog} {ext : Ext} {F : Nat → Nat}
structure HSchmE (p : Prog) (ext : Ext) (F : Nat → Nat) : Prop where
  h6 : Has p ext F 6 M6
  h15 : Has p ext F 15 M15
structure HSchmC (p : Prog) (ext : Ext) (F : Nat → Nat) : Prop where
  h1 : Has p ext F 1 M1
  h2 : Has p ext F 2 M2
  h3 : Has p ext F 3 M3
  h4 : Has p ext F 4 M4
  h5 : Has p ext F 5 M5
  h8 : Has p ext F 8 M8
  h9 : Has p ext F 9 M9
  h10 : Has p ext F 10 M10
  h11 : Has p ext F 11 M11
  h12 : Has p ext F 12 M12
  h13 : Has p ext F 13 M13
  h14 : Has p ext F 14 M14
  h18 : Has p ext F 18 M18
  h19 : Has p ext F 19 M19
  x20 : ∀ args h, ext (F 20) args h = extV .cmp args h
structure HSchm (p : Prog) (ext : Ext) (F : Nat → Nat) : Prop extends HSchmE p ext F, HSchmC p ext F where
  h7 : Has p ext F 7 M7
  h16 : Has p ext F 16 M16
  h17 : Has p ext F 17 M17
  h21 : Has p ext F 21 M21
instance : Coe (HSchm p ext F) (HSchmC p ext F) := ⟨HSchm.toHSchmC⟩
instance : Coe (HSchm p ext F) (HSchmE p ext F) := ⟨HSchm.toHSchmE⟩
theorem isNaN_int (L : HSchmC p ext F) {n : Int} : FnD p ext (F 18) [.lit (.int .i64 n)] (.lit (.bool false)) := by
  refine fn_of L.h18 (M := M18) rfl ok18 rfl fun H => sem_run 9000 _ ?_
  simp
  refine sem_ret ?_
  simp [M18]
  exact .same (by simp)
theorem isNaN_int64 (L : HSchmC p ext F) {n : Int} : FnD p ext (F 19) [.lit (.int .i64 n)] (.lit (.bool false)) := by
  refine fn_of L.h19 (M := M19) rfl ok19 rfl fun H => sem_run 9000 _ ?_
  simp
  refine sem_ret ?_
  simp [M19]
  exact .same (by simp)
def cmpI (a b : Int) : Int := if a < b then -1 else if b < a then 1 else 0
theorem compare_int (L : HSchmC p ext F) {a b : Int} : FnD p ext (F 9) [.lit (.int .i64 a), .lit (.int .i64 b)] (.lit (.int .i64 (cmpI a b))) := by
  refine fn_of L.h9 (M := M9) rfl ok9 rfl fun H => sem_run 9000 _ ?_
  simp
  refine sf (isNaN_int L) ?_
  simp
  refine sf (isNaN_int L) ?_
  simp
  refine sem_if (fun h => ?_) fun h => ?_
  · simp
    refine sem_ret ?_
    simp [M9, cmpI, h]
    exact .same (by simp)
  · simp
    refine sem_if (fun h2 => ?_) fun h2 => ?_
    · simp
      refine sem_ret ?_
      simp [M9, cmpI, h, h2]
      exact .same (by simp)
    · simp
      refine sem_ret ?_
      simp [M9, cmpI, h, h2]
      exact .same (by simp)
theorem compare_int64 (L : HSchmC p ext F) {a b : Int} : FnD p ext (F 10) [.lit (.int .i64 a), .lit (.int .i64 b)] (.lit (.int .i64 (cmpI a b))) := by
  refine fn_of L.h10 (M := M10) rfl ok10 rfl fun H => sem_run 9000 _ ?_
  simp
  refine sf (isNaN_int64 L) ?_
  simp
  refine sf (isNaN_int64 L) ?_
  simp
  refine sem_if (fun h => ?_) fun h => ?_
  · simp
    refine sem_ret ?_
    simp [M10, cmpI, h]
    exact .same (by simp)
  · simp
    refine sem_if (fun h2 => ?_) fun h2 => ?_
    · simp
      refine sem_ret ?_
      simp [M10, cmpI, h, h2]
      exact .same (by simp)
    · simp
      refine sem_ret ?_
      simp [M10, cmpI, h, h2]
      exact .same (by simp)
def rankV (v : Vl) : Int := if v.null then 0 else 1
theorem rank (L : HSchmC p ext F) {v : Vl} : FnD p ext (F 8) [.agg v.c] (.lit (.int .i64 (rankV v))) := by
  refine fn_of L.h8 (M := M8) rfl ok8 rfl fun H => sem_run 9000 _ ?_
  simp [Vl.c]
  refine sem_br (fun h => ?_) fun h => ?_
  · simp
    refine sem_ret ?_
    simp [M8, rankV, h]
    exact .same (by simp)
  · simp
    refine sem_ret ?_
    simp [M8, rankV, h]
    exact .same (by simp)
def cmpB (a b : List By) : Int := cmpLs (bys a) (bys b)
theorem cmp_ext (L : HSchmC p ext F) {a b : List By} : FnD p ext (F 20) [byD a, byD b] (.lit (.int .i64 (cmpB a b))) := by
  intro H ψ S h vs s k
  simp only [VDl] at k
  obtain ⟨v, r, rfl, k1, w, r2, rfl, k2, rfl⟩ := k
  refine wpc_ext (v := .int .i64 (cmpB a b)) (h' := h) ?_ ⟨ψ, S, _, H, .refl, s, ?_, rfl, rfl⟩
  · rw [L.x20]
    simp only [extV, bytesV_by k1, bytesV_by k2]
    rfl
  · simp [VD, atomV]
theorem bytes_compare (L : HSchmC p ext F) {a b : List By} : FnD p ext (F 11) [byD a, byD b] (.lit (.int .i64 (cmpB a b))) := by
  refine fn_of L.h11 (M := M11) rfl ok11 rfl fun H => sem_run 9000 _ ?_
  simp
  refine sf (cmp_ext L) ?_
  simp
  refine sem_ret ?_
  simp [M11]
  exact .same (by simp)
def cmpV (a b : Vl) : Int := if cmpI (rankV a) (rankV b) ≠ 0 ∨ a.null = true then cmpI (rankV a) (rankV b) else if a.kind = 1 then cmpI a.n b.n else if a.kind = 2 then cmpB a.bytes b.bytes else 0
theorem schm_compare (L : HSchmC p ext F) {a b : Vl} : FnD p ext (F 1) [.agg a.c, .agg b.c] (.lit (.int .i64 (cmpV a b))) := by
  refine fn_of L.h1 (M := M1) rfl ok1 rfl fun H => sem_run 9000 _ ?_
  simp
  refine sem_dfn (rank L) (by first | exact D.les_refl _ | simp) (sem_run 9000 _ ?_)
  simp
  refine sem_dfn (rank L) (by first | exact D.les_refl _ | simp) (sem_run 9000 _ ?_)
  simp
  refine sem_dfn (compare_int L) (by first | exact D.les_refl _ | simp) (sem_run 9000 _ ?_)
  simp
  by_cases h1 : cmpI (rankV a) (rankV b) = 0
  · cases h2 : a.null
    · by_cases h3 : a.kind = 1
      · simp [h1, h2, h3]
        refine sf (compare_int64 L) ?_
        simp
        refine sem_ret ?_
        simp [M1, cmpV, h1, h2, h3]
        exact .same (by simp)
      · by_cases h4 : a.kind = 2
        · simp [h1, h2, h4]
          refine sf (bytes_compare L) ?_
          simp
          refine sem_ret ?_
          simp [M1, cmpV, h1, h2, h4]
          exact .same (by simp)
        · simp [h1, h2, h3, h4]
          refine sem_ret ?_
          simp [M1, cmpV, h1, h2, h3, h4]
          exact .same (by simp)
    · simp [h1, h2]
      refine sem_ret ?_
      simp [M1, cmpV, h1, h2]
      exact .same (by simp)
  · simp [h1]
    refine sem_ret ?_
    simp [M1, cmpV, h1]
    exact .same (by simp)
theorem slcRow_eq {sz : Nat} {m : Md} {l : List (List D)} {lo hi mx : Option V} : slcD sz (.row sz m l) (lo.map .lit) (hi.map .lit) (mx.map .lit) = cond (needH hi mx) (slcRow sz m l lo hi mx) none := by
  cases lo <;> cases hi <;> cases mx <;> simp only [slcD, Option.map, bndD, beq_d, decide_true, cond_true]
theorem clone_by (L : HSchmC p ext F) {b : List By} (hb : b.length < 1000000) : FnD p ext (F 14) [byD b] (byD b) := by
  refine fn_of L.h14 (M := M14) rfl ok14 rfl fun H => sem_run 9000 _ ?_
  simp [byD]
  refine ⟨?_, ?_⟩
  · intro h0
    refine sem_ret ?_
    simp [M14]
    exact .le .refl (by rw [h0]; simp [D.le]) (by simp)
  · obtain ⟨s', H', e, g, _⟩ := (Gr.lit (el := []) (sz := 1) (H := H) (ex := true) (c := []) (n := 0) Sub.refl (by simp) rfl rfl).app (by_ := 1) (m := .p) (new := byE b) by_one by_flats (roomyD (by simp; omega) (by simp; omega))
    simp [e]
    refine sem_ret ?_
    simp [M14]
    exact g.fin (by simp) (by simp)
theorem schm_val (L : HSchmC p ext F) {v : Vl} : FnD p ext (F 5) [.agg v.c] (.agg v.c) := by
  refine fn_of L.h5 (M := M5) rfl ok5 rfl fun H => sem_run 9000 _ ?_
  simp
  refine sf (clone_by L v.small) ?_
  simp
  refine sem_ret ?_
  simp [M5, Vl.c]
  exact .le sR (by simp) (by simp)
def atV (r : Row) (c : Int) : Vl := if c < 0 then zv else (r[c.toNat]?).getD zv
theorem schm_at (L : HSchmC p ext F) {r : Row} {c : Int} : FnD p ext (F 3) [rowD r, .lit (.int .i64 c)] (.agg (atV r c).c) := by
  refine fn_of L.h3 (M := M3) rfl ok3 rfl fun H => sem_run 9000 _ ?_
  simp
  by_cases h1 : c < 0
  · simp [h1]
    refine sem_ret ?_
    simp [M3]
    exact .le sR (by rw [atV, if_pos h1]; exact zv_le) (by simp)
  · obtain ⟨n, rfl⟩ : ∃ n : Nat, c = n := ⟨c.toNat, by omega⟩
    by_cases h2 : r.length ≤ n
    · simp [h1, h2]
      refine sem_ret ?_
      simp [M3]
      exact .le sR (by rw [atV, if_neg h1]; simp [h2]; exact zv_le) (by simp)
    · have h3 : n < r.length := by omega
      simp [h1, h2, h3]
      refine sf (schm_val L) ?_
      simp
      refine sem_ret ?_
      simp [M3]
      exact .le sR (by rw [atV, if_neg h1]; simp [h3]) (by simp)
def cmpRow (cmp : Vl → Vl → Int) : Row → Row → Int
  | [], [] => 0
  | [], _ :: _ => -1
  | _ :: _, [] => 1
  | a :: x, b :: y => if cmp a b ≠ 0 then cmp a b else cmpRow cmp x y
theorem compareFunc (L : HSchmC p ext F) {f : Nat} {cmp : Vl → Vl → Int} (hf : ∀ a b : Vl, FnD p ext f [.agg a.c, .agg b.c] (.lit (.int .i64 (cmp a b)))) {x y : Row} (hx : x.length < 1000000) : FnD p ext (F 12) [rowD x, rowD y, .func f [] []] (.lit (.int .i64 (cmpRow cmp x y))) := by
  refine fn_of L.h12 (M := M12) rfl ok12 rfl fun H => sem_run 9000 _ ?_
  simp
  refine sem_loop (fun k fr H' => ∃ i : Nat, k = x.length - i ∧ i ≤ x.length ∧ i ≤ y.length ∧ cmpRow cmp x y = cmpRow cmp (x.drop i) (y.drop i) ∧ fr = [(0, rowD x), (1, rowD y), (2, .func f [] []), (11, rowD x), (12, .lit (.int .i64 (x.length : Int))), (13, .lit (.int .i64 (i : Int)))] ∧ Sub H H') ?_ (k := x.length) ⟨0, by simp, by simp, by simp, by simp, rfl, .refl⟩
  rintro k fr H' ⟨i, rfl, hi, hi2, hc, rfl, hs⟩
  refine sem_run 9000 _ ?_
  simp
  by_cases c : i < x.length
  · by_cases c2 : y.length ≤ i
    · simp [c, c2]
      refine sem_ret ?_
      simp
      refine sem_ret ?_
      simp [M12]
      have : y.drop i = [] := List.drop_eq_nil_of_le (by omega)
      rw [hc, this, List.drop_eq_getElem_cons c]
      exact .le (sB hs) (by simp [cmpRow]) trivial
    · have c3 : i < y.length := by omega
      simp [c, c2, c3]
      refine sf (hf x[i] y[i]) ?_
      simp
      rw [List.drop_eq_getElem_cons c, List.drop_eq_getElem_cons c3] at hc
      by_cases c4 : cmp x[i] y[i] = 0
      · simp [c4]
        refine sem_ok ?_
        have hw : wr .i64 ((i : Int) + 1) = ((i + 1 : Nat) : Int) := by rw [wr_of] <;> omega
        exact ⟨_, by omega, i + 1, rfl, by omega, by omega, by rw [hc]; simp [cmpRow, c4], by rw [hw], (sB hs)⟩
      · simp [c4]
        refine sem_ret ?_
        simp
        refine sem_ret ?_
        simp [M12]
        exact .le (sB hs) (by rw [hc]; simp [cmpRow, c4]) trivial
  · simp [c]
    refine sem_exit (sem_run 9000 _ ?_)
    have hd : x.drop i = [] := List.drop_eq_nil_of_le (by omega)
    have hl : i = x.length := by omega
    by_cases c2 : x.length < y.length
    · simp [c2]
      refine sem_ret ?_
      simp [M12]
      rw [hc, hd, List.drop_eq_getElem_cons (by omega)]
      exact .le (sB hs) (by simp [cmpRow]) trivial
    · simp [c2]
      refine sem_ret ?_
      simp [M12]
      rw [hc, hd, List.drop_eq_nil_of_le (by omega : y.length ≤ i)]
      exact .le (sB hs) (by simp [cmpRow]) trivial
theorem schm_rows (L : HSchmC p ext F) {x y : Row} (hx : x.length < 1000000) : FnD p ext (F 2) [rowD x, rowD y] (.lit (.int .i64 (cmpRow cmpV x y))) := by
  refine fn_of L.h2 (M := M2) rfl ok2 rfl fun H => sem_run 9000 _ ?_
  simp
  refine sf (compareFunc L (fun a b => schm_compare L) hx) ?_
  simp
  refine sem_ret ?_
  simp [M2]
  exact .same (by simp)
theorem vl_ext {a b : Vl} : a = b ↔ a.null = b.null ∧ a.kind = b.kind ∧ a.n = b.n ∧ a.bytes = b.bytes := by
  cases a; cases b; simp
instance : DecidableEq Vl := fun _a _b => decidable_of_iff _ vl_ext.symm
end Go.Lib
end

section
set_option maxRecDepth 10000
namespace Go.Lib
open Go.Vm Go.Dv
variable {α : Type}
structure Ord3 (G : α → Prop) (cmp : α → α → Int) : Prop where
  sym : ∀ x y, G x → G y → cmp x y = - cmp y x
  tr : ∀ x y z, G x → G y → G z → cmp x y ≤ 0 → cmp y z ≤ 0 → cmp x z ≤ 0
namespace Ord3
variable {G : α → Prop} {cmp : α → α → Int}
theorem lt_le (o : Ord3 G cmp) {x y z : α} (hx : G x) (hy : G y) (hz : G z) (h1 : cmp x y < 0) (h2 : cmp y z ≤ 0) : cmp x z < 0 := by
  have h3 := o.tr x y z hx hy hz (by omega) h2
  rcases Int.lt_or_eq_of_le h3 with h | h
  · exact h
  · have := o.sym x z hx hz
    have h4 := o.tr y z x hy hz hx h2 (by omega)
    have := o.sym x y hx hy
    omega
theorem le_lt (o : Ord3 G cmp) {x y z : α} (hx : G x) (hy : G y) (hz : G z) (h1 : cmp x y ≤ 0) (h2 : cmp y z < 0) : cmp x z < 0 := by
  have h3 := o.tr x y z hx hy hz h1 (by omega)
  rcases Int.lt_or_eq_of_le h3 with h | h
  · exact h
  · have := o.sym x z hx hz
    have h4 := o.tr z x y hz hx hy (by omega) h1
    have := o.sym y z hy hz
    omega
theorem eq_eq (o : Ord3 G cmp) {x y z : α} (hx : G x) (hy : G y) (hz : G z) (h1 : cmp x y = 0) (h2 : cmp y z = 0) : cmp x z = 0 := by
  have h3 := o.tr x y z hx hy hz (by omega) (by omega)
  have e1 := o.sym x y hx hy
  have e2 := o.sym y z hy hz
  have e3 := o.sym x z hx hz
  have h4 := o.tr z y x hz hy hx (by omega) (by omega)
  omega
theorem anti (o : Ord3 G cmp) : ∀ x y, G x → G y → cmp x y < 0 → ¬ cmp y x < 0 := fun x y hx hy h => by
  have := o.sym x y hx hy; omega
theorem trans (o : Ord3 G cmp) : ∀ x y z, G x → G y → G z → ¬ cmp y x < 0 → ¬ cmp z y < 0 → ¬ cmp z x < 0 := fun x y z hx hy hz h1 h2 => by
  have e1 := o.sym x y hx hy
  have e2 := o.sym y z hy hz
  have e3 := o.sym x z hx hz
  have := o.tr x y z hx hy hz (by omega) (by omega)
  omega
end Ord3
theorem cmpI_ord : Ord3 (fun _ => True) cmpI :=
  ⟨fun x y _ _ => by unfold cmpI; repeat' split <;> omega, fun x y z _ _ _ h1 h2 => by unfold cmpI at *; split at h1 <;> split at h2 <;> (repeat' split) <;> omega⟩
theorem cmpI_eq {x y : Int} : cmpI x y = 0 ↔ x = y := by unfold cmpI; repeat' split <;> omega
theorem cmpLs_cons {a b : Nat} {x y : List Nat} : cmpLs (a :: x) (b :: y) = if cmpI a b ≠ 0 then cmpI a b else cmpLs x y := by
  simp only [cmpLs, cmpI, cond_eq_ite, nblt]
  repeat' split
  all_goals first | rfl | omega
theorem cmpLs_ord : Ord3 (fun _ => True) cmpLs := by
  refine ⟨fun x y _ _ => ?_, fun x y z _ _ _ => ?_⟩
  · induction x generalizing y with
    | nil => cases y <;> rfl
    | cons a x ih => cases y with
      | nil => rfl
      | cons b y =>
        rw [cmpLs_cons, cmpLs_cons]
        have := cmpI_ord.sym (a : Int) b trivial trivial
        have := ih y
        split <;> split <;> omega
  · induction x generalizing y z with
    | nil => intro _ _; cases z <;> simp [cmpLs]
    | cons a x ih => cases y with
      | nil => intro h; simp [cmpLs] at h
      | cons b y => cases z with
        | nil => intro _ h; simp [cmpLs] at h
        | cons c z =>
          rw [cmpLs_cons, cmpLs_cons, cmpLs_cons]
          intro h1 h2
          have ih := ih y z
          have o := cmpI_ord
          have t := o.tr (a : Int) b c trivial trivial trivial
          have t1 := o.lt_le (x := (a : Int)) (y := b) (z := c) trivial trivial trivial
          have t2 := o.le_lt (x := (a : Int)) (y := b) (z := c) trivial trivial trivial
          have t3 := o.eq_eq (x := (a : Int)) (y := b) (z := c) trivial trivial trivial
          split at h1 <;> split at h2 <;> split <;> first | omega | (exact ih (by omega) (by omega)) | skip
theorem cmpB_ord : Ord3 (fun _ => True) cmpB := ⟨fun _ _ _ _ => cmpLs_ord.sym _ _ trivial trivial, fun _ _ _ _ _ _ h1 h2 => cmpLs_ord.tr _ _ _ trivial trivial trivial h1 h2⟩
theorem cmpLs_eq : ∀ {x y : List Nat}, cmpLs x y = 0 ↔ x = y
  | [], [] => by simp [cmpLs]
  | [], _ :: _ => by simp [cmpLs]
  | _ :: _, [] => by simp [cmpLs]
  | a :: x, b :: y => by
    rw [cmpLs_cons]
    have := cmpI_eq (x := (a : Int)) (y := b)
    split
    · constructor
      · intro h; omega
      · intro h; simp only [List.cons.injEq] at h; omega
    · rw [cmpLs_eq]
      constructor
      · rintro rfl; simp; omega
      · intro h; exact (List.cons.inj h).2
theorem cmpB_eq {x y : List By} : cmpB x y = 0 ↔ x = y := by unfold cmpB; rw [cmpLs_eq, bys_inj]
theorem cmpV_null {a b : Vl} : cmpV a b = if a.null = true then (if b.null = true then 0 else -1) else if b.null = true then 1 else if a.kind = 1 then cmpI a.n b.n else if a.kind = 2 then cmpB a.bytes b.bytes else 0 := by
  unfold cmpV rankV cmpI
  cases a.null <;> cases b.null <;> simp
theorem cmpV_ord {k : Int} : Ord3 (fun v : Vl => v.kind = k) cmpV := by
  refine ⟨fun x y hx hy => ?_, fun x y z hx hy hz h1 h2 => ?_⟩
  · rw [cmpV_null, cmpV_null, hx, hy]
    have := cmpI_ord.sym x.n y.n trivial trivial
    have := cmpB_ord.sym x.bytes y.bytes trivial trivial
    repeat' split
    all_goals omega
  · rw [cmpV_null] at *
    rw [hx] at *
    rw [hy] at h2
    have := cmpI_ord.tr x.n y.n z.n trivial trivial trivial
    have := cmpB_ord.tr x.bytes y.bytes z.bytes trivial trivial trivial
    cases hx0 : x.null <;> cases hy0 : y.null <;> cases hz0 : z.null <;> simp [hx0, hy0, hz0] at h1 h2 ⊢
    split at h1
    · rename_i e
      simp only [e] at h2 ⊢
      simp at h2 ⊢; omega
    · rename_i e
      simp only [e] at h2 ⊢
      split at h1
      · rename_i e2
        simp [e2] at h2 ⊢; omega
      · rename_i e2
        simp [e2]
theorem cmpLs_abs : ∀ {x y : List Nat}, -1 ≤ cmpLs x y ∧ cmpLs x y ≤ 1
  | [], [] => by simp [cmpLs]
  | [], _ :: _ => by simp [cmpLs]
  | _ :: _, [] => by simp [cmpLs]
  | a :: x, b :: y => by
    rw [cmpLs_cons]
    have := cmpLs_abs (x := x) (y := y)
    unfold cmpI
    repeat' split
    all_goals omega
theorem cmpV_abs {a b : Vl} : -1 ≤ cmpV a b ∧ cmpV a b ≤ 1 := by
  rw [cmpV_null]
  have := cmpLs_abs (x := bys a.bytes) (y := bys b.bytes)
  unfold cmpI cmpB
  repeat' split
  all_goals omega
def Kin (ks : List Int) (r : Row) : Prop := r.map Vl.kind = ks
theorem cmpRow_ord : ∀ {ks : List Int}, Ord3 (Kin ks) (cmpRow cmpV) := by
  intro ks
  refine ⟨?_, ?_⟩
  · induction ks with
    | nil =>
      intro x y hx hy
      simp only [Kin, List.map_eq_nil_iff] at hx hy
      subst hx; subst hy; rfl
    | cons k ks ih =>
      intro x y hx hy
      cases x with
      | nil => simp [Kin] at hx
      | cons a x => cases y with
        | nil => simp [Kin] at hy
        | cons b y =>
          simp only [Kin, List.map_cons, List.cons.injEq] at hx hy
          have := ih x y hx.2 hy.2
          have := (cmpV_ord (k := k)).sym a b hx.1 hy.1
          simp only [cmpRow]
          split <;> split <;> omega
  · induction ks with
    | nil =>
      intro x y z hx hy hz
      simp only [Kin, List.map_eq_nil_iff] at hx hy hz
      subst hx; subst hy; subst hz; simp [cmpRow]
    | cons k ks ih =>
      intro x y z hx hy hz
      cases x with
      | nil => simp [Kin] at hx
      | cons a x => cases y with
        | nil => simp [Kin] at hy
        | cons b y => cases z with
          | nil => simp [Kin] at hz
          | cons c z =>
            simp only [Kin, List.map_cons, List.cons.injEq] at hx hy hz
            have ih := ih x y z hx.2 hy.2 hz.2
            have o := cmpV_ord (k := k)
            have t := o.tr a b c hx.1 hy.1 hz.1
            have t1 := o.lt_le hx.1 hy.1 hz.1
            have t2 := o.le_lt hx.1 hy.1 hz.1
            have t3 := o.eq_eq hx.1 hy.1 hz.1
            simp only [cmpRow]
            intro h1 h2
            split at h1 <;> split at h2 <;> split <;> first | omega | (exact ih (by omega) (by omega)) | skip
end Go.Lib
end

section
set_option maxRecDepth 10000
namespace Go.Lib
open Go.Vm Go.Dv Go.Srt
variable {p : Prog} {ext : Ext} {F : Nat → Nat}
structure HAggr (p : Prog) (ext : Ext) (F : Nat → Nat) : Prop where
  srt : HSrt p ext F
  schm : HSchmC p ext F
  h32 : Has p ext F 32 M32
  h33 : Has p ext F 33 M33
  h34 : Has p ext F 34 M34
  h35 : Has p ext F 35 M35
  h36 : Has p ext F 36 M36
  h37 : Has p ext F 37 M37
  h38 : Has p ext F 38 M38
  h39 : Has p ext F 39 M39
  h40 : Has p ext F 40 M40
  h41 : Has p ext F 41 M41
  h42 : Has p ext F 42 M42
  h43 : Has p ext F 43 M43
  h44 : Has p ext F 44 M44
theorem slc_own {sz b n : Nat} {ex : Bool} : slcD sz (.slice b 0 sz n n ex) none (some (.lit (.int .i64 (n : Int)))) (some (.lit (.int .i64 (n : Int)))) = some (.slice b 0 sz n n true) := by
  simp [slcD, bndD, slcV, sliceO, needH, boundM, boundH, boundL, ble_d]
theorem slc_nil {sz : Nat} : slcD sz (.lit .nilslice) none (some (.lit (.int .i64 0))) (some (.lit (.int .i64 0))) = some (.lit .nilslice) := rfl
theorem clip_own (L : HAggr p ext F) {H0 H : HpD} {s : D} {el : List (List D)} (g : Gr H0 H 1 s el) : WcD p ext (F 39) [s] H (fun d H' => Gr H0 H' 1 d el) := by
  refine wc_of L.h39 (M := M39) rfl ok39 rfl (sem_run 9000 _ ?_)
  rcases g.at_ with ⟨rfl, rfl⟩ | ⟨b, ex, el0, rfl, h1, h2, h3, h4⟩
  · simp [slc_nil]
    refine sem_ret ?_
    simp [M39]
    exact g
  · simp [slc_own]
    refine sem_ret ?_
    simp [M39]
    exact ⟨g.sub, g.len, .inr ⟨b, true, el0, rfl, h1, h2, h3, h4⟩⟩
def Fine (l : List Row) : Prop := l.length < 1000000 ∧ ∀ r, r ∈ l → r.length < 1000000
def NilI (fr0 : FrD) (H0 : HpD) (k : Nat) (fr : FrD) (H : HpD) : Prop := k = 0 ∧ fr = fr0 ∧ H = H0
theorem insertion_nil (L : HSrt p ext F) {H : HpD} {cv : D} : WcD p ext (F 28) [.lit .nilslice, .lit (.int .i64 0), .lit (.int .i64 0), cv] H (fun d H' => d = .tup [] ∧ H' = H) := by
  refine wc_of L.h28 (M := M28) rfl ok28 rfl (sem_run 9000 _ ?_)
  simp
  refine sem_loop (NilI [(0, .lit .nilslice), (1, .lit (.int .i64 0)), (2, .lit (.int .i64 0)), (3, cv), (8, .lit (.int .i64 1))] H) ?_ (k := 0) ⟨rfl, rfl, rfl⟩
  rintro k fr H' ⟨rfl, rfl, rfl⟩
  refine sem_run 9000 _ ?_
  simp
  refine sem_exit (sem_run 9000 _ ?_)
  simp
  refine sem_ok ?_
  simp [M28]
theorem stable_nil (L : HSrt p ext F) {H : HpD} {cv : D} : WcD p ext (F 27) [.lit .nilslice, .lit (.int .i64 0), cv] H (fun d H' => d = .tup [] ∧ H' = H) := by
  refine wc_of L.h27 (M := M27) rfl ok27 rfl (sem_run 9000 _ ?_)
  simp
  refine sem_loop (NilI [(0, .lit .nilslice), (1, .lit (.int .i64 0)), (2, cv), (6, .lit (.int .i64 20)), (7, .lit (.int .i64 0)), (8, .lit (.int .i64 20))] H) ?_ (k := 0) ⟨rfl, rfl, rfl⟩
  rintro k fr H' ⟨rfl, rfl, rfl⟩
  refine sem_run 9000 _ ?_
  simp
  refine sem_exit (sem_run 9000 _ ?_)
  simp
  refine sem_call (insertion_nil L) ?_
  rintro _ _ ⟨rfl, rfl⟩
  refine sem_run 9000 _ ?_
  simp
  refine sem_loop (NilI [(0, .lit .nilslice), (1, .lit (.int .i64 0)), (2, cv), (6, .lit (.int .i64 20))] _) ?_ (k := 0) ⟨rfl, rfl, rfl⟩
  rintro k fr H' ⟨rfl, rfl, rfl⟩
  refine sem_run 9000 _ ?_
  simp
  refine sem_exit (sem_run 9000 _ ?_)
  simp
  refine sem_ok ?_
  simp [M27]
theorem sortStable_nil (L : HSrt p ext F) {H : HpD} {cv : D} : WcD p ext (F 26) [.lit .nilslice, cv] H (fun d H' => d = .tup [] ∧ H' = H) := by
  refine wc_of L.h26 (M := M26) rfl ok26 rfl (sem_run 9000 _ ?_)
  simp
  refine sem_call (stable_nil L) ?_
  rintro _ _ ⟨rfl, rfl⟩
  refine sem_run 9000 _ ?_
  simp
  refine sem_ok ?_
  simp [M26]
def cmpR (a b : Row) : Int := cmpRow cmpV a b
end Go.Lib
end

section
set_option maxRecDepth 10000
namespace Go.Lib
open Go.Vm Go.Dv
structure Kp (n : Nat) (h h' : Hp) : Prop where
  next : h.next ≤ h'.next
  low : ∀ b, b < n → h'.blk b = h.blk b
  kind : ∀ b cs ro, h.blk b = .cells cs ro → ∃ cs', h'.blk b = .cells cs' ro ∧ ∀ (i : Nat) x, cs[i]? = some x → cs'[i]? = some x ∨ ∃ k a c, x = V.int k a ∧ cs'[i]? = some (V.int k c)
theorem Kp.refl {n : Nat} {h : Hp} : Kp n h h := ⟨Nat.le_refl _, fun _ _ => rfl, fun _ cs _ e => ⟨cs, e, fun _ _ k => .inl k⟩⟩
theorem Kp.trans {n : Nat} {h h1 h2 : Hp} (a : Kp n h h1) (b : Kp n h1 h2) : Kp n h h2 := by
  refine ⟨Nat.le_trans a.next b.next, fun x hx => (b.low x hx).trans (a.low x hx), fun x cs ro e => ?_⟩
  obtain ⟨cs1, e1, k1⟩ := a.kind x cs ro e
  obtain ⟨cs2, e2, k2⟩ := b.kind x cs1 ro e1
  refine ⟨cs2, e2, fun i y hy => ?_⟩
  rcases k1 i y hy with h1 | ⟨k, u, c, rfl, h1⟩
  · exact k2 i y h1
  · rcases k2 i _ h1 with h2 | ⟨k', u', c', e', h2⟩
    · exact .inr ⟨k, u, c, rfl, h2⟩
    · cases e'; exact .inr ⟨k, u, c', rfl, h2⟩
theorem splice_onev : ∀ (cs : List V) (o : Nat) (v : V), o < cs.length → splice cs o [v] = cs.set o v
  | [], _, _, h => by simp at h
  | x :: cs, 0, v, _ => by simp [splice]
  | x :: cs, o + 1, v, h => by simp only [splice, List.set_cons_succ]; rw [splice_onev cs o v (by simpa using h)]
theorem Kp.store {n b o : Nat} {h : Hp} {cs : List V} {k : IntKind} {a c : Int} (hb : h.blk b = .cells cs false) (hn : n ≤ b) (ho : cs[o]? = some (.int k a)) :
    ∃ h', storeH h 1 b o [.int k c] = some h' ∧ Kp n h h' := by
  have hl : o < cs.length := (List.getElem?_eq_some_iff.1 ho).1
  refine ⟨h.put b (.cells (cs.set o (.int k c)) false), ?_, Nat.le_refl _, fun x hx => ?_, fun x cs' ro e => ?_⟩
  · rw [storeH_cells (sz := 1) (vs := [.int k c]) hb rfl (by omega) rfl, splice_onev cs o _ hl]
  · rw [blk_put, if_neg (by omega)]
  · rw [blk_put]
    by_cases e2 : x = b
    · subst e2
      rw [hb] at e; cases e
      refine ⟨_, if_pos rfl, fun i y hy => ?_⟩
      by_cases e3 : o = i
      · subst e3
        rw [ho] at hy; cases hy
        exact .inr ⟨k, a, c, rfl, by rw [List.getElem?_set_self hl]⟩
      · exact .inl (by rw [List.getElem?_set_ne e3]; exact hy)
    · rw [if_neg e2]; exact ⟨cs', e, fun _ _ k => .inl k⟩
def ByV (n : Nat) (h : Hp) (v : V) : Prop := v = .nilslice ∨ ∃ b o len cap ex cs, v = .slice b o 1 len cap ex ∧ n ≤ b ∧ h.blk b = .cells cs false ∧ len < 4611686018427387904 ∧ ∀ i, i < len → ∃ x, cs[o + i * 1]? = some (.int .u8 x)
def RowV (n : Nat) (h : Hp) (v : V) : Prop := v = .nilslice ∨ ∃ b o len cap ex cs, v = .slice b o 4 len cap ex ∧ n ≤ b ∧ h.blk b = .cells cs false ∧ len < 4611686018427387904 ∧ ∀ i, i < len → (∃ x, cs[o + i * 4 + 2]? = some (.int .i64 x)) ∧ ∃ w, cs[o + i * 4 + 3]? = some w ∧ ByV n h w
def RowsV (n : Nat) (h : Hp) (v : V) : Prop := v = .nilslice ∨ ∃ b o len cap ex cs ro, v = .slice b o 1 len cap ex ∧ h.blk b = .cells cs ro ∧ len < 4611686018427387904 ∧ ∀ i, i < len → ∃ w, cs[o + i * 1]? = some w ∧ RowV n h w
theorem ByV.nint {n : Nat} {h : Hp} {k : IntKind} {a : Int} : ¬ ByV n h (.int k a) := by
  rintro (h | ⟨_, _, _, _, _, _, h, _⟩) <;> cases h
theorem RowV.nint {n : Nat} {h : Hp} {k : IntKind} {a : Int} : ¬ RowV n h (.int k a) := by
  rintro (h | ⟨_, _, _, _, _, _, h, _⟩) <;> cases h
theorem ByV.kp {n : Nat} {h h' : Hp} {v : V} (x : ByV n h v) (k : Kp n h h') : ByV n h' v := by
  rcases x with rfl | ⟨b, o, len, cap, ex, cs, rfl, hn, hb, hl, hc⟩
  · exact .inl rfl
  · obtain ⟨cs', e, kk⟩ := k.kind b cs false hb
    refine .inr ⟨b, o, len, cap, ex, cs', rfl, hn, e, hl, fun i hi => ?_⟩
    obtain ⟨x, hx⟩ := hc i hi
    rcases kk _ _ hx with h1 | ⟨k0, a, c, e0, h1⟩
    · exact ⟨x, h1⟩
    · cases e0; exact ⟨c, h1⟩
theorem RowV.kp {n : Nat} {h h' : Hp} {v : V} (x : RowV n h v) (k : Kp n h h') : RowV n h' v := by
  rcases x with rfl | ⟨b, o, len, cap, ex, cs, rfl, hn, hb, hl, hc⟩
  · exact .inl rfl
  · obtain ⟨cs', e, kk⟩ := k.kind b cs false hb
    refine .inr ⟨b, o, len, cap, ex, cs', rfl, hn, e, hl, fun i hi => ?_⟩
    obtain ⟨⟨x, hx⟩, w, hw, bw⟩ := hc i hi
    refine ⟨?_, w, ?_, bw.kp k⟩
    · rcases kk _ _ hx with h1 | ⟨k0, a, c, e0, h1⟩
      · exact ⟨x, h1⟩
      · cases e0; exact ⟨c, h1⟩
    · rcases kk _ _ hw with h1 | ⟨k0, a, c, e0, h1⟩
      · exact h1
      · subst e0; exact (ByV.nint bw).elim
theorem RowsV.kp {n : Nat} {h h' : Hp} {v : V} (x : RowsV n h v) (k : Kp n h h') : RowsV n h' v := by
  rcases x with rfl | ⟨b, o, len, cap, ex, cs, ro, rfl, hb, hl, hc⟩
  · exact .inl rfl
  · obtain ⟨cs', e, kk⟩ := k.kind b cs ro hb
    refine .inr ⟨b, o, len, cap, ex, cs', ro, rfl, e, hl, fun i hi => ?_⟩
    obtain ⟨w, hw, bw⟩ := hc i hi
    refine ⟨w, ?_, bw.kp k⟩
    rcases kk _ _ hw with h1 | ⟨k0, a, c, e0, h1⟩
    · exact h1
    · subst e0; exact (RowV.nint bw).elim
section
variable {h : Hp} {ψ : Nat → Option Nat} {S : Fz}
theorem byV_of {b : List By} {v : V} (k : VD h ψ S (byN b) v) (hb : b.length < 1000000) : ByV S.n h v := by
  simp only [byN, VD] at k
  rcases k with ⟨rfl, _⟩ | ⟨c, o, cap, ex, rfl, h1, h2, k⟩
  · exact .inl rfl
  · rcases k with ⟨hm, _⟩ | ⟨cs, ro, ha, hbk, hp⟩
    · cases hm
    · obtain ⟨hn, rfl⟩ := ha.2.1 rfl
      refine .inr ⟨c, o, _, cap, ex, cs, rfl, hn, hbk, by rw [by_len]; omega, fun i hi => ?_⟩
      rw [by_len] at hi
      obtain ⟨_, kp⟩ := VDss.get (i := i) hp (e := [.lit (.int .u8 ((b[i]'hi).val : Int))]) (by simp [byE, hi])
      simp only [VDp, VD] at kp
      obtain ⟨x, r, e, ⟨rfl, _⟩, _⟩ := kp
      refine ⟨((b[i]'hi).val : Int), ?_⟩
      have := congrArg (fun l => l[0]?) e
      simpa [List.getElem?_drop] using this
theorem rowV_of {r : Row} {v : V} (k : VD h ψ S (rowDN r) v) (hb : r.length < 1000000) : RowV S.n h v := by
  simp only [rowDN, VD] at k
  rcases k with ⟨rfl, _⟩ | ⟨c, o, cap, ex, rfl, h1, h2, k⟩
  · exact .inl rfl
  · rcases k with ⟨hm, _⟩ | ⟨cs, ro, ha, hbk, hp⟩
    · cases hm
    · obtain ⟨hn, rfl⟩ := ha.2.1 rfl
      refine .inr ⟨c, o, _, cap, ex, cs, rfl, hn, hbk, by rw [rowEN_len]; omega, fun i hi => ?_⟩
      rw [rowEN_len] at hi
      obtain ⟨_, kp⟩ := VDss.get (i := i) hp (e := (r[i]'hi).cN) (by simp [rowEN, hi])
      simp only [Vl.cN, VDp, VD] at kp
      obtain ⟨x0, r0, e0, _, x1, r1, rfl, _, x2, r2, rfl, ⟨rfl, _⟩, x3, r3, rfl, k3, _⟩ := kp
      have e2 := congrArg (fun l => l[2]?) e0
      have e3 := congrArg (fun l => l[3]?) e0
      simp only [List.drop_drop, List.getElem?_drop] at e2 e3
      exact ⟨⟨_, by simpa using e2⟩, x3, by simpa using e3, byV_of k3 (r[i]'hi).small⟩
theorem rowsV_of {l : List Row} {v : V} (k : VD h ψ S (rowsDN l) v) (hl : l.length < 1000000) (hr : ∀ r, r ∈ l → r.length < 1000000) : RowsV S.n h v := by
  simp only [rowsDN, VD] at k
  rcases k with ⟨rfl, _⟩ | ⟨c, o, cap, ex, rfl, h1, h2, k⟩
  · exact .inl rfl
  · rcases k with ⟨hm, _⟩ | ⟨cs, ro, ha, hbk, hp⟩
    · cases hm
    · refine .inr ⟨c, o, _, cap, ex, cs, ro, rfl, hbk, by rw [rowsEN_len]; omega, fun i hi => ?_⟩
      rw [rowsEN_len] at hi
      obtain ⟨_, kp⟩ := VDss.get (i := i) hp (e := [rowDN (l[i]'hi)]) (by simp [rowsEN, hi])
      simp only [VDp] at kp
      obtain ⟨x, r, e, kx, _⟩ := kp
      refine ⟨x, ?_, rowV_of kx (hr _ (List.getElem_mem hi))⟩
      have := congrArg (fun l => l[0]?) e
      simpa [List.getElem?_drop] using this
end
theorem ByV.use {n : Nat} {h : Hp} {v : V} (x : ByV n h v) : ∃ len : Nat, lenbV v = some (.int .i64 (len : Int)) ∧ len < 4611686018427387904 ∧ ∀ i, i < len → ∃ b o, iaddrV 1 v (.int .i64 (i : Int)) = some (.ptr b o) ∧
    ∀ h', Kp n h h' → (∃ x, cellAt (h'.blk b) o = some (.int .u8 x)) ∧ ∀ c, ∃ h'', storeH h' 1 b o [.int .u8 c] = some h'' ∧ Kp n h' h'' := by
  rcases x with rfl | ⟨b, o, len, cap, ex, cs, rfl, hn, hb, hl, hc⟩
  · exact ⟨0, rfl, by omega, fun i hi => by omega⟩
  · refine ⟨len, rfl, hl, fun i hi => ⟨b, o + i * 1, iaddrV_slice hi, fun h' k => ?_⟩⟩
    obtain ⟨x, hx⟩ := hc i hi
    obtain ⟨cs', e, kk⟩ := k.kind b cs false hb
    have : ∃ c, cs'[o + i * 1]? = some (.int .u8 c) := by
      rcases kk _ _ hx with h1 | ⟨k0, a, c, e0, h1⟩
      · exact ⟨x, h1⟩
      · cases e0; exact ⟨c, h1⟩
    obtain ⟨c, hc'⟩ := this
    exact ⟨⟨c, by rw [e]; exact hc'⟩, fun c' => Kp.store e hn hc'⟩
theorem RowV.use {n : Nat} {h : Hp} {v : V} (x : RowV n h v) : ∃ len : Nat, lenbV v = some (.int .i64 (len : Int)) ∧ len < 4611686018427387904 ∧ ∀ i, i < len → ∃ b o w, iaddrV 4 v (.int .i64 (i : Int)) = some (.ptr b o) ∧ ByV n h w ∧
    ∀ h', Kp n h h' → (∃ x, cellAt (h'.blk b) (o + 2) = some (.int .i64 x)) ∧ (∀ c, ∃ h'', storeH h' 1 b (o + 2) [.int .i64 c] = some h'' ∧ Kp n h' h'') ∧ cellAt (h'.blk b) (o + 3) = some w := by
  rcases x with rfl | ⟨b, o, len, cap, ex, cs, rfl, hn, hb, hl, hc⟩
  · exact ⟨0, rfl, by omega, fun i hi => by omega⟩
  · refine ⟨len, rfl, hl, fun i hi => ?_⟩
    obtain ⟨⟨x, hx⟩, w, hw, bw⟩ := hc i hi
    refine ⟨b, o + i * 4, w, iaddrV_slice hi, bw, fun h' k => ?_⟩
    obtain ⟨cs', e, kk⟩ := k.kind b cs false hb
    have : ∃ c, cs'[o + i * 4 + 2]? = some (.int .i64 c) := by
      rcases kk _ _ hx with h1 | ⟨k0, a, c, e0, h1⟩
      · exact ⟨x, h1⟩
      · cases e0; exact ⟨c, h1⟩
    obtain ⟨c, hc'⟩ := this
    refine ⟨⟨c, by rw [e]; exact hc'⟩, fun c' => Kp.store e hn hc', ?_⟩
    rw [e]
    rcases kk _ _ hw with h1 | ⟨k0, a, c, e0, h1⟩
    · exact h1
    · subst e0; exact (ByV.nint bw).elim
theorem RowsV.use {n : Nat} {h : Hp} {v : V} (x : RowsV n h v) : ∃ len : Nat, lenbV v = some (.int .i64 (len : Int)) ∧ len < 4611686018427387904 ∧ ∀ i, i < len → ∃ b o w, iaddrV 1 v (.int .i64 (i : Int)) = some (.ptr b o) ∧ RowV n h w ∧
    ∀ h', Kp n h h' → cellAt (h'.blk b) o = some w := by
  rcases x with rfl | ⟨b, o, len, cap, ex, cs, ro, rfl, hb, hl, hc⟩
  · exact ⟨0, rfl, by omega, fun i hi => by omega⟩
  · refine ⟨len, rfl, hl, fun i hi => ?_⟩
    obtain ⟨w, hw, bw⟩ := hc i hi
    refine ⟨b, o + i * 1, w, iaddrV_slice hi, bw, fun h' k => ?_⟩
    obtain ⟨cs', e, kk⟩ := k.kind b cs ro hb
    rw [e]
    rcases kk _ _ hw with h1 | ⟨k0, a, c, e0, h1⟩
    · exact h1
    · subst e0; exact (RowV.nint bw).elim
variable {p : Prog} {ext : Ext} {F : Nat → Nat}
end Go.Lib
end

section
set_option maxRecDepth 10000
namespace Go.Lib
open Go.Vm Go.Dv
def RssV (n : Nat) (h : Hp) (v : V) : Prop := v = .nilslice ∨ ∃ b o len cap ex cs ro, v = .slice b o 1 len cap ex ∧ h.blk b = .cells cs ro ∧ len < 4611686018427387904 ∧ ∀ i, i < len → ∃ w, cs[o + i * 1]? = some w ∧ RowsV n h w
theorem RowsV.nint {n : Nat} {h : Hp} {k : IntKind} {a : Int} : ¬ RowsV n h (.int k a) := by
  rintro (h | ⟨_, _, _, _, _, _, _, h, _⟩) <;> cases h
theorem RssV.use {n : Nat} {h : Hp} {v : V} (x : RssV n h v) : ∃ len : Nat, lenbV v = some (.int .i64 (len : Int)) ∧ len < 4611686018427387904 ∧ ∀ i, i < len → ∃ b o w, iaddrV 1 v (.int .i64 (i : Int)) = some (.ptr b o) ∧ RowsV n h w ∧
    ∀ h', Kp n h h' → cellAt (h'.blk b) o = some w := by
  rcases x with rfl | ⟨b, o, len, cap, ex, cs, ro, rfl, hb, hl, hc⟩
  · exact ⟨0, rfl, by omega, fun i hi => by omega⟩
  · refine ⟨len, rfl, hl, fun i hi => ?_⟩
    obtain ⟨w, hw, bw⟩ := hc i hi
    refine ⟨b, o + i * 1, w, iaddrV_slice hi, bw, fun h' k => ?_⟩
    obtain ⟨cs', e, kk⟩ := k.kind b cs ro hb
    rw [e]
    rcases kk _ _ hw with h1 | ⟨k0, a, c, e0, h1⟩
    · exact h1
    · subst e0; exact (RowsV.nint bw).elim
def U0 (n : Nat) (v0 : V) (h0 : Hp) (_ : Nat) (fr : Fr) (h : Hp) : Prop := ev fr (.tmp 44) = v0 ∧ Kp n h0 h
def U1 (n : Nat) (v0 w0 vi vn : V) (h0 : Hp) (_ : Nat) (fr : Fr) (h : Hp) : Prop := ev fr (.tmp 44) = v0 ∧ ev fr (.tmp 50) = w0 ∧ ev fr (.tmp 46) = vi ∧ ev fr (.tmp 45) = vn ∧ Kp n h0 h
def U2 (n : Nat) (v0 w0 vi vn w vj vm : V) (h0 : Hp) (_ : Nat) (fr : Fr) (h : Hp) : Prop := ev fr (.tmp 44) = v0 ∧ ev fr (.tmp 50) = w0 ∧ ev fr (.tmp 46) = vi ∧ ev fr (.tmp 45) = vn ∧ ev fr (.tmp 16) = w ∧ ev fr (.tmp 52) = vj ∧ ev fr (.tmp 51) = vm ∧ Kp n h0 h
def U3 (n : Nat) (v0 w0 vi vn w vj vm vk vl v17 : V) (h0 : Hp) (_ : Nat) (fr : Fr) (h : Hp) : Prop := ev fr (.tmp 44) = v0 ∧ ev fr (.tmp 50) = w0 ∧ ev fr (.tmp 46) = vi ∧ ev fr (.tmp 45) = vn ∧ ev fr (.tmp 16) = w ∧ ev fr (.tmp 52) = vj ∧ ev fr (.tmp 51) = vm ∧ ev fr (.tmp 58) = vk ∧ ev fr (.tmp 57) = vl ∧ ev fr (.tmp 17) = v17 ∧ Kp n h0 h
def KOwn : KC := .block 2 (.loop (.seq (.region [bt 47 .lss 46 45] [] [2,7,8,9,10,44,45,46,47])
 (.seq (.cond (.tmp 47) (.skip)
 (.exit 2))
 (.seq (.block 3 (.seq (.region [ix 48 1 44 46,l1 49 48,mv 14 49] [] [2,7,8,9,10,14,44,45,46])
 (.seq (.region [mv 50 14,lb 51 50,mi 52 0] [] [2,7,8,9,10,44,45,46,50,51,52])
 (.block 4 (.loop (.seq (.region [bt 53 .lss 52 51] [] [2,7,8,9,10,44,45,46,50,51,52,53])
 (.seq (.cond (.tmp 53) (.skip)
 (.exit 4))
 (.seq (.block 5 (.seq (.region [ix 54 1 50 52,l1 55 54,mv 16 55] [] [2,7,8,9,10,16,44,45,46,50,51,52])
 (.seq (.region [mv 56 16,lb 57 56,mi 58 0] [] [2,7,8,9,10,16,44,45,46,50,51,52,57,58])
 (.block 6 (.loop (.seq (.region [bt 59 .lss 58 57] [] [2,7,8,9,10,16,44,45,46,50,51,52,57,58,59])
 (.seq (.cond (.tmp 59) (.skip)
 (.exit 6))
 (.seq (.block 7 (.seq (.region [mv 60 58,mv 17 60] [] [2,7,8,9,10,16,17,44,45,46,50,51,52,57,58])
 (.seq (.region [mv 61 16,mv 62 17,ix 63 4 61 62,fa 64 2 63,l1 65 64,bi 66 .add 65 1,ix 67 4 61 62,fa 68 2 67,⟨none,(.e (.store 1 (.tmp 68) (.tmp 66))),none⟩] [] [2,7,8,9,10,16,17,44,45,46,50,51,52,57,58])
 (.seq (.region [mv 69 16,mv 70 17,ix 71 4 69 70,fa 72 3 71,l1 73 72,lb 74 73,mi 75 0] [] [2,7,8,9,10,16,17,44,45,46,50,51,52,57,58,74,75])
 (.block 8 (.loop (.seq (.region [bt 76 .lss 75 74] [] [2,7,8,9,10,16,17,44,45,46,50,51,52,57,58,74,75,76])
 (.seq (.cond (.tmp 76) (.skip)
 (.exit 8))
 (.seq (.block 9 (.seq (.region [mv 77 75,mv 18 77] [] [2,7,8,9,10,16,17,18,44,45,46,50,51,52,57,58,74,75])
 (.region [mv 78 16,mv 79 17,ix 80 4 78 79,fa 81 3 80,l1 82 81,mv 83 18,ix 84 1 82 83,l1 85 84,⟨(some 86),(.p (.bin .add (.tmp 85) (.val (.int .u8 (.ofNat 1))))),none⟩,ix 87 1 82 83,⟨none,(.e (.store 1 (.tmp 87) (.tmp 86))),none⟩] [] [2,7,8,9,10,16,17,44,45,46,50,51,52,57,58,74,75])))
 (.region [bi 88 .add 75 1,mv 75 88] [] [2,7,8,9,10,16,17,44,45,46,50,51,52,57,58,74,75]))))))))))
 (.region [bi 89 .add 58 1,mv 58 89] [] [2,7,8,9,10,16,44,45,46,50,51,52,57,58])))))))))
 (.region [bi 90 .add 52 1,mv 52 90] [] [2,7,8,9,10,44,45,46,50,51,52])))))))))
 (.region [bi 91 .add 46 1,mv 46 91] [] [2,7,8,9,10,44,45,46])))))
variable {p : Prog} {ext : Ext}
theorem own_wp {n : Nat} {h : Hp} {fv : Fr} {v : V} (hv : RssV n h v) {n0 : Nat} (hl : lenbV v = some (.int .i64 (n0 : Int))) (e44 : ev fv (.tmp 44) = v) (e45 : ev fv (.tmp 45) = .int .i64 (n0 : Int)) (e46 : ev fv (.tmp 46) = .int .i64 0) : WS p ext KOwn.erase [] fv h (okR fun _ h' => Kp n h h') := by
  obtain ⟨n0', hl0, hs0, hr0⟩ := hv.use
  rw [hl] at hl0; cases hl0
  simp only [KOwn, KC.erase]
  refine ws_range n0 (U0 n v h) hs0 (by simp) e46 e45 ⟨e44, .refl⟩ (fun i d u fr h' hd ⟨e1, k⟩ => ?_) (fun i fr h1 hi ei en ⟨e1, k1⟩ => ?_) (fun fr h' ⟨_, k⟩ => ?_)
  · rcases hd with rfl | rfl | rfl <;> exact ⟨by simpa using e1, k⟩
  · obtain ⟨b, o, w0, ea, rw0, hc⟩ := hr0 i hi
    obtain ⟨n2, hl2, hs2, hr2⟩ := (rw0.kp k1).use
    simp [-WS.block, ei, e1, ea, hc h1 k1, hl2]
    refine ws_range n2 (U1 n v w0 (.int .i64 i) (.int .i64 n0) h1) hs2 (by simp) (by simp) (by simp) ⟨by simp [e1], by simp, by simp [ei], by simp [en], .refl⟩ (fun i d u fr h' hd ⟨e1, e2, e3, e4, k⟩ => ?_) (fun j fr2 h2 hj ej em ⟨f1, f2, f3, f4, k2⟩ => ?_) (fun fr h' ⟨g1, g2, g3, g4, k⟩ => ?_)
    · rcases hd with rfl | rfl | rfl <;> exact ⟨by simpa using e1, by simpa using e2, by simpa using e3, by simpa using e4, k⟩
    · obtain ⟨b3, o3, w, ea3, rw3, hc3⟩ := hr2 j hj
      obtain ⟨n3, hl3, hs3, hr3⟩ := (rw3.kp k2).use
      simp [-WS.block, ej, f2, ea3, hc3 h2 k2, hl3]
      refine ws_range n3 (U2 n v w0 (.int .i64 i) (.int .i64 n0) w (.int .i64 j) (.int .i64 n2) h2) hs3 (by simp) (by simp) (by simp) ⟨by simp [f1], by simp [f2], by simp [f3], by simp [f4], by simp, by simp [ej], by simp [em], .refl⟩ (fun i d u fr h' hd ⟨e1, e2, e3, e4, e5, e6, e7, k⟩ => ?_) (fun q fr3 h3 hq eq eqn ⟨g1, g2, g3, g4, g5, g6, g7, k3⟩ => ?_) (fun fr h' ⟨g1, g2, g3, g4, g5, g6, g7, k⟩ => ?_)
      · rcases hd with rfl | rfl | rfl <;> exact ⟨by simpa using e1, by simpa using e2, by simpa using e3, by simpa using e4, by simpa using e5, by simpa using e6, by simpa using e7, k⟩
      · obtain ⟨b4, o4, w4, ea4, bw, hk⟩ := hr3 q hq
        obtain ⟨⟨x, hx⟩, hst, hw2⟩ := hk h3 k3
        obtain ⟨h4, es, k4⟩ := hst (wr .i64 (x + 1))
        obtain ⟨n5, hl5, hs5, hr5⟩ := (bw.kp (k3.trans k4)).use
        obtain ⟨_, _, hw3⟩ := hk h4 (k3.trans k4)
        simp [-WS.block, eq, g5, ea4, hx, es, hw3, hl5]
        refine ws_range n5 (U3 n v w0 (.int .i64 i) (.int .i64 n0) w (.int .i64 j) (.int .i64 n2) (.int .i64 q) (.int .i64 n3) (.int .i64 q) h4) hs5 (by simp) (by simp) (by simp) ⟨by simp [g1], by simp [g2], by simp [g3], by simp [g4], by simp [g5], by simp [g6], by simp [g7], by simp [eq], by simp [eqn], by simp, .refl⟩ (fun i d u fr h' hd ⟨e1, e2, e3, e4, e5, e6, e7, e8, e9, e10, k⟩ => ?_) (fun y fr5 h5 hy ey eyn ⟨e1, e2, e3, e4, e5, e6, e7, e8, e9, e10, k5⟩ => ?_) (fun fr h' ⟨e1, e2, e3, e4, e5, e6, e7, e8, e9, e10, k⟩ => ?_)
        · rcases hd with rfl | rfl | rfl <;> exact ⟨by simpa using e1, by simpa using e2, by simpa using e3, by simpa using e4, by simpa using e5, by simpa using e6, by simpa using e7, by simpa using e8, by simpa using e9, by simpa using e10, k⟩
        · obtain ⟨b6, o6, ea6, hk6⟩ := hr5 y hy
          obtain ⟨⟨z, hz⟩, hst6⟩ := hk6 h5 k5
          obtain ⟨h6, es6, k6⟩ := hst6 (wr .u8 (z + 1))
          obtain ⟨_, _, hw4⟩ := hk h5 ((k3.trans k4).trans k5)
          simp [-WS.block, ey, eyn, e5, e10, ea4, hw4, ea6, hz, es6]
          exact ⟨by simp [e1], by simp [e2], by simp [e3], by simp [e4], by simp [e5], by simp [e6], by simp [e7], by simp [e8], by simp [e9], by simp [e10], k5.trans k6⟩
        · simp [e8, e9]
          exact ⟨e1, e2, e3, e4, e5, e6, e7, (k3.trans k4).trans k⟩
      · simp [g6, g7]
        exact ⟨g1, g2, g3, g4, k2.trans k⟩
    · simp [g3, g4]
      exact ⟨g1, k1.trans k⟩
  · simpa using k
end Go.Lib
end

section
namespace Go.Lib
open Go.Vm Go.Dv
set_option maxRecDepth 100000
abbrev K53 (F : Nat → Nat) : KC := .seq (.region [⟨(some 2),(.p (.mov (.val (.nilslice)))),none⟩] [] [0])
 (.seq (.region [⟨(some 3),(.p (.mov (.val (.nilslice)))),none⟩] [] [0,3])
 (.seq (.seq (.region [mi 4 0] [] [0,3,4])
 (.block 0 (.loop (.seq (.seq (.region [mv 6 4,mv 7 0,lb 8 7,bt 9 .lss 6 8] [] [0,3,4,9])
 (.cond (.tmp 9) (.skip)
 (.exit 0)))
 (.seq (.block 1 (.seq (.region [mv 12 3,lb 13 12,mv 5 13] [] [0,3,4,5])
 (.seq (.block 2 (.loop (.seq (.seq (.dregion [⟨mv 14 5,0,12⟩,⟨bi 15 .gtr 14 0,0,12⟩,⟨mv 16 15,0,12⟩,⟨⟨(some 17),(.p (.mov (.tmp 3))),(some (16,true))⟩,0,12⟩,⟨⟨(some 18),(.p (.mov (.tmp 5))),(some (16,true))⟩,0,12⟩,⟨⟨(some 19),(.p (.bin .sub (.tmp 18) (.val (.int .i64 (.ofNat 1))))),(some (16,true))⟩,0,12⟩,⟨⟨(some 20),(.p (.iaddr 1 (.tmp 17) (.tmp 19))),(some (16,true))⟩,0,12⟩,⟨⟨(some 21),(.load1 (.tmp 20)),(some (16,true))⟩,0,12⟩,⟨⟨(some 22),(.p (.mov (.tmp 0))),(some (16,true))⟩,0,12⟩,⟨⟨(some 23),(.p (.mov (.tmp 4))),(some (16,true))⟩,0,12⟩,⟨⟨(some 24),(.p (.iaddr 1 (.tmp 22) (.tmp 23))),(some (16,true))⟩,0,12⟩,⟨⟨(some 25),(.load1 (.tmp 24)),(some (16,true))⟩,0,12⟩,⟨⟨(some 26),(.e (.call (F 47) [(.tmp 21),(.tmp 25)])),(some (16,true))⟩,0,15⟩,⟨⟨(some 27),(.p (.bin .gtr (.tmp 26) (.val (.int .i64 (.ofNat 0))))),(some (16,true))⟩,13,15⟩,⟨⟨(some 28),(.p (.pick (.tmp 16) (.tmp 27) (.val (.bool false)))),none⟩,13,15⟩] [0,3,4,5,28])
 (.cond (.tmp 28) (.skip)
 (.exit 2)))
 (.block 3 (.region [mv 29 5,bi 30 .sub 29 1,mv 5 30] [] [0,3,4,5])))))
 (.dregion [⟨⟨(some 31),(.a (.bslice [] 1 0 [])),none⟩,0,4⟩,⟨mv 32 3,0,4⟩,⟨mv 33 5,0,4⟩,⟨⟨(some 34),(.p (.slc 1 (.tmp 32) none (some (.tmp 33)) none)),none⟩,0,4⟩,⟨⟨(some 35),(.e (.append 1 24 (.tmp 31) (.tmp 34))),none⟩,0,10⟩,⟨mv 36 0,0,10⟩,⟨mv 37 4,0,10⟩,⟨ix 38 1 36 37,0,10⟩,⟨l1 39 38,0,10⟩,⟨⟨(some 40),(.a (.bslice [.nilslice] 1 1 [(0,1,(.tmp 39))])),none⟩,0,10⟩,⟨⟨(some 41),(.e (.append 1 24 (.tmp 35) (.tmp 40))),none⟩,5,14⟩,⟨mv 42 3,0,14⟩,⟨mv 43 5,0,14⟩,⟨⟨(some 44),(.p (.slc 1 (.tmp 42) (some (.tmp 43)) none none)),none⟩,0,14⟩,⟨⟨(some 45),(.e (.append 1 24 (.tmp 41) (.tmp 44))),none⟩,11,16⟩,⟨mv 3 45,15,16⟩] [0,3,4]))))
 (.region [mv 10 4,bi 11 .add 10 1,mv 4 11] [] [0,3,4]))))))
 (.seq (.region [mv 46 3,mv 2 46] [] [2])
 (.ret))))
def M53 (F : Nat → Nat) : Fun := ⟨47,1,(K53 F).erase,[.tmp 2]⟩
abbrev K54 (F : Nat → Nat) : KC := .seq (.region [⟨(some 4),(.p (.mov (.val (.nilslice)))),none⟩] [] [0,1])
 (.seq (.region [⟨(some 5),(.p (.mov (.val (.nilslice)))),none⟩] [] [0,1,5])
 (.seq (.seq (.region [mi 6 0] [] [0,1,5,6])
 (.block 0 (.loop (.seq (.seq (.region [mv 9 6,mv 10 0,lb 11 10,bt 12 .lss 9 11] [] [0,1,5,6,12])
 (.cond (.tmp 12) (.skip)
 (.exit 0)))
 (.seq (.block 1 (.seq (.region [⟨(some 7),(.p (.mov (.val (.nilslice)))),none⟩] [] [0,1,5,6,7])
 (.seq (.seq (.region [mi 8 0] [] [0,1,5,6,7,8])
 (.block 2 (.loop (.seq (.seq (.region [mv 15 8,mv 16 1,lb 17 16,bt 18 .lss 15 17] [] [0,1,5,6,7,8,18])
 (.cond (.tmp 18) (.skip)
 (.exit 2)))
 (.seq (.block 3 (.dregion [⟨mv 21 7,0,12⟩,⟨mv 22 0,0,12⟩,⟨mv 23 6,0,12⟩,⟨ix 24 1 22 23,0,12⟩,⟨l1 25 24,0,12⟩,⟨mv 26 1,0,12⟩,⟨mv 27 8,0,12⟩,⟨ix 28 1 26 27,0,12⟩,⟨l1 29 28,0,12⟩,⟨ix 30 4 25 29,0,12⟩,⟨ln 31 4 30,0,12⟩,⟨⟨(some 32),(.a (.bslice [.bool false,.int .i64 (.ofNat 0),.int .i64 (.ofNat 0),.nilslice] 4 1 [(0,4,(.tmp 31))])),none⟩,0,12⟩,⟨⟨(some 33),(.e (.append 4 48 (.tmp 21) (.tmp 32))),none⟩,0,14⟩,⟨mv 7 33,13,14⟩] [0,1,5,6,7,8]))
 (.region [mv 19 8,bi 20 .add 19 1,mv 8 20] [] [0,1,5,6,7,8]))))))
 (.region [mv 34 5,mv 35 7,⟨(some 36),(.a (.bslice [.nilslice] 1 1 [(0,1,(.tmp 35))])),none⟩,⟨(some 37),(.e (.append 1 24 (.tmp 34) (.tmp 36))),none⟩,mv 5 37] [36] [0,1,5,6]))))
 (.region [mv 13 6,bi 14 .add 13 1,mv 6 14] [] [0,1,5,6]))))))
 (.seq (.region [mv 38 5,⟨(some 39),(.e (.call (F 53) [(.tmp 38)])),none⟩,mv 4 39] [] [4])
 (.ret))))
def M54 (F : Nat → Nat) : Fun := ⟨40,2,(K54 F).erase,[.tmp 4]⟩
abbrev K55 (F : Nat → Nat) : KC := .seq (.region [⟨(some 6),(.p (.mov (.val (.nilslice)))),none⟩,⟨(some 7),(.p (.mov (.val (.bool false)))),none⟩] [] [0,1,2])
 (.seq (.seq (.region [mv 16 1,bi 17 .lss 16 0] [] [0,1,2,17])
 (.cond (.tmp 17) (.seq (.region [mv 19 0,mv 20 2,⟨(some 21),(.e (.call (F 57) [(.tmp 19),(.tmp 20)])),none⟩,mv 18 21,et 22 18 0,et 23 18 1,mv 8 22,mv 9 23] [] [8,9])
 (.seq (.seq (.region [mv 24 9,⟨(some 25),(.p (.not (.tmp 24))),none⟩] [] [8,25])
 (.cond (.tmp 25) (.seq (.region [⟨(some 6),(.p (.mov (.val (.nilslice)))),none⟩,⟨(some 7),(.p (.mov (.val (.bool false)))),none⟩] [] [6,7])
 (.ret))
 (.skip)))
 (.seq (.region [mv 26 8,⟨(some 27),(.a (.bslice [.nilslice] 1 1 [(0,1,(.tmp 26))])),none⟩,mv 6 27,⟨(some 7),(.p (.mov (.val (.bool true)))),none⟩] [27] [6,7])
 (.ret))))
 (.skip)))
 (.seq (.region [⟨(some 10),(.p (.mov (.val (.nilslice)))),none⟩] [] [0,1,2,10])
 (.seq (.region [mv 28 0,mv 29 1,⟨(some 30),(.e (.call (F 58) [(.tmp 28),(.tmp 29)])),none⟩,⟨(some 31),(.e (.call (F 53) [(.tmp 30)])),none⟩,mv 0 31] [] [0,2,10])
 (.seq (.seq (.region [mi 11 0] [] [0,2,10,11])
 (.block 0 (.loop (.seq (.seq (.region [mv 32 11,mv 33 0,lb 34 33,bt 35 .lss 32 34] [] [0,2,10,11,35])
 (.cond (.tmp 35) (.skip)
 (.exit 0)))
 (.block 1 (.seq (.region [mv 36 11,mv 12 36] [] [0,2,10,11,12])
 (.seq (.region [⟨(some 13),(.p (.mov (.val (.nilslice)))),none⟩] [] [0,2,10,11,12,13])
 (.seq (.block 2 (.loop (.seq (.seq (.dregion [⟨mv 37 12,0,17⟩,⟨mv 38 0,0,17⟩,⟨lb 39 38,0,17⟩,⟨bt 40 .lss 37 39,0,17⟩,⟨mv 41 40,0,17⟩,⟨⟨(some 42),(.p (.mov (.tmp 0))),(some (41,true))⟩,0,17⟩,⟨⟨(some 43),(.p (.mov (.tmp 12))),(some (41,true))⟩,0,17⟩,⟨⟨(some 44),(.p (.iaddr 1 (.tmp 42) (.tmp 43))),(some (41,true))⟩,0,17⟩,⟨⟨(some 45),(.load1 (.tmp 44)),(some (41,true))⟩,0,17⟩,⟨⟨(some 46),(.p (.iaddr 4 (.tmp 45) (.val (.int .i64 (.ofNat 0))))),(some (41,true))⟩,0,17⟩,⟨⟨(some 47),(.loadn 4 (.tmp 46)),(some (41,true))⟩,0,17⟩,⟨⟨(some 48),(.p (.mov (.tmp 0))),(some (41,true))⟩,0,17⟩,⟨⟨(some 49),(.p (.mov (.tmp 11))),(some (41,true))⟩,0,17⟩,⟨⟨(some 50),(.p (.iaddr 1 (.tmp 48) (.tmp 49))),(some (41,true))⟩,0,17⟩,⟨⟨(some 51),(.load1 (.tmp 50)),(some (41,true))⟩,0,17⟩,⟨⟨(some 52),(.p (.iaddr 4 (.tmp 51) (.val (.int .i64 (.ofNat 0))))),(some (41,true))⟩,0,17⟩,⟨⟨(some 53),(.loadn 4 (.tmp 52)),(some (41,true))⟩,0,17⟩,⟨⟨(some 54),(.e (.call (F 50) [(.tmp 47),(.tmp 53)])),(some (41,true))⟩,0,19⟩,⟨⟨(some 55),(.p (.pick (.tmp 41) (.tmp 54) (.val (.bool false)))),none⟩,18,19⟩] [0,2,10,11,12,13,55])
 (.cond (.tmp 55) (.skip)
 (.exit 2)))
 (.block 3 (.seq (.region [mv 56 13,mv 57 0,mv 58 12,ix 59 1 57 58,l1 60 59,⟨(some 61),(.p (.slc 4 (.tmp 60) (some (.val (.int .i64 (.ofNat 1)))) none none)),none⟩,⟨(some 62),(.a (.bslice [.nilslice] 1 1 [(0,1,(.tmp 61))])),none⟩,⟨(some 63),(.e (.append 1 24 (.tmp 56) (.tmp 62))),none⟩,mv 13 63] [62] [0,2,10,11,12,13])
 (.region [mv 64 12,bi 65 .add 64 1,mv 12 65] [] [0,2,10,11,12,13]))))))
 (.seq (.region [mv 67 13,mv 68 2,⟨(some 69),(.e (.call (F 57) [(.tmp 67),(.tmp 68)])),none⟩,mv 66 69,et 70 66 0,et 71 66 1,mv 14 70,mv 15 71] [] [0,2,10,11,12,14,15])
 (.seq (.seq (.region [mv 72 15,⟨(some 73),(.p (.not (.tmp 72))),none⟩] [] [0,2,10,11,12,14,73])
 (.cond (.tmp 73) (.seq (.region [⟨(some 6),(.p (.mov (.val (.nilslice)))),none⟩,⟨(some 7),(.p (.mov (.val (.bool false)))),none⟩] [] [6,7])
 (.ret))
 (.skip)))
 (.seq (.region [mv 74 10,mv 75 0,mv 76 11,ix 77 1 75 76,l1 78 77,⟨(some 79),(.p (.iaddr 4 (.tmp 78) (.val (.int .i64 (.ofNat 0))))),none⟩,ln 80 4 79,⟨(some 81),(.a (.bslice [.bool false,.int .i64 (.ofNat 0),.int .i64 (.ofNat 0),.nilslice] 4 1 [(0,4,(.tmp 80))])),none⟩,mv 82 14,⟨(some 83),(.e (.append 4 48 (.tmp 81) (.tmp 82))),none⟩,⟨(some 84),(.a (.bslice [.nilslice] 1 1 [(0,1,(.tmp 83))])),none⟩,⟨(some 85),(.e (.append 1 24 (.tmp 74) (.tmp 84))),none⟩,mv 10 85] [84] [0,2,10,12])
 (.region [mv 86 12,mv 11 86] [] [0,2,10,11]))))))))))))
 (.seq (.region [mv 87 10,mv 6 87,⟨(some 7),(.p (.mov (.val (.bool true)))),none⟩] [] [6,7])
 (.ret))))))
def M55 (F : Nat → Nat) : Fun := ⟨88,3,(K55 F).erase,[.tmp 6,.tmp 7]⟩
abbrev K56 (F : Nat → Nat) : KC := .seq (.region [⟨(some 4),(.p (.mov (.val (.nilslice)))),none⟩,⟨(some 5),(.p (.mov (.val (.bool false)))),none⟩] [] [0,1])
 (.seq (.region [⟨(some 11),(.a (.bslice [] 4 0 [])),none⟩,mv 12 0,⟨(some 13),(.e (.append 4 48 (.tmp 11) (.tmp 12))),none⟩,mv 6 13] [] [1,6])
 (.seq (.seq (.region [mi 7 0] [] [1,6,7])
 (.block 0 (.loop (.seq (.seq (.region [mv 14 7,mv 15 1,lb 16 15,bt 17 .lss 14 16] [] [1,6,7,17])
 (.cond (.tmp 17) (.skip)
 (.exit 0)))
 (.seq (.block 1 (.seq (.region [mv 20 6,mv 21 1,mv 22 7,ix 23 6 21 22,fa 24 0 23,l1 25 24,ix 26 4 20 25,ln 27 4 26,⟨(some 8),(.a (.new [.bool false,.int .i64 (.ofNat 0),.int .i64 (.ofNat 0),.nilslice])),none⟩,⟨none,(.e (.store 4 (.tmp 8) (.tmp 27))),none⟩] [] [1,6,7,8])
 (.block 2 (.seq (.region [mv 29 1,mv 30 7,ix 31 6 29 30,fa 32 1 31,l1 33 32,⟨(some 34),(.p (.not (.tmp 33))),none⟩,mv 28 34] [] [1,6,7,8,28])
 (.cond (.tmp 28) (.dregion [⟨mv 35 6,0,12⟩,⟨mv 36 1,0,12⟩,⟨mv 37 7,0,12⟩,⟨ix 38 6 36 37,0,12⟩,⟨fa 39 0 38,0,12⟩,⟨l1 40 39,0,12⟩,⟨mv 41 1,0,12⟩,⟨mv 42 7,0,12⟩,⟨ix 43 6 41 42,0,12⟩,⟨fa 44 2 43,0,12⟩,⟨ln 45 4 44,0,12⟩,⟨ix 46 4 35 40,0,12⟩,⟨⟨none,(.e (.store 4 (.tmp 46) (.tmp 45))),none⟩,0,13⟩] [1,6,7])
 (.seq (.region [fa 48 0 8,l1 49 48,⟨(some 50),(.p (.not (.tmp 49))),none⟩,mv 47 50] [] [1,6,7,8,47])
 (.cond (.tmp 47) (.seq (.dregion [⟨ln 52 4 8,0,7⟩,⟨mv 53 1,0,7⟩,⟨mv 54 7,0,7⟩,⟨ix 55 6 53 54,0,7⟩,⟨fa 56 2 55,0,7⟩,⟨ln 57 4 56,0,7⟩,⟨⟨(some 58),(.a (.bslice [.bool false,.int .i64 (.ofNat 0),.int .i64 (.ofNat 0),.nilslice,.bool false,.int .i64 (.ofNat 0),.int .i64 (.ofNat 0),.nilslice] 4 2 [(0,4,(.tmp 52)),(4,4,(.tmp 57))])),none⟩,0,7⟩,⟨⟨(some 59),(.e (.call (F 59) [(.tmp 58)])),none⟩,0,13⟩,⟨mv 51 59,8,13⟩,⟨et 60 51 0,8,13⟩,⟨et 61 51 1,8,13⟩,⟨mv 9 60,8,13⟩,⟨mv 10 61,8,13⟩] [1,6,7,8,9,10])
 (.seq (.seq (.region [mv 62 10,⟨(some 63),(.p (.not (.tmp 62))),none⟩] [] [1,6,7,8,9,63])
 (.cond (.tmp 63) (.seq (.region [⟨(some 4),(.p (.mov (.val (.nilslice)))),none⟩,⟨(some 5),(.p (.mov (.val (.bool false)))),none⟩] [] [4,5])
 (.ret))
 (.skip)))
 (.seq (.region [mv 64 9,fa 65 2 8,⟨none,(.e (.store 1 (.tmp 65) (.tmp 64))),none⟩] [] [1,6,7,8])
 (.dregion [⟨mv 66 6,0,8⟩,⟨mv 67 1,0,8⟩,⟨mv 68 7,0,8⟩,⟨ix 69 6 67 68,0,8⟩,⟨fa 70 0 69,0,8⟩,⟨l1 71 70,0,8⟩,⟨ln 72 4 8,0,8⟩,⟨ix 73 4 66 71,0,8⟩,⟨⟨none,(.e (.store 4 (.tmp 73) (.tmp 72))),none⟩,0,9⟩] [1,6,7]))))
 (.skip))))))))
 (.region [mv 18 7,bi 19 .add 18 1,mv 7 19] [] [1,6,7]))))))
 (.seq (.region [mv 74 6,mv 4 74,⟨(some 5),(.p (.mov (.val (.bool true)))),none⟩] [] [4,5])
 (.ret))))
def M56 (F : Nat → Nat) : Fun := ⟨75,2,(K56 F).erase,[.tmp 4,.tmp 5]⟩
abbrev K57 (F : Nat → Nat) : KC := .seq (.region [⟨(some 4),(.p (.mov (.val (.nilslice)))),none⟩,⟨(some 5),(.p (.mov (.val (.bool false)))),none⟩] [] [0,1])
 (.seq (.region [⟨(some 6),(.p (.mov (.val (.nilslice)))),none⟩] [] [0,1,6])
 (.seq (.seq (.region [mi 7 0] [] [0,1,6,7])
 (.block 0 (.loop (.seq (.seq (.region [mv 10 7,mv 11 1,lb 12 11,bt 13 .lss 10 12] [] [0,1,6,7,13])
 (.cond (.tmp 13) (.skip)
 (.exit 0)))
 (.seq (.block 1 (.seq (.region [mv 17 0,mv 18 1,mv 19 7,ix 20 2 18 19,ln 21 2 20,⟨(some 22),(.e (.call (F 60) [(.tmp 17),(.tmp 21)])),none⟩,mv 16 22,et 23 16 0,et 24 16 1,⟨(some 8),(.a (.new [.bool false,.int .i64 (.ofNat 0),.int .i64 (.ofNat 0),.nilslice])),none⟩,⟨none,(.e (.store 4 (.tmp 8) (.tmp 23))),none⟩,mv 9 24] [] [0,1,6,7,8,9])
 (.seq (.seq (.region [mv 25 9,⟨(some 26),(.p (.not (.tmp 25))),none⟩] [] [0,1,6,7,8,26])
 (.cond (.tmp 26) (.seq (.region [⟨(some 4),(.p (.mov (.val (.nilslice)))),none⟩,⟨(some 5),(.p (.mov (.val (.bool false)))),none⟩] [] [4,5])
 (.ret))
 (.skip)))
 (.region [mv 27 6,ln 28 4 8,⟨(some 29),(.a (.bslice [.bool false,.int .i64 (.ofNat 0),.int .i64 (.ofNat 0),.nilslice] 4 1 [(0,4,(.tmp 28))])),none⟩,⟨(some 30),(.e (.append 4 48 (.tmp 27) (.tmp 29))),none⟩,mv 6 30] [29] [0,1,6,7]))))
 (.region [mv 14 7,bi 15 .add 14 1,mv 7 15] [] [0,1,6,7]))))))
 (.seq (.region [mv 31 6,mv 4 31,⟨(some 5),(.p (.mov (.val (.bool true)))),none⟩] [] [4,5])
 (.ret))))
def M57 (F : Nat → Nat) : Fun := ⟨32,2,(K57 F).erase,[.tmp 4,.tmp 5]⟩
abbrev K58 (_F : Nat → Nat) : KC := .seq (.region [⟨(some 4),(.p (.mov (.val (.nilslice)))),none⟩] [] [0,1])
 (.seq (.region [⟨(some 5),(.p (.mov (.val (.nilslice)))),none⟩] [] [0,1,5])
 (.seq (.seq (.region [mi 6 0] [] [0,1,5,6])
 (.block 0 (.loop (.seq (.seq (.region [mv 7 6,mv 8 0,lb 9 8,bt 10 .lss 7 9] [] [0,1,5,6,10])
 (.cond (.tmp 10) (.skip)
 (.exit 0)))
 (.seq (.block 1 (.dregion [⟨mv 14 0,0,12⟩,⟨mv 15 6,0,12⟩,⟨ix 16 1 14 15,0,12⟩,⟨l1 17 16,0,12⟩,⟨mv 18 1,0,12⟩,⟨ix 19 4 17 18,0,12⟩,⟨ln 20 4 19,0,12⟩,⟨⟨(some 21),(.a (.bslice [.bool false,.int .i64 (.ofNat 0),.int .i64 (.ofNat 0),.nilslice] 4 1 [(0,4,(.tmp 20))])),none⟩,0,12⟩,⟨mv 22 0,0,12⟩,⟨mv 23 6,0,12⟩,⟨ix 24 1 22 23,0,12⟩,⟨l1 25 24,0,12⟩,⟨⟨(some 26),(.e (.append 4 48 (.tmp 21) (.tmp 25))),none⟩,0,15⟩,⟨mv 13 5,0,15⟩,⟨⟨(some 27),(.a (.bslice [.nilslice] 1 1 [(0,1,(.tmp 26))])),none⟩,13,15⟩,⟨⟨(some 28),(.e (.append 1 24 (.tmp 13) (.tmp 27))),none⟩,13,17⟩,⟨mv 5 28,16,17⟩] [0,1,5,6]))
 (.region [mv 11 6,bi 12 .add 11 1,mv 6 12] [] [0,1,5,6]))))))
 (.seq (.region [mv 29 5,mv 4 29] [] [4])
 (.ret))))
def M58 (F : Nat → Nat) : Fun := ⟨30,2,(K58 F).erase,[.tmp 4]⟩
abbrev K59 (_F : Nat → Nat) : KC := .seq (.region [mi 2 0,⟨(some 3),(.p (.mov (.val (.bool false)))),none⟩] [] [0])
 (.seq (.region [mi 4 0,⟨(some 5),(.p (.mov (.val (.int .u64 (.ofNat 0))))),none⟩] [] [0,4,5])
 (.seq (.seq (.region [mi 6 0] [] [0,4,5,6])
 (.block 0 (.loop (.seq (.seq (.region [mv 9 6,mv 10 0,lb 11 10,bt 12 .lss 9 11] [] [0,4,5,6,12])
 (.cond (.tmp 12) (.skip)
 (.exit 0)))
 (.seq (.block 1 (.seq (.seq (.region [mv 15 0,mv 16 6,ix 17 4 15 16,fa 18 0 17,l1 19 18] [] [0,4,5,6,19])
 (.cond (.tmp 19) (.exit 1)
 (.skip)))
 (.seq (.region [mv 20 0,mv 21 6,ix 22 4 20 21,fa 23 2 22,l1 24 23,⟨(some 25),(.p (.conv (.int .u64) (.tmp 24))),none⟩,mv 7 25] [] [0,4,5,6,7])
 (.seq (.region [mv 26 5,mv 8 26] [] [0,4,5,6,7,8])
 (.seq (.region [mv 27 5,mv 28 7,bt 29 .add 27 28,mv 5 29] [] [0,4,5,6,8])
 (.seq (.seq (.region [mv 30 5,mv 31 8,bt 32 .lss 30 31] [] [0,4,5,6,32])
 (.cond (.tmp 32) (.region [mv 33 4,bi 34 .add 33 1,mv 4 34] [] [0,4,5,6])
 (.skip)))
 (.seq (.region [mv 35 0,mv 36 6,ix 37 4 35 36,fa 38 2 37,l1 39 38,bi 40 .lss 39 0] [] [0,4,5,6,40])
 (.cond (.tmp 40) (.region [mv 41 4,bi 42 .sub 41 1,mv 4 42] [] [0,4,5,6])
 (.skip)))))))))
 (.region [mv 13 6,bi 14 .add 13 1,mv 6 14] [] [0,4,5,6]))))))
 (.seq (.region [mv 43 5,⟨(some 44),(.p (.conv (.int .i64) (.tmp 43))),none⟩,mv 45 4,bi 46 .eql 45 0,mv 47 46,⟨(some 48),(.p (.mov (.tmp 5))),(some (47,true))⟩,⟨(some 49),(.p (.bin .lss (.tmp 48) (.val (.int .u64 (.ofNat 9223372036854775808))))),(some (47,true))⟩,⟨(some 50),(.p (.pick (.tmp 47) (.tmp 49) (.val (.bool false)))),none⟩,mv 51 50,⟨(some 52),(.p (.mov (.tmp 4))),(some (51,false))⟩,⟨(some 53),(.p (.bin .eql (.tmp 52) (.val (.int .i64 (.negSucc 0))))),(some (51,false))⟩,⟨(some 54),(.p (.mov (.tmp 53))),(some (51,false))⟩,⟨(some 55),(.p (.mov (.tmp 5))),(some (54,true))⟩,⟨(some 56),(.p (.bin .geq (.tmp 55) (.val (.int .u64 (.ofNat 9223372036854775808))))),(some (54,true))⟩,⟨(some 57),(.p (.pick (.tmp 54) (.tmp 56) (.val (.bool false)))),(some (51,false))⟩,⟨(some 58),(.p (.pick (.tmp 51) (.val (.bool true)) (.tmp 57))),none⟩,mv 2 44,mv 3 58] [] [2,3])
 (.ret))))
def M59 (F : Nat → Nat) : Fun := ⟨59,1,(K59 F).erase,[.tmp 2,.tmp 3]⟩
abbrev K60 (F : Nat → Nat) : KC := .seq (.region [⟨(some 3),(.a (.box (.tmp 1))),none⟩,⟨(some 4),(.a (.new [.bool false,.int .i64 (.ofNat 0),.int .i64 (.ofNat 0),.nilslice])),none⟩,⟨(some 5),(.p (.mov (.val (.bool false)))),none⟩] [3] [0,3,4])
 (.seq (.region [⟨(some 6),(.p (.mov (.val (.nilslice)))),none⟩] [] [0,3,4,6])
 (.seq (.region [⟨(some 14),(.p (.build [.bool false,.int .i64 (.ofNat 0),.int .i64 (.ofNat 0),.nilslice] [(0,1,(.val (.bool true)))])),none⟩,⟨(some 7),(.a (.new [.bool false,.int .i64 (.ofNat 0),.int .i64 (.ofNat 0),.nilslice])),none⟩,⟨none,(.e (.store 4 (.tmp 7) (.tmp 14))),none⟩] [] [0,3,4,6,7])
 (.seq (.seq (.region [mi 8 0] [] [0,3,4,6,7,8])
 (.block 0 (.loop (.seq (.seq (.region [mv 15 8,mv 16 0,lb 17 16,bt 18 .lss 15 17] [] [0,3,4,6,7,8,18])
 (.cond (.tmp 18) (.skip)
 (.exit 0)))
 (.seq (.block 1 (.seq (.dregion [⟨mv 21 0,0,9⟩,⟨mv 22 8,0,9⟩,⟨ix 23 1 21 22,0,9⟩,⟨l1 24 23,0,9⟩,⟨fa 25 1 3,0,9⟩,⟨l1 26 25,0,9⟩,⟨ix 27 4 24 26,0,9⟩,⟨ln 28 4 27,0,9⟩,⟨⟨(some 9),(.a (.new [.bool false,.int .i64 (.ofNat 0),.int .i64 (.ofNat 0),.nilslice])),none⟩,0,9⟩,⟨⟨none,(.e (.store 4 (.tmp 9) (.tmp 28))),none⟩,0,10⟩] [0,3,4,6,7,8,9])
 (.seq (.region [mv 29 6,ln 30 4 9,⟨(some 31),(.a (.bslice [.bool false,.int .i64 (.ofNat 0),.int .i64 (.ofNat 0),.nilslice] 4 1 [(0,4,(.tmp 30))])),none⟩,⟨(some 32),(.e (.append 4 48 (.tmp 29) (.tmp 31))),none⟩,mv 6 32] [31] [0,3,4,6,7,8,9])
 (.region [fa 33 1 9,l1 34 33,fa 35 1 7,⟨none,(.e (.store 1 (.tmp 35) (.tmp 34))),none⟩] [] [0,3,4,6,7,8]))))
 (.region [mv 19 8,bi 20 .add 19 1,mv 8 20] [] [0,3,4,6,7,8]))))))
 (.seq (.seq (.region [fa 36 0 3,l1 37 36] [] [0,3,4,6,7,37])
 (.block 2 (.seq (.region [bi 39 .eql 37 1,mv 38 39] [] [0,3,4,6,7,37,38])
 (.cond (.tmp 38) (.seq (.region [mv 40 0,lb 41 40,⟨(some 42),(.p (.build [.bool false,.int .i64 (.ofNat 0),.int .i64 (.ofNat 0),.nilslice] [(1,1,(.val (.int .i64 (.ofNat 1)))),(2,1,(.tmp 41))])),none⟩,⟨none,(.e (.store 4 (.tmp 4) (.tmp 42))),none⟩,⟨(some 5),(.p (.mov (.val (.bool true)))),none⟩] [] [4,5])
 (.ret))
 (.seq (.region [bi 44 .eql 37 2,mv 43 44] [] [3,4,6,7,43])
 (.cond (.tmp 43) (.seq (.region [mv 46 6,⟨(some 47),(.e (.call (F 59) [(.tmp 46)])),none⟩,mv 45 47,et 48 45 0,et 49 45 1,mv 10 48,mv 11 49] [] [4,10,11])
 (.seq (.region [mv 50 10,⟨(some 51),(.p (.build [.bool false,.int .i64 (.ofNat 0),.int .i64 (.ofNat 0),.nilslice] [(1,1,(.val (.int .i64 (.ofNat 1)))),(2,1,(.tmp 50))])),none⟩,mv 52 11,⟨none,(.e (.store 4 (.tmp 4) (.tmp 51))),none⟩,mv 5 52] [] [4,5])
 (.ret)))
 (.skip)))))))
 (.seq (.seq (.region [mi 12 0] [] [3,4,6,7,12])
 (.block 3 (.loop (.seq (.seq (.region [mv 53 12,mv 54 6,lb 55 54,bt 56 .lss 53 55] [] [3,4,6,7,12,56])
 (.cond (.tmp 56) (.skip)
 (.exit 3)))
 (.seq (.block 4 (.seq (.dregion [⟨mv 59 6,0,5⟩,⟨mv 60 12,0,5⟩,⟨ix 61 4 59 60,0,5⟩,⟨ln 62 4 61,0,5⟩,⟨ln 63 4 7,0,5⟩,⟨⟨(some 64),(.e (.call (F 46) [(.tmp 62),(.tmp 63)])),none⟩,0,7⟩,⟨mv 13 64,6,7⟩] [3,4,6,7,12,13])
 (.seq (.region [mv 65 6,mv 66 12,ix 67 4 65 66,fa 68 0 67,l1 69 68,⟨(some 70),(.p (.not (.tmp 69))),none⟩,mv 71 70,⟨(some 72),(.p (.faddr 0 (.tmp 7))),(some (71,true))⟩,⟨(some 73),(.load1 (.tmp 72)),(some (71,true))⟩,⟨(some 74),(.p (.mov (.tmp 73))),(some (71,true))⟩,⟨(some 75),(.p (.faddr 0 (.tmp 3))),(some (74,false))⟩,⟨(some 76),(.load1 (.tmp 75)),(some (74,false))⟩,⟨(some 77),(.p (.bin .eql (.tmp 76) (.val (.int .i64 (.ofNat 3))))),(some (74,false))⟩,⟨(some 78),(.p (.mov (.tmp 77))),(some (74,false))⟩,⟨(some 79),(.p (.mov (.tmp 13))),(some (78,true))⟩,⟨(some 80),(.p (.bin .lss (.tmp 79) (.val (.int .i64 (.ofNat 0))))),(some (78,true))⟩,⟨(some 81),(.p (.pick (.tmp 78) (.tmp 80) (.val (.bool false)))),(some (74,false))⟩,⟨(some 82),(.p (.pick (.tmp 74) (.val (.bool true)) (.tmp 81))),(some (71,true))⟩,⟨(some 83),(.p (.mov (.tmp 82))),(some (71,true))⟩,⟨(some 84),(.p (.faddr 0 (.tmp 3))),(some (83,false))⟩,⟨(some 85),(.load1 (.tmp 84)),(some (83,false))⟩,⟨(some 86),(.p (.bin .eql (.tmp 85) (.val (.int .i64 (.ofNat 4))))),(some (83,false))⟩,⟨(some 87),(.p (.mov (.tmp 86))),(some (83,false))⟩,⟨(some 88),(.p (.mov (.tmp 13))),(some (87,true))⟩,⟨(some 89),(.p (.bin .gtr (.tmp 88) (.val (.int .i64 (.ofNat 0))))),(some (87,true))⟩,⟨(some 90),(.p (.pick (.tmp 87) (.tmp 89) (.val (.bool false)))),(some (83,false))⟩,⟨(some 91),(.p (.pick (.tmp 83) (.val (.bool true)) (.tmp 90))),(some (71,true))⟩,⟨(some 92),(.p (.pick (.tmp 71) (.tmp 91) (.val (.bool false)))),none⟩] [] [3,4,6,7,12,92])
 (.cond (.tmp 92) (.region [mv 93 6,mv 94 12,ix 95 4 93 94,ln 96 4 95,⟨none,(.e (.store 4 (.tmp 7) (.tmp 96))),none⟩] [] [3,4,6,7,12])
 (.skip)))))
 (.region [mv 57 12,bi 58 .add 57 1,mv 12 58] [] [3,4,6,7,12]))))))
 (.seq (.region [ln 97 4 7,⟨none,(.e (.store 4 (.tmp 4) (.tmp 97))),none⟩,⟨(some 5),(.p (.mov (.val (.bool true)))),none⟩] [] [4,5])
 (.ret)))))))
def M60 (F : Nat → Nat) : Fun := ⟨98,2,(K60 F).erase,[.celln 4 4,.tmp 5]⟩
end Go.Lib
end

section
namespace Go.Lib
open Go.Vm Go.Dv
set_option maxRecDepth 100000
abbrev K46 (_F : Nat → Nat) : KC := .seq (.region [⟨(some 2),(.a (.box (.tmp 0))),none⟩,⟨(some 3),(.a (.box (.tmp 1))),none⟩,mi 4 0] [2,3] [2,3])
 (.seq (.block 0 (.seq (.region [fa 6 0 2,l1 7 6,mv 8 7,⟨(some 9),(.p (.faddr 0 (.tmp 3))),(some (8,false))⟩,⟨(some 10),(.load1 (.tmp 9)),(some (8,false))⟩,⟨(some 11),(.p (.pick (.tmp 8) (.val (.bool true)) (.tmp 10))),none⟩,mv 5 11] [] [2,3,5])
 (.cond (.tmp 5) (.seq (.seq (.region [fa 12 0 2,l1 13 12,fa 14 0 3,l1 15 14,⟨(some 16),(.p (.eq .bool false (.tmp 13) (.tmp 15))),none⟩] [] [2,16])
 (.cond (.tmp 16) (.seq (.region [mi 4 0] [] [4])
 (.ret))
 (.skip)))
 (.seq (.seq (.region [fa 17 0 2,l1 18 17] [] [18])
 (.cond (.tmp 18) (.seq (.region [⟨(some 4),(.p (.mov (.val (.int .i64 (.negSucc 0))))),none⟩] [] [4])
 (.ret))
 (.skip)))
 (.seq (.region [mi 4 1] [] [4])
 (.ret))))
 (.seq (.region [fa 20 1 2,l1 21 20,bi 22 .eql 21 1,mv 23 22,⟨(some 24),(.p (.faddr 2 (.tmp 2))),(some (23,true))⟩,⟨(some 25),(.load1 (.tmp 24)),(some (23,true))⟩,⟨(some 26),(.p (.faddr 2 (.tmp 3))),(some (23,true))⟩,⟨(some 27),(.load1 (.tmp 26)),(some (23,true))⟩,⟨(some 28),(.p (.bin .neq (.tmp 25) (.tmp 27))),(some (23,true))⟩,⟨(some 29),(.p (.pick (.tmp 23) (.tmp 28) (.val (.bool false)))),none⟩,mv 19 29] [] [2,3,19])
 (.cond (.tmp 19) (.seq (.seq (.region [fa 30 2 2,l1 31 30,fa 32 2 3,l1 33 32,bt 34 .lss 31 33] [] [34])
 (.cond (.tmp 34) (.seq (.region [⟨(some 4),(.p (.mov (.val (.int .i64 (.negSucc 0))))),none⟩] [] [4])
 (.ret))
 (.skip)))
 (.seq (.region [mi 4 1] [] [4])
 (.ret)))
 (.seq (.region [fa 36 1 2,l1 37 36,bi 38 .eql 37 2,mv 39 38,⟨(some 40),(.p (.faddr 3 (.tmp 2))),(some (39,true))⟩,⟨(some 41),(.load1 (.tmp 40)),(some (39,true))⟩,⟨(some 42),(.e (.text (.tmp 41))),(some (39,true))⟩,⟨(some 43),(.p (.faddr 3 (.tmp 3))),(some (39,true))⟩,⟨(some 44),(.load1 (.tmp 43)),(some (39,true))⟩,⟨(some 45),(.e (.text (.tmp 44))),(some (39,true))⟩,⟨(some 46),(.p (.bin .neq (.tmp 42) (.tmp 45))),(some (39,true))⟩,⟨(some 47),(.p (.pick (.tmp 39) (.tmp 46) (.val (.bool false)))),none⟩,mv 35 47] [] [2,3,35])
 (.cond (.tmp 35) (.seq (.seq (.region [fa 48 3 2,l1 49 48,⟨(some 50),(.e (.text (.tmp 49))),none⟩,fa 51 3 3,l1 52 51,⟨(some 53),(.e (.text (.tmp 52))),none⟩,bt 54 .lss 50 53] [] [54])
 (.cond (.tmp 54) (.seq (.region [⟨(some 4),(.p (.mov (.val (.int .i64 (.negSucc 0))))),none⟩] [] [4])
 (.ret))
 (.skip)))
 (.seq (.region [mi 4 1] [] [4])
 (.ret)))
 (.skip))))))))
 (.seq (.region [mi 4 0] [] [4])
 (.ret)))
def M46 (F : Nat → Nat) : Fun := ⟨55,2,(K46 F).erase,[.tmp 4]⟩
abbrev K47 (F : Nat → Nat) : KC := .seq (.region [mi 4 0] [] [0,1])
 (.seq (.seq (.region [mi 5 0] [] [0,1,5])
 (.block 0 (.loop (.seq (.seq (.region [mv 7 5,mv 8 0,lb 9 8,bt 10 .lss 7 9,mv 11 10,⟨(some 12),(.p (.mov (.tmp 5))),(some (11,true))⟩,⟨(some 13),(.p (.mov (.tmp 1))),(some (11,true))⟩,⟨(some 14),(.p (.lenb (.tmp 13))),(some (11,true))⟩,⟨(some 15),(.p (.bin .lss (.tmp 12) (.tmp 14))),(some (11,true))⟩,⟨(some 16),(.p (.pick (.tmp 11) (.tmp 15) (.val (.bool false)))),none⟩] [] [0,1,5,16])
 (.cond (.tmp 16) (.skip)
 (.exit 0)))
 (.seq (.block 1 (.seq (.dregion [⟨mv 19 0,0,8⟩,⟨mv 20 5,0,8⟩,⟨ix 21 4 19 20,0,8⟩,⟨ln 22 4 21,0,8⟩,⟨mv 23 1,0,8⟩,⟨mv 24 5,0,8⟩,⟨ix 25 4 23 24,0,8⟩,⟨ln 26 4 25,0,8⟩,⟨⟨(some 27),(.e (.call (F 46) [(.tmp 22),(.tmp 26)])),none⟩,0,10⟩,⟨mv 6 27,9,10⟩] [0,1,5,6])
 (.seq (.region [mv 28 6,bi 29 .neq 28 0] [] [0,1,5,6,29])
 (.cond (.tmp 29) (.seq (.region [mv 30 6,mv 4 30] [] [4])
 (.ret))
 (.skip)))))
 (.region [mv 17 5,bi 18 .add 17 1,mv 5 18] [] [0,1,5]))))))
 (.seq (.region [mv 31 0,lb 32 31,mv 33 1,lb 34 33,bt 35 .sub 32 34,⟨(some 36),(.p (.max [(.tmp 35),(.val (.int .i64 (.negSucc 0)))])),none⟩,⟨(some 37),(.p (.min [(.tmp 36),(.val (.int .i64 (.ofNat 1)))])),none⟩,mv 4 37] [] [4])
 (.ret)))
def M47 (F : Nat → Nat) : Fun := ⟨38,2,(K47 F).erase,[.tmp 4]⟩
abbrev K48 (F : Nat → Nat) : KC := .seq (.region [⟨(some 4),(.p (.mov (.val (.bool false)))),none⟩] [] [0,1])
 (.seq (.seq (.region [mv 6 0,lb 7 6,mv 8 1,lb 9 8,bt 10 .neq 7 9] [] [0,1,10])
 (.cond (.tmp 10) (.seq (.region [⟨(some 4),(.p (.mov (.val (.bool false)))),none⟩] [] [4])
 (.ret))
 (.skip)))
 (.seq (.seq (.region [mi 5 0] [] [0,1,5])
 (.block 0 (.loop (.seq (.seq (.region [mv 11 5,mv 12 0,lb 13 12,bt 14 .lss 11 13] [] [0,1,5,14])
 (.cond (.tmp 14) (.skip)
 (.exit 0)))
 (.seq (.block 1 (.seq (.dregion [⟨mv 17 0,0,8⟩,⟨mv 18 5,0,8⟩,⟨ix 19 1 17 18,0,8⟩,⟨l1 20 19,0,8⟩,⟨mv 21 1,0,8⟩,⟨mv 22 5,0,8⟩,⟨ix 23 1 21 22,0,8⟩,⟨l1 24 23,0,8⟩,⟨⟨(some 25),(.e (.call (F 49) [(.tmp 20),(.tmp 24)])),none⟩,0,10⟩,⟨⟨(some 26),(.p (.not (.tmp 25))),none⟩,9,10⟩] [0,1,5,26])
 (.cond (.tmp 26) (.seq (.region [⟨(some 4),(.p (.mov (.val (.bool false)))),none⟩] [] [4])
 (.ret))
 (.skip))))
 (.region [mv 15 5,bi 16 .add 15 1,mv 5 16] [] [0,1,5]))))))
 (.seq (.region [⟨(some 4),(.p (.mov (.val (.bool true)))),none⟩] [] [4])
 (.ret))))
def M48 (F : Nat → Nat) : Fun := ⟨27,2,(K48 F).erase,[.tmp 4]⟩
theorem ok48 {F : Nat → Nat} : (K48 F).ok = true := rfl
abbrev K49 (F : Nat → Nat) : KC := .seq (.region [⟨(some 4),(.p (.mov (.val (.bool false)))),none⟩] [] [0,1])
 (.seq (.seq (.region [mv 6 0,lb 7 6,mv 8 1,lb 9 8,bt 10 .neq 7 9] [] [0,1,10])
 (.cond (.tmp 10) (.seq (.region [⟨(some 4),(.p (.mov (.val (.bool false)))),none⟩] [] [4])
 (.ret))
 (.skip)))
 (.seq (.seq (.region [mi 5 0] [] [0,1,5])
 (.block 0 (.loop (.seq (.seq (.region [mv 11 5,mv 12 0,lb 13 12,bt 14 .lss 11 13] [] [0,1,5,14])
 (.cond (.tmp 14) (.skip)
 (.exit 0)))
 (.seq (.block 1 (.seq (.dregion [⟨mv 17 0,0,8⟩,⟨mv 18 5,0,8⟩,⟨ix 19 4 17 18,0,8⟩,⟨ln 20 4 19,0,8⟩,⟨mv 21 1,0,8⟩,⟨mv 22 5,0,8⟩,⟨ix 23 4 21 22,0,8⟩,⟨ln 24 4 23,0,8⟩,⟨⟨(some 25),(.e (.call (F 50) [(.tmp 20),(.tmp 24)])),none⟩,0,10⟩,⟨⟨(some 26),(.p (.not (.tmp 25))),none⟩,9,10⟩] [0,1,5,26])
 (.cond (.tmp 26) (.seq (.region [⟨(some 4),(.p (.mov (.val (.bool false)))),none⟩] [] [4])
 (.ret))
 (.skip))))
 (.region [mv 15 5,bi 16 .add 15 1,mv 5 16] [] [0,1,5]))))))
 (.seq (.region [⟨(some 4),(.p (.mov (.val (.bool true)))),none⟩] [] [4])
 (.ret))))
def M49 (F : Nat → Nat) : Fun := ⟨27,2,(K49 F).erase,[.tmp 4]⟩
theorem ok49 {F : Nat → Nat} : (K49 F).ok = true := rfl
abbrev K50 (_F : Nat → Nat) : KC := .seq (.region [⟨(some 2),(.a (.box (.tmp 0))),none⟩,⟨(some 3),(.a (.box (.tmp 1))),none⟩,⟨(some 4),(.p (.mov (.val (.bool false)))),none⟩] [2,3] [2,3])
 (.seq (.region [fa 5 0 2,l1 6 5,fa 7 0 3,l1 8 7,⟨(some 9),(.p (.eq .bool false (.tmp 6) (.tmp 8))),none⟩,mv 10 9,⟨(some 11),(.p (.faddr 1 (.tmp 2))),(some (10,true))⟩,⟨(some 12),(.load1 (.tmp 11)),(some (10,true))⟩,⟨(some 13),(.p (.faddr 1 (.tmp 3))),(some (10,true))⟩,⟨(some 14),(.load1 (.tmp 13)),(some (10,true))⟩,⟨(some 15),(.p (.bin .eql (.tmp 12) (.tmp 14))),(some (10,true))⟩,⟨(some 16),(.p (.pick (.tmp 10) (.tmp 15) (.val (.bool false)))),none⟩,mv 17 16,⟨(some 18),(.p (.faddr 2 (.tmp 2))),(some (17,true))⟩,⟨(some 19),(.load1 (.tmp 18)),(some (17,true))⟩,⟨(some 20),(.p (.faddr 2 (.tmp 3))),(some (17,true))⟩,⟨(some 21),(.load1 (.tmp 20)),(some (17,true))⟩,⟨(some 22),(.p (.bin .eql (.tmp 19) (.tmp 21))),(some (17,true))⟩,⟨(some 23),(.p (.pick (.tmp 17) (.tmp 22) (.val (.bool false)))),none⟩,mv 24 23,⟨(some 25),(.p (.faddr 3 (.tmp 2))),(some (24,true))⟩,⟨(some 26),(.load1 (.tmp 25)),(some (24,true))⟩,⟨(some 27),(.e (.text (.tmp 26))),(some (24,true))⟩,⟨(some 28),(.p (.faddr 3 (.tmp 3))),(some (24,true))⟩,⟨(some 29),(.load1 (.tmp 28)),(some (24,true))⟩,⟨(some 30),(.e (.text (.tmp 29))),(some (24,true))⟩,⟨(some 31),(.p (.bin .eql (.tmp 27) (.tmp 30))),(some (24,true))⟩,⟨(some 32),(.p (.pick (.tmp 24) (.tmp 31) (.val (.bool false)))),none⟩,mv 4 32] [] [4])
 (.ret))
def M50 (F : Nat → Nat) : Fun := ⟨33,2,(K50 F).erase,[.tmp 4]⟩
theorem ok50 {F : Nat → Nat} : (K50 F).ok = true := rfl
end Go.Lib
end

section
set_option maxRecDepth 10000
namespace Go.Lib
open Go.Vm Go.Dv
variable {p : Prog} {ext : Ext} {F : Nat → Nat}
structure HSame6v (p : Prog) (ext : Ext) (F : Nat → Nat) : Prop where
  h49 : Has p ext F 49 M49
  h50 : Has p ext F 50 M50
structure HSame6 (p : Prog) (ext : Ext) (F : Nat → Nat) : Prop extends HSame6v p ext F where
  h48 : Has p ext F 48 M48
structure HRef6 (p : Prog) (ext : Ext) (F : Nat → Nat) : Prop extends HSame6 p ext F where
  h46 : Has p ext F 46 M46
  h47 : Has p ext F 47 M47
instance : Coe (HSame6 p ext F) (HSame6v p ext F) := ⟨HSame6.toHSame6v⟩
instance : Coe (HRef6 p ext F) (HSame6 p ext F) := ⟨HRef6.toHSame6⟩
end Go.Lib
end

section
set_option maxRecDepth 10000
namespace Go.Lib
open Go.Vm Go.Dv
variable {p : Prog} {ext : Ext} {F : Nat → Nat}
theorem max2_int {tab : Tab} {a b : Int} : foldD (max2V tab) [.lit (.int .i64 a), .lit (.int .i64 b)] = some (.lit (.int .i64 (max a b))) := by
  show litO (some (V.int .i64 (cond (ilt a b) b a))) = _
  rw [ilt_d]
  by_cases h : a < b
  · simp only [h, decide_true, cond_true, litO_int]; rw [Int.max_def, if_pos (by omega)]
  · simp only [h, decide_false, cond_false, litO_int]
    rw [Int.max_def]; split
    · rw [show a = b by omega]
    · rfl
theorem min2_int {tab : Tab} {a b : Int} : foldD (min2V tab) [.lit (.int .i64 a), .lit (.int .i64 b)] = some (.lit (.int .i64 (min a b))) := by
  show litO (some (V.int .i64 (cond (ilt b a) b a))) = _
  rw [ilt_d]
  by_cases h : b < a
  · simp only [h, decide_true, cond_true, litO_int]
    rw [Int.min_def, if_neg (by omega)]
  · simp only [h, decide_false, cond_false, litO_int]
    rw [Int.min_def, if_pos (by omega)]
attribute [simp] max2_int min2_int
theorem ref6_sameVal (L : HSame6v p ext F) {a b : Vl} : FnD p ext (F 50) [.agg a.c, .agg b.c] (.lit (.bool (decide (a = b)))) := by
  refine fn_of L.h50 (M := M50) rfl ok50 rfl fun H => sem_run 9000 _ ?_
  simp
  by_cases h1 : a.null = b.null
  · by_cases h2 : a.kind = b.kind
    · by_cases h3 : a.n = b.n
      · by_cases h4 : a.bytes = b.bytes
        · simp [h1, h2, h3, h4]
          refine sem_ret ?_
          simp [M50, vl_ext, h1, h2, h3, h4]
          exact .same (by simp)
        · simp [h1, h2, h3, h4]
          refine sem_ret ?_
          simp [M50, vl_ext, h4]
          exact .same (by simp)
      · simp [h1, h2, h3]
        refine sem_ret ?_
        simp [M50, vl_ext, h3]
        exact .same (by simp)
    · simp [h1, h2]
      refine sem_ret ?_
      simp [M50, vl_ext, h2]
      exact .same (by simp)
  · simp [h1]
    refine sem_ret ?_
    simp [M50, vl_ext, h1]
    exact .same (by simp)
def Same6I {α : Type} [DecidableEq α] (f : List α → D) (x y : List α) (H0 : HpD) (k : Nat) (fr : FrD) (H : HpD) : Prop :=
  ∃ i : Nat, k = x.length - i ∧ i ≤ x.length ∧ decide (x = y) = decide (x.drop i = y.drop i) ∧ fr = [(0, f x), (1, f y), (5, .lit (.int .i64 (i : Int)))] ∧ Sub H0 H
theorem ref6_sameRow (L : HSame6v p ext F) {x y : Row} (hx : x.length < 1000000) : FnD p ext (F 49) [rowD x, rowD y] (.lit (.bool (decide (x = y)))) := by
  refine fn_of L.h49 (M := M49) rfl ok49 rfl fun H => sem_run 9000 _ ?_
  simp
  by_cases hl : x.length = y.length
  · simp [hl]
    refine sem_loop (Same6I rowD x y H) ?_ (k := x.length) ⟨0, by simp, by simp, by simp, rfl, .refl⟩
    rintro k fr H' ⟨i, rfl, hi, hc, rfl, hs⟩
    refine sem_run 9000 _ ?_
    simp
    by_cases c : i < x.length
    · have c3 : i < y.length := by omega
      simp [c, c3]
      refine sem_dfn (ref6_sameVal L (a := x[i]) (b := y[i])) (by first | exact D.les_refl _ | simp) (sem_run 9000 _ ?_)
      simp
      rw [List.drop_eq_getElem_cons c, List.drop_eq_getElem_cons c3] at hc
      by_cases c4 : x[i] = y[i]
      · simp [c4]
        refine sem_ok ?_
        have hw : wr .i64 ((i : Int) + 1) = ((i + 1 : Nat) : Int) := by rw [wr_of] <;> omega
        exact ⟨_, by omega, i + 1, rfl, by omega, by rw [hc]; simp only [c4, List.cons.injEq, true_and], by rw [hw], (sB hs)⟩
      · simp [c4]
        refine sem_ret ?_
        simp
        refine sem_ret ?_
        simp [M49]
        exact .le (sB hs) (by rw [hc]; simp only [c4, List.cons.injEq, false_and, decide_false, D.le_refl]) trivial
    · simp [c]
      refine sem_exit (sem_run 9000 _ ?_)
      simp
      refine sem_ret ?_
      simp [M49]
      rw [hc, List.drop_eq_nil_of_le (by omega : x.length ≤ i), List.drop_eq_nil_of_le (by omega : y.length ≤ i)]
      exact .le (sB hs) (by simp) trivial
  · have hl' : ¬ (x.length : Int) = y.length := by omega
    have hne : ¬ x = y := fun e => hl (by rw [e])
    simp [hl']
    refine sem_ret ?_
    simp [M49]
    exact .le .refl (by simp [hne]) trivial
theorem ref6_same (L : HSame6 p ext F) {x y : List Row} (hx : Fine x) : FnD p ext (F 48) [rowsD x, rowsD y] (.lit (.bool (decide (x = y)))) := by
  refine fn_of L.h48 (M := M48) rfl ok48 rfl fun H => sem_run 9000 _ ?_
  simp
  have hx1 := hx.1
  by_cases hl : x.length = y.length
  · simp [hl]
    refine sem_loop (Same6I rowsD x y H) ?_ (k := x.length) ⟨0, by simp, by simp, by simp, rfl, .refl⟩
    rintro k fr H' ⟨i, rfl, hi, hc, rfl, hs⟩
    refine sem_run 9000 _ ?_
    simp
    by_cases c : i < x.length
    · have c3 : i < y.length := by omega
      simp [c, c3]
      refine sem_dfn (ref6_sameRow L (x := x[i]) (y := y[i]) (hx.2 _ (by simp))) (by first | exact D.les_refl _ | simp) (sem_run 9000 _ ?_)
      simp
      rw [List.drop_eq_getElem_cons c, List.drop_eq_getElem_cons c3] at hc
      by_cases c4 : x[i] = y[i]
      · simp [c4]
        refine sem_ok ?_
        have hw : wr .i64 ((i : Int) + 1) = ((i + 1 : Nat) : Int) := by rw [wr_of] <;> omega
        exact ⟨_, by omega, i + 1, rfl, by omega, by rw [hc]; simp only [c4, List.cons.injEq, true_and], by rw [hw], (sB hs)⟩
      · simp [c4]
        refine sem_ret ?_
        simp
        refine sem_ret ?_
        simp [M48]
        exact .le (sB hs) (by rw [hc]; simp only [c4, List.cons.injEq, false_and, decide_false, D.le_refl]) trivial
    · simp [c]
      refine sem_exit (sem_run 9000 _ ?_)
      simp
      refine sem_ret ?_
      simp [M48]
      rw [hc, List.drop_eq_nil_of_le (by omega : x.length ≤ i), List.drop_eq_nil_of_le (by omega : y.length ≤ i)]
      exact .le (sB hs) (by simp) trivial
  · have hl' : ¬ (x.length : Int) = y.length := by omega
    have hne : ¬ x = y := fun e => hl (by rw [e])
    simp [hl']
    refine sem_ret ?_
    simp [M48]
    exact .le .refl (by simp [hne]) trivial
end Go.Lib
end
