/-
  Texts that the claim's last one rests on, joined.
-/
import Derived.Test.YtffjinldphmhnaaGreatBTablOwnh
import Derived.Test.YtffjinldphmhnaaGreatBTablOwng
import Derived.Test.YtffjinldphmhnaaGreatBTablOwnf
import Derived.Shelf.SlIterI.Nil
import Derived.Shelf.SortM.Plain
import Derived.Shelf.SortM.SortNone
import Derived.Test.YtffjinldphmhnaaGreatBTablOwnc
import Derived.Test.YtffjinldphmhnaaGreatRows

section
set_option maxRecDepth 10000
namespace Go.Lib
open Go.Vm Go.Dv
variable {p : Prog} {ext : Ext} {F : Nat → Nat}
attribute [-simp] bin_and bin_xor
structure SchAt (H : HpD) (b : Nat) (s : Sch) : Prop where
  blk : H.blk b = .cells (schE s).flatten false
  lt : b < H.next
theorem SchAt.mono {H H' : HpD} {b : Nat} {s : Sch} (h : SchAt H b s) (hs : Sub H H') : SchAt H' b s := ⟨by rw [hs.blk _ h.lt]; exact h.blk, Nat.lt_of_lt_of_le h.lt hs.next⟩
theorem sch_get {i : Nat} {s : Sch} {y : Cl} (hy : s[i]? = some y) : ((schE s).flatten.drop (i * 3)).take 3 = y.c ∧ i * 3 + 3 ≤ (schE s).flatten.length := by
  have he : (schE s)[i]? = some y.c := by simp [schE, hy]
  refine ⟨flat_slice schE_3 he, ?_⟩
  have := (List.getElem?_eq_some_iff.1 hy).1
  rw [flatten_len schE_3, sch_len]; omega
def IxICr (H : HpD) (f : Cl → Bool) (l : List Cl) (n : Nat) (s fv : D) (w : Nat) (fr : FrD) (H' : HpD) : Prop :=
  ∃ i : Nat, w = n - i ∧ i ≤ n ∧ (∀ (j : Nat) z, j < i → l[j]? = some z → f z = false) ∧ fr = [(0, s), (1, fv), (7, .lit (.int .i64 (n : Int))), (8, .lit (.int .i64 (i : Int)))] ∧ H' = H
theorem ixC_rd (L : Has p ext F 239 M239) {g b n c : Nat} {ex : Bool} {cap : D} {f : Cl → Bool} {l : List Cl} {H : HpD} (h : SchAt H b l) (hn : n ≤ l.length) (hl : l.length < 1000000) (hf : ∀ y, FnD p ext g [.agg y.c, cap] (.lit (.bool (f y)))) : Td p ext (F 239) [.slice b 0 3 n c ex, .func g [] [cap]] H (.lit (.int .i64 (idxF f (l.take n)))) H := by
  refine td_of L (M := M239) rfl ok239 rfl (Nat.le_refl _) (fun h => h) (sem_run 9000 _ ?_)
  simp
  refine sem_loop (IxICr H f l n (.slice b 0 3 n c ex) (.func g [] [cap])) ?_ (k := n) ⟨0, by simp, by simp, by simp, rfl, rfl⟩
  rintro w fr H' ⟨i, rfl, hi, hno, rfl, rfl⟩
  have hno2 : ∀ (j : Nat) z, j < i → (l.take n)[j]? = some z → f z = false := fun j z hj hz => hno j z hj (by rw [List.getElem?_take] at hz; split at hz; exact hz; cases hz)
  by_cases c : i < n
  · obtain ⟨y, hy⟩ : ∃ y, l[i]? = some y := ⟨_, List.getElem?_eq_getElem (by omega)⟩
    obtain ⟨e1, e2⟩ := sch_get hy
    refine sem_run 9000 _ ?_
    simp
    simp [c, h.blk, e1, e2, -List.length_flatten]
    refine sf (hf y) ?_
    cases e : f y with
    | true =>
      simp
      refine sem_ret ?_
      simp [M239]
      refine sem_ret ?_
      simp
      rw [idxF_at hno2 (by rw [List.getElem?_take, if_pos c]; exact hy) e]
      exact .le sR (D.le_refl _) (by simp)
    | false =>
      simp
      refine sem_ok ?_
      have hw : wr .i64 ((i : Int) + 1) = ((i + 1 : Nat) : Int) := by rw [wr_of] <;> omega
      refine ⟨_, by omega, i + 1, rfl, by omega, fun j z hj hz => ?_, by rw [hw], rfl⟩
      rcases (by omega : j < i ∨ j = i) with h | rfl
      · exact hno j z h hz
      · rw [hy] at hz; cases hz; exact e
  · have : i = n := by omega
    subst this
    refine sem_run 9000 _ ?_
    simp
    refine sem_exit (sem_run 9000 _ ?_)
    simp
    refine sem_ret ?_
    simp [M239]
    rw [idxF_no fun j z hj hz => hno2 j z (by rw [List.length_take] at hj; omega) hz]
    exact .le sR (D.le_refl _) (by simp)
theorem conC_rd (L : Has p ext F 239 M239) (L2 : Has p ext F 266 M266) {g b n c : Nat} {ex : Bool} {cap : D} {f : Cl → Bool} {l : List Cl} {H : HpD} (h : SchAt H b l) (hn : n ≤ l.length) (hl : l.length < 1000000) (hf : ∀ y, FnD p ext g [.agg y.c, cap] (.lit (.bool (f y)))) : Td p ext (F 266) [.slice b 0 3 n c ex, .func g [] [cap]] H (.lit (.bool ((l.take n).any f))) H := by
  refine td_of L2 (M := M266) rfl ok266 rfl (Nat.le_refl _) (fun h => h) (sem_run 9000 _ ?_)
  simp
  refine sem_td (ixC_rd L h hn hl hf) (by first | exact D.les_refl _ | simp) (sem_run 9000 _ ?_)
  simp
  refine sem_ret ?_
  simp [M266]
  rw [idxF_any]
  exact .le sR (D.le_refl _) (by simp)
def OkIr (H0 : HpD) (n : Nat) (sd : D) (w : Nat) (fr : FrD) (H : HpD) : Prop :=
  ∃ i : Nat, w = n - i ∧ i ≤ n ∧ fr = [(1, .rptr [sd] 0), (8, sd), (9, .lit (.int .i64 (n : Int))), (10, .lit (.int .i64 (i : Int)))] ∧ Sub H0 H
theorem schm_ok_rd (L : HFit p ext F) {b c : Nat} {ex : Bool} {s : Sch} {H : HpD} (hs : SchAt H b s) (hc : s.length ≤ c) (h : OkS s) : Td p ext (F 255) [.agg [.slice b 0 3 s.length c ex]] H (.lit (.bool true)) H := by
  refine td_of L.h255 (M := M255) rfl ok255 rfl (Nat.le_refl _) (fun h => h) (sem_run 9000 _ ?_)
  simp
  obtain ⟨l1, l2⟩ := h.len
  refine sem_loop (OkIr H s.length (.slice b 0 3 s.length c ex)) ?_ (k := s.length) ⟨0, by simp, by simp, rfl, sR⟩
  rintro w fr H' ⟨i, rfl, hi, rfl, sb⟩
  by_cases ci : i < s.length
  · obtain ⟨y, hy⟩ : ∃ y, s[i]? = some y := ⟨_, List.getElem?_eq_getElem ci⟩
    obtain ⟨e1, e2⟩ := sch_get hy
    have hw : wr .i64 ((i : Int) + 1) = ((i + 1 : Nat) : Int) := by rw [wr_of] <;> omega
    have hany : (s.take i).any (fun z => decide (z.name = y.name)) = false := by
      rw [List.any_eq_false]
      intro z hz
      obtain ⟨j, hj, e⟩ := List.getElem_of_mem hz
      have hj1 : j < i := by rw [List.length_take] at hj; omega
      simp only [decide_eq_true_eq]
      intro e2
      have hzj : s[j]? = some z := by rw [List.getElem_take] at e; rw [List.getElem?_eq_getElem (by omega), e]
      have := h.inj j i z y hzj hy e2
      omega
    have hk := h.kinds y (List.mem_of_getElem? hy)
    have h2 := hs.mono sb
    refine sem_run 21 _ ?_
    simp [ci, h2.blk, e1, e2, -List.length_flatten]
    refine sem_box (b := H'.next) (cs := y.c) (ro := false) 4 (by simp) (by simp) ?_
    refine sem_run 9000 _ ?_
    simp
    refine sf (schm_named L (h.names y (List.mem_of_getElem? hy))) ?_
    simp
    have hslc : slcD 3 (.slice b 0 3 s.length c ex) none (some (.lit (.int .i64 (i : Int)))) none = some (.slice b 0 3 i c ex) := by
      simp [slcD, bndD, slcV, needH, boundM, boundH, boundL, ble_d, sliceO, show i ≤ c by omega]
    rw [hslc]
    simp
    have hcon := fun H3 (h3 : SchAt H3 b s) => conC_rd L.h239 L.h266 (n := i) (c := c) (ex := ex) (g := F 264) (cap := .rptr y.c 0) (f := fun z => decide (z.name = y.name)) h3 (by omega) (by omega) (fun z => ok_same L)
    rw [hany] at hcon
    refine sem_td (hcon _ (h2.mono sR)) (by first | exact D.les_refl _ | simp) (sem_run 9000 _ ?_)
    rcases hk with k | k
    · simp [k]
      refine sem_ok ?_
      exact ⟨_, by omega, i + 1, rfl, by omega, by rw [hw], (sB sb)⟩
    · simp [k]
      refine sem_ok ?_
      exact ⟨_, by omega, i + 1, rfl, by omega, by rw [hw], (sB sb)⟩
  · have : i = s.length := by omega
    subst this
    obtain ⟨c0, k0, k1, k2⟩ := h.key
    have z1 : (1 : Int) ≤ (s.length : Int) := by omega
    have z2 : (s.length : Int) ≤ 6 := by omega
    have z3 : (0 : Nat) < s.length := by omega
    have he : (schE s)[0]? = some c0.c := by simp [schE, k0]
    have f1 : (schE s).flatten[1]? = some (.lit (.int .i64 c0.kind)) := by have := flat_get (i := 0) (j := 1) schE_3 he (by omega); simpa using this
    have f2 : (schE s).flatten[2]? = some (.lit (.bool c0.null)) := by have := flat_get (i := 0) (j := 2) schE_3 he (by omega); simpa using this
    have h2 := hs.mono sb
    refine sem_run 9000 _ ?_
    simp
    refine sem_exit (sem_run 9000 _ ?_)
    simp [z1, z2, z3, h2.blk, f1, f2, k1, k2]
    refine sem_ret ?_
    simp [M255]
    exact .le sb (D.le_refl _) (by simp)
theorem clone_sch_rd (L : HTabl p ext F) {b n c : Nat} {ex : Bool} {s : Sch} {H : HpD} (h : SchAt H b s) (hn : n = s.length) (hs : s.length < 1000000) : Td p ext (F 314) [.slice b 0 3 n c ex] H (schR s) H := by
  refine td_of L.h314 (M := M314) rfl ok314 rfl (Nat.le_refl _) (fun h => h) (sem_run 9000 _ ?_)
  simp
  obtain ⟨s', H', e, g, _⟩ := (Gr.lit (el := []) (sz := 3) (H := H) (ex := true) (c := []) (n := 0) Sub.refl (by simp) rfl rfl).app (by_ := 32) (m := .p) (new := schE s) schE_3 schE_flats (roomyD (by simp; omega) (by simp; omega))
  have e2 := appendD_sliceN (sz := 3) (by_ := 32) (b := b) (cap := c) (n := n) (ex := ex) (ro := false) (el := schE s) (H := H.new (.cells [] false)) (s := .slice H.next 0 3 0 0 true) (by simp [ltn h.lt, h.blk]) schE_3 (by simp [hn])
  rw [e] at e2
  simp [e2]
  refine sem_ret ?_
  simp [M314]
  exact g.fin (by simp) (.inl rfl)
theorem tabl_new_rd (L : HTabl p ext F) {sb c : Nat} {ex : Bool} {s : Sch} {x y : Int} {H : HpD} (hsc : SchAt H sb s) (hc : s.length ≤ c) (hs : OkS s) : WcD p ext (F 303) [.agg [.slice sb 0 3 s.length c ex], .lit (.int .i64 x), .lit (.int .i64 y)] H (NewT H ⟨s, min (max x 1) 1000, min (max y 0) 100, 0, []⟩) := by
  refine wc_of L.h303 (M := M303) rfl ok303 rfl (sem_run 9000 _ ?_)
  simp
  refine sem_td (schm_ok_rd L.fit (hsc.mono sR) hc hs) (by first | exact D.les_refl _ | simp) (sem_run 9000 _ ?_)
  simp
  refine sem_td (clone_sch_rd L (hsc.mono sR) rfl (by have := hs.len; omega)) (by first | exact D.les_refl _ | simp) (sem_run 5 _ ?_)
  simp
  refine sem_box (b := H.next) (cs := [schR s]) (ro := false) 3 (by simp) (by simp) ?_
  refine sem_run 9000 _ ?_
  simp
  refine sem_dtd (delt_new L.delt (n := x)) (by first | exact D.les_refl _ | simp) (sem_run 9000 _ ?_)
  simp
  refine sem_ret ?_
  simp [M303]
  refine ⟨H.next + 1 + 1 + 1, H.next + 1 + 1, H.next + 1, rfl, ⟨?_, by simp, ⟨?_, ?_, by simp, by simp⟩⟩, sW, by omega, by omega, by omega⟩
  · simp
  · simp
  · simp [stoD]
def Row6Ir (H0 : HpD) (s : Sch) (sd : D) (n : Int) (k : Nat) (fr : FrD) (H : HpD) : Prop :=
  ∃ (i : Nat) (t : D), k = s.length - i ∧ i ≤ s.length ∧ fr = [(1, .lit (.int .i64 n)), (5, t), (9, sd), (10, .lit (.int .i64 (s.length : Int))), (11, .lit (.int .i64 (i : Int)))] ∧ Gr H0 H 4 t (rowE ((rowF s n).take i))
theorem law6_row_rd (L : HLaw6r p ext F) {sb c : Nat} {ex : Bool} {s : Sch} {n : Int} {H : HpD} (hsc : SchAt H sb s) (hs : s.length < 1000) : WcD p ext (F 24) [.agg [.slice sb 0 3 s.length c ex], .lit (.int .i64 n)] H (fun d H' => Gr H H' 4 d (rowE (rowF s n))) := by
  refine wc_of L.h24 (M := M24) rfl ok24 rfl (sem_run 9000 _ ?_)
  simp
  refine sem_loop (Row6Ir H s (.slice sb 0 3 s.length c ex) n) ?_ (k := s.length) ⟨0, .lit .nilslice, by simp, by simp, rfl, by simpa [rowE] using Gr.start⟩
  rintro k fr H' ⟨i, t, rfl, hi, rfl, g⟩
  have h2 := hsc.mono g.sub
  refine sem_run 9000 _ ?_
  simp
  by_cases c : i < s.length
  · obtain ⟨y, hy⟩ : ∃ y, s[i]? = some y := ⟨_, List.getElem?_eq_getElem c⟩
    obtain ⟨e1, e2⟩ := sch_get hy
    have hyi : s[i] = y := by rw [List.getElem?_eq_getElem c] at hy; exact Option.some.inj hy
    have hx : (rowF s n)[i]? = some (cellF n i y) := by rw [rowF_get]; simp [c, hyi]
    have hw : wr .i64 ((i : Int) + 1) = ((i + 1 : Nat) : Int) := by rw [wr_of] <;> omega
    have h1 : wr .i64 (3 * (i : Int)) = 3 * (i : Int) := by rw [wr_of] <;> omega
    have h2' : wr .u64 (3 * (i : Int)) = 3 * (i : Int) := wr_u64 (by omega) (by omega)
    have h3 : (0 : Int) ≤ 3 * (i : Int) := by omega
    have h4 : (3 * (i : Int)).toNat = 3 * i := by omega
    have hl : (rowE ((rowF s n).take i)).length ≤ i := by simp; omega
    by_cases c0 : i = 0
    · subst c0
      simp at e1
      have e3 : 3 ≤ (schE s).flatten.length := by simpa using (sch_get hy).2
      simp [c, h2.blk, e1, e3, -List.length_flatten]
      refine sem_push_le (cellF n 0 y).c (g.mono sR) (by simp [cellF, Vl.c, byD, byE, D.le]) rfl rfl (roomyD (by omega) (by omega)) fun s' H1 g1 _ _ => ?_
      simp
      refine sem_ok ?_
      rw [rowE_snoc hx] at g1
      exact ⟨_, by omega, 1, s', rfl, by omega, by simp [wr_of], g1⟩
    · simp [c, c0, h1, h2', h3, h4, h2.blk, e1, e2, -List.length_flatten]
      refine sf (law6_value L (c := y)) ?_
      simp
      refine sem_push_le (cellF n i y).c (g.mono sR) (by simp [cellF, c0]) rfl rfl (roomyD (by omega) (by omega)) fun s' H1 g1 _ _ => ?_
      simp
      refine sem_ok ?_
      rw [rowE_snoc hx] at g1
      exact ⟨_, by omega, i + 1, s', rfl, by omega, by rw [hw], g1⟩
  · simp [c]
    refine sem_exit (sem_run 9000 _ ?_)
    have : i = s.length := by omega
    subst this
    have hf : (rowF s n).take s.length = rowF s n := by rw [List.take_of_length_le]; rw [rowF_len]; exact Nat.le_refl _
    rw [hf] at g
    simp
    refine sem_ret ?_
    simp [M24]
    exact g
structure RowAt (H : HpD) (b : Nat) (r : Row) : Prop where
  blk : H.blk b = .cells (rowE r).flatten false
  lt : b < H.next
theorem RowAt.mono {H H' : HpD} {b : Nat} {s : Row} (h : RowAt H b s) (hs : Sub H H') : RowAt H' b s := ⟨by rw [hs.blk _ h.lt]; exact h.blk, Nat.lt_of_lt_of_le h.lt hs.next⟩
theorem row_get {i : Nat} {r : Row} {y : Vl} (hy : r[i]? = some y) : ((rowE r).flatten.drop (i * 4)).take 4 = y.c ∧ i * 4 + 4 ≤ (rowE r).flatten.length := by
  have he : (rowE r)[i]? = some y.c := by simp [rowE, hy]
  refine ⟨flat_slice row_four he, ?_⟩
  have := (List.getElem?_eq_some_iff.1 hy).1
  rw [flatten_len row_four, row_len]; omega
def FtIr (H0 : HpD) (s : Sch) (r : Row) (rd : D) (w : Nat) (fr : FrD) (H : HpD) : Prop :=
  ∃ i : Nat, w = s.length - i ∧ i ≤ s.length ∧ fitsB s r = fitsB (s.drop i) (r.drop i) ∧ fr = [(1, rd), (14, schR s), (15, .lit (.int .i64 (s.length : Int))), (16, .lit (.int .i64 (i : Int)))] ∧ Sub H0 H
theorem schm_fits_rd (L : HFit p ext F) {b c : Nat} {ex : Bool} {s : Sch} {r : Row} {H : HpD} (hr : RowAt H b r) (hs : s.length < 1000000) (hl : r.length = s.length) : Td p ext (F 268) [schD s, .slice b 0 4 r.length c ex] H (.lit (.bool (fitsB s r))) H := by
  refine td_of L.h268 (M := M268) rfl ok268 rfl (Nat.le_refl _) (fun h => h) (sem_run 9000 _ ?_)
  simp [hl]
  refine sem_loop (FtIr H s r (.slice b 0 4 s.length c ex)) ?_ (k := s.length) ⟨0, by simp, by simp, by simp, rfl, sR⟩
  rintro w fr H' ⟨i, rfl, hi, hf, rfl, sb⟩
  have h2 := hr.mono sb
  by_cases c : i < s.length
  · obtain ⟨y, hy⟩ : ∃ y, s[i]? = some y := ⟨_, List.getElem?_eq_getElem c⟩
    have hyi : s[i] = y := by rw [List.getElem?_eq_getElem c] at hy; exact Option.some.inj hy
    obtain ⟨v, hv⟩ : ∃ v, r[i]? = some v := ⟨_, List.getElem?_eq_getElem (by omega)⟩
    have hvi : r[i] = v := by rw [List.getElem?_eq_getElem (by omega)] at hv; exact Option.some.inj hv
    obtain ⟨e1, e2⟩ := row_get hv
    have hw : wr .i64 ((i : Int) + 1) = ((i + 1 : Nat) : Int) := by rw [wr_of] <;> omega
    have d1 : s.drop i = y :: s.drop (i + 1) := by rw [List.drop_eq_getElem_cons c, hyi]
    have d2 : r.drop i = v :: r.drop (i + 1) := by rw [List.drop_eq_getElem_cons (by omega), hvi]
    rw [d1, d2, fitsB] at hf
    refine sem_run 9000 _ ?_
    simp
    simp [c, hyi, h2.blk, e1, e2, ltn h2.lt, -List.length_flatten]
    refine sem_dfn (schm_holds L (c := y) (v := v)) (by first | exact D.les_refl _ | simp) (sem_run 9000 _ ?_)
    cases hb : holdsB y v with
    | true =>
      simp
      refine sem_ok ?_
      rw [hb, Bool.true_and] at hf
      exact ⟨_, by omega, i + 1, rfl, by omega, hf, by rw [hw], (sB sb)⟩
    | false =>
      simp
      refine sem_ret ?_
      simp [M268]
      refine sem_ret ?_
      simp
      rw [hf, hb, Bool.false_and]
      exact .le (sB sb) (D.le_refl _) (by simp)
  · have : i = s.length := by omega
    subst this
    rw [List.drop_length, List.drop_of_length_le (by omega), fitsB] at hf
    refine sem_run 9000 _ ?_
    simp
    refine sem_exit (sem_run 9000 _ ?_)
    simp
    refine sem_ret ?_
    simp [M268]
    rw [hf]
    exact .le sb (D.le_refl _) (by simp)
def RowIr (H0 : HpD) (r : Row) (rd : D) (k : Nat) (fr : FrD) (H : HpD) : Prop :=
  ∃ (i : Nat) (s : D), k = r.length - i ∧ i ≤ r.length ∧ fr = [(3, s), (6, rd), (7, .lit (.int .i64 (r.length : Int))), (8, .lit (.int .i64 (i : Int)))] ∧ Gr H0 H 4 s (rowE (r.take i))
theorem schm_row_rd (L : HSchmR p ext F) {b c : Nat} {ex : Bool} {r : Row} {H : HpD} (hb : RowAt H b r) (hr : r.length < 1000000) : Td p ext (F 4) [.slice b 0 4 r.length c ex] H (rowD r) H := by
  refine td_of L.h4 (M := M4) rfl ok4 rfl (Nat.le_refl _) (fun h => h) (sem_run 9000 _ ?_)
  simp
  refine sem_loop (RowIr H r (.slice b 0 4 r.length c ex)) ?_ (k := r.length) ⟨0, .lit .nilslice, by simp, by simp, rfl, by simpa [rowE] using Gr.start⟩
  rintro k fr H' ⟨i, s, rfl, hi, rfl, g⟩
  have h2 := hb.mono g.sub
  refine sem_run 9000 _ ?_
  simp
  by_cases c : i < r.length
  · obtain ⟨v, hv⟩ : ∃ v, r[i]? = some v := ⟨_, List.getElem?_eq_getElem c⟩
    obtain ⟨e1, e2⟩ := row_get hv
    simp [c, h2.blk, e1, e2, -List.length_flatten]
    refine sf (schm_val L (v := v)) ?_
    simp
    refine sem_push (g.mono sR) rfl rfl (roomyD (by simp; omega) (by simp; omega)) fun s' H1 g1 _ _ => ?_
    simp
    refine sem_ok ?_
    have hw : wr .i64 ((i : Int) + 1) = ((i + 1 : Nat) : Int) := by rw [wr_of] <;> omega
    rw [rowE_snoc hv] at g1
    exact ⟨_, by omega, i + 1, s', rfl, by omega, by rw [hw], g1⟩
  · simp [c]
    refine sem_exit (sem_run 9000 _ ?_)
    have : i = r.length := by omega
    subst this
    rw [List.take_length] at g
    simp
    refine sem_row g 0 rfl fun H2 s2 _ _ => ?_
    refine sf (clip_val L) ?_
    simp
    refine sem_ret ?_
    simp [M4]
    exact .le s2 (D.le_refl _) (by simp)
abbrev verR (id : Int) (rd : D) (s : Sp) : List D := [.lit (.int .i64 id), rd, .lit (.int .i64 s.bt), .lit (.int .i64 s.ba), .lit (.int .i64 s.et), .lit (.int .i64 s.ea)]
theorem delt_still_rd (L : HDelt p ext F) {b c : Nat} {ex : Bool} {id : Int} {r : Row} {s : Sp} {H : HpD} (hb : RowAt H b r) (hr : r.length < 1000000) : Td p ext (F 327) [.agg (verR id (.slice b 0 4 r.length c ex) s)] H (.agg (⟨id, r, s, hr⟩ : Ver).c) H := by
  refine td_of L.h327 (M := M327) rfl ok327 rfl (Nat.le_refl _) (fun h => h) (sem_run 9000 _ ?_)
  simp
  refine sem_td (schm_row_rd L.schm (hb.mono sR) hr) (by first | exact D.les_refl _ | simp) (sem_run 9000 _ ?_)
  simp
  refine sem_ret ?_
  simp [M327]
  exact .le sW (D.le_refl _) (by simp)
theorem delt_add_rd (L : HDelt p ext F) {bd bm b c : Nat} {ex : Bool} {most id : Int} {r : Row} {s : Sp} {l : Sto} {H : HpD} (h : StoAt H bd bm most l) (hb : RowAt H b r) (hr : r.length < 1000000) (hn : findV l id = none) (hl : (l.length : Int) < most) : Td p ext (F 316) [.ptr bd 0, .agg (verR id (.slice b 0 4 r.length c ex) s)] H (.lit (.bool true)) (H.put bm (.map (some .i64) (stoD (putV ⟨id, r, s, hr⟩ l)))) := by
  refine td_of L.h316 (M := M316) rfl ok316 rfl ?_ ?_ (sem_run 9000 _ ?_)
  · simp
  · exact fun n => n.put h.lm sto_under
  have hp := put_sto (l := l) (v := ⟨id, r, s, hr⟩) (id := id) rfl
  have hl' : ¬ most ≤ (l.length : Int) := by omega
  simp [h.d, h.m, ltn h.ld, ltn h.lm, hn, dV, dVs, hl']
  refine sem_dtd (delt_still_rd L (hb.mono sR) hr (s := s)) (by first | exact D.les_refl _ | simp) (sem_run 9000 _ ?_)
  simp [h.d, h.m, ltn h.ld, ltn h.lm, hp]
  refine sem_ret ?_
  simp [M316]
  have := h.lm
  exact .le sW (D.le_refl _) (by simp)
theorem tabl_add_rd (L : HTabl p ext F) {bt bd bm b c : Nat} {ex : Bool} {gd : D} {t : Tb} {r : Row} {sp : Sp} {H : HpD} (h : TabAt H bt bd bm gd t) (hb : RowAt H b r) (hr : r.length < 1000000) (hs : t.s.length < 1000000) (hlr : r.length = t.s.length) (hf : fitsB t.s r = true) (hl : 0 ≤ t.last ∧ t.last < 1000000000) (hn : findV t.l (t.last + 1) = none) (hm : (t.l.length : Int) < t.dmost) : Td p ext (F 304) [.ptr bt 0, .slice b 0 4 r.length c ex, .agg sp.c] H (.tup [.lit (.int .i64 (t.last + 1)), .lit (.bool true)]) ((H.put bm (.map (some .i64) (stoD (putV ⟨t.last + 1, r, sp, hr⟩ t.l)))).put bt (.cells [schR t.s, .ptr bd 0, gd, .lit (.int .i64 t.gmost), .lit (.int .i64 (t.last + 1))] false)) := by
  refine td_of L.h304 (M := M304) rfl ok304 rfl ?_ ?_ (sem_run 9000 _ ?_)
  · simp
  · intro n
    have hu := n.under bt
    rw [h.tb] at hu
    simp only [BD.under, D.unders] at hu
    exact (n.put h.sto.lm sto_under).put (by simpa using h.lt) (by simp [BD.under]; exact ⟨h.sto.ld, hu.2.2.1⟩)
  have hw : wr .i64 (t.last + 1) = t.last + 1 := by rw [wr_of] <;> omega
  simp [h.tb, ltn h.lt]
  refine sem_dtd (schm_fits_rd L.fit hb hs hlr) (by first | exact D.les_refl _ | simp) (sem_run 9000 _ ?_)
  simp [hf, h.tb, ltn h.lt, hw]
  refine sem_dtd (delt_add_rd L.delt h.sto hb hr (s := sp) hn hm) (by first | exact D.les_refl _ | simp) (sem_run 9000 _ ?_)
  simp [h.tb, h.ne, hw]
  refine sem_ret ?_
  simp [M304]
  have h1 := h.sto.lm
  have h2 := h.lt
  exact .le sW (D.le_refl _) (by simp)
theorem Gr.shape {H0 H : HpD} {sz : Nat} {s : D} {el : List (List D)} (g : Gr H0 H sz s el) : cellsD s = some [s] ∧ flatD s = true ∧ rigid s = true := by
  rcases g.at_ with ⟨rfl, _⟩ | ⟨b, ex, el0, rfl, _⟩ <;> exact ⟨rfl, rfl, rfl⟩
theorem ver_still_own (L : HDelt p ext F) {v : Ver} {H : HpD} : WcD p ext (F 327) [.agg v.c] H (fun d H' => ∃ s, d = .agg (verR v.id s v.sp) ∧ Gr H H' 4 s (rowE v.row)) := by
  refine wc_of L.h327 (M := M327) rfl ok327 rfl (sem_run 9000 _ ?_)
  simp
  refine sem_call (row_own L.schm v.small) fun s H1 g1 => ?_
  have k1 := g1.sub.blk H.next (by simp; omega)
  have k2 := g1.sub.blk (H.next + 1) (by simp)
  have n1 := g1.sub.next
  simp at k1 k2 n1
  have hsp := Gr.shape g1
  have hs1 : spliceD v.c 1 [s] = verR v.id s v.sp := rfl
  refine sem_run 9000 _ ?_
  simp [k1, k2, hsp.1, hsp.2.1, hs1]
  refine sem_ret ?_
  simp [M327]
  have g2 := Gr.base g1 (H0 := H) sR
  refine g2.keep ((g2.sub.put (Nat.le_refl _)).put (by omega)) (by simp) fun x hx => ?_
  have hf := g1.far hx
  simp at hf
  rw [put_blk, if_neg (by omega), put_blk, if_neg (by omega)]
theorem delt_get_own (L : HDelt p ext F) {bd bm : Nat} {most id : Int} {l : Sto} {v : Ver} {H : HpD} (h : StoAt H bd bm most l) (hv : findV l id = some v) : WcD p ext (F 318) [.ptr bd 0, .lit (.int .i64 id)] H (fun d H' => ∃ s, d = .tup [.agg (verR v.id s v.sp), .lit (.bool true)] ∧ Gr H H' 4 s (rowE v.row)) := by
  refine wc_of L.h318 (M := M318) rfl ok318 rfl (sem_run 9000 _ ?_)
  simp [h.d, h.m, ltn h.ld, ltn h.lm, hv]
  refine sem_call (ver_still_own L (v := v)) ?_
  rintro _ H1 ⟨s, rfl, g1⟩
  have k1 := g1.sub.blk H.next (by simp; omega)
  have n1 := g1.sub.next
  have sh := Gr.shape g1
  simp at k1 n1
  refine sem_run 9000 _ ?_
  simp [k1, sh.2.1]
  refine sem_ret ?_
  simp [M318]
  have g2 := Gr.base g1 (H0 := H) sR
  refine g2.keep (g2.sub.put (Nat.le_refl _)) (by simp) fun x hx => ?_
  have hf := g1.far hx
  simp at hf
  rw [put_blk, if_neg (by omega)]
theorem tabl_get_own (L : HTabl p ext F) {bt bd bm : Nat} {t : Tb} {id : Int} {v : Ver} {H : HpD} (h : TabN H bt bd bm t) (hv : findV t.l id = some v) : WcD p ext (F 306) [.ptr bt 0, .lit (.int .i64 id)] H (fun d H' => ∃ s, d = .tup [.agg (verR v.id s v.sp), .lit (.bool true)] ∧ Gr H H' 4 s (rowE v.row)) := by
  refine wc_of L.h306 (M := M306) rfl ok306 rfl (sem_run 9000 _ ?_)
  simp
  refine sem_td (tabl_find L (h.mono sR) (id := id)) (by first | exact D.les_refl _ | simp) (sem_run 9000 _ ?_)
  simp [h.tb, ltn h.lt]
  refine sem_call (delt_get_own L.delt (h.mono sR).sto hv) ?_
  rintro _ H1 ⟨s, rfl, g1⟩
  have k1 := g1.sub.blk H.next (by simp)
  have n1 := g1.sub.next
  have sh := Gr.shape g1
  simp at k1 n1
  refine sem_run 9000 _ ?_
  simp [k1, sh.2.1]
  refine sem_ret ?_
  simp [M306]
  have g2 := Gr.base g1 (H0 := H) sR
  refine g2.keep (g2.sub.put (Nat.le_refl _)) (by simp) fun x hx => ?_
  have hf := g1.far hx
  simp at hf
  rw [put_blk, if_neg (by omega)]
theorem clone_sch_own (L : HTabl p ext F) {s : Sch} {H : HpD} (hs : s.length < 1000000) (h0 : s ≠ []) : WcD p ext (F 314) [schR s] H (fun d H' => Gr H H' 3 d (schE s)) := by
  refine wc_of L.h314 (M := M314) rfl ok314 rfl (sem_run 9000 _ ?_)
  simp [schR]
  refine ⟨fun e => ?_, ?_⟩
  · exact absurd (by simpa [schE] using e) h0
  · obtain ⟨s', H', e, g, _⟩ := (Gr.lit (el := []) (sz := 3) (H := H) (ex := true) (c := []) (n := 0) Sub.refl (by simp) rfl rfl).app (by_ := 32) (m := .p) (new := schE s) schE_3 schE_flats (roomyD (by simp; omega) (by simp; omega))
    simp [e]
    refine sem_ret ?_
    simp [M314]
    simpa using g
theorem tabl_schema_own (L : HTabl p ext F) {bt bd bm : Nat} {gd : D} {t : Tb} {H : HpD} (h : TabAt H bt bd bm gd t) (hs : t.s.length < 1000000) (h0 : t.s ≠ []) : WcD p ext (F 305) [.ptr bt 0] H (fun d H' => ∃ s, d = .agg [s] ∧ Gr H H' 3 s (schE t.s)) := by
  refine wc_of L.h305 (M := M305) rfl ok305 rfl (sem_run 9000 _ ?_)
  simp [h.tb, ltn h.lt]
  refine sem_call (clone_sch_own L (s := t.s) hs h0) fun s H1 g1 => ?_
  have k1 := g1.sub.blk H.next (by simp)
  have n1 := g1.sub.next
  have sh := Gr.shape g1
  simp at k1 n1
  refine sem_run 9000 _ ?_
  simp [k1, sh.1, sh.2.1]
  refine sem_ret ?_
  simp [M305]
  have g2 := Gr.base g1 (H0 := H) sR
  refine g2.keep (g2.sub.put (Nat.le_refl _)) (by simp) fun x hx => ?_
  have hf := g1.far hx
  simp at hf
  rw [put_blk, if_neg (by omega)]
end Go.Lib
end

section
set_option maxRecDepth 10000
namespace Go.Lib
open Go.Vm Go.Dv
theorem schF_atL {n : Int} {i : Nat} {c : Cl} (h : (schF n)[i]? = some c) : i < 6 ∧ c.name = (([107, 101, 121] :: colNames)[i]?).getD [] ∧ (c.kind = 1 ∨ c.kind = 2) := by
  have hm := (more_le (n := n)).1
  unfold schF at h
  cases i with
  | zero => simp at h; subst h; exact ⟨by omega, rfl, .inl rfl⟩
  | succ i =>
    simp only [List.getElem?_cons_succ, List.getElem?_map, Option.map_eq_some_iff] at h
    obtain ⟨j, hj, rfl⟩ := h
    obtain ⟨hl, hj⟩ := List.getElem?_eq_some_iff.1 hj
    simp at hl hj
    subst hj
    refine ⟨by omega, rfl, ?_⟩
    show bitI n (8 + 2 * i) + 1 = 1 ∨ bitI n (8 + 2 * i) + 1 = 2
    rcases bitI_01 (n := n) (k := 8 + 2 * i) with h | h <;> omega
theorem schF_okL {n : Int} : OkS (schF n) := by
  have key : ∀ i : Fin 6, NameOk ((([107, 101, 121] :: colNames)[i.val]?).getD []) := by unfold NameOk; decide
  have key2 : ∀ i j : Fin 6, (([107, 101, 121] :: colNames)[i.val]?).getD [] = (([107, 101, 121] :: colNames)[j.val]?).getD [] → i = j := by decide
  refine ⟨fun c hc => ?_, fun i j c c' h1 h2 e => ?_, fun c hc => ?_, ?_, ⟨keyC, rfl, rfl, rfl⟩⟩
  · obtain ⟨i, hi⟩ := List.getElem?_of_mem hc
    obtain ⟨h1, h2, _⟩ := schF_atL hi
    rw [h2]
    exact key ⟨i, h1⟩
  · obtain ⟨a1, a2, _⟩ := schF_atL h1
    obtain ⟨b1, b2, _⟩ := schF_atL h2
    have := key2 ⟨i, a1⟩ ⟨j, b1⟩ (by rw [a2, b2] at e; exact e)
    exact congrArg Fin.val this
  · obtain ⟨i, hi⟩ := List.getElem?_of_mem hc
    exact (schF_atL hi).2.2
  · have := (more_le (n := n)).1
    rw [schF_len]; omega
theorem fitsB_of : ∀ {s : Sch} {r : Row}, r.length = s.length → (∀ (i : Nat) c v, s[i]? = some c → r[i]? = some v → holdsB c v = true) → fitsB s r = true
  | [], [], _, _ => rfl
  | [], _ :: _, h, _ => by simp at h
  | _ :: _, [], h, _ => by simp at h
  | c :: s, v :: r, h, k => by
    unfold fitsB
    rw [Bool.and_eq_true]
    exact ⟨k 0 c v rfl rfl, fitsB_of (by simpa using h) fun i c v hc hv => k (i + 1) c v (by simpa using hc) (by simpa using hv)⟩
theorem valF_holds {c : Cl} (hc : c.kind = 1 ∨ c.kind = 2) {x : Int} : holdsB c (valF c x) = true := by
  unfold holdsB isB valF
  by_cases h : c.null = true ∧ andI x 7 = 0
  · rw [if_pos h]
    simp [hc, h.1]
  · rw [if_neg h]
    by_cases h1 : c.kind = 1
    · rw [if_pos h1]
      simp [h1]
    · rw [if_neg h1]
      have : c.kind = 2 := by omega
      simp [this]
      simp [abc]
      omega
theorem rowF_fits {n x : Int} : fitsB (schF n) (rowF (schF n) x) = true := by
  refine fitsB_of rowF_len fun i c v hc hv => ?_
  rw [rowF_get, hc] at hv
  simp at hv; subst hv
  have hk := (schF_atL hc).2.2
  unfold cellF
  split
  · rename_i h0
    subst h0
    have : schF n = keyC :: (List.range (moreF n)).map (colF n) := rfl
    rw [this] at hc
    simp at hc; subst hc
    simp [holdsB, isB, keyC]
  · exact valF_holds hk
end Go.Lib
end

section
set_option maxRecDepth 10000
namespace Go.Lib
open Go.Vm Go.Dv
variable {p : Prog} {ext : Ext} {F : Nat → Nat}
attribute [-simp] bin_and bin_xor
structure HOwn14 (p : Prog) (ext : Ext) (F : Nat → Nat) : Prop where
  tabl : HTabl p ext F
  law6 : HLaw6r p ext F
  same : HSame6v p ext F
  awake : FnD p ext (F 412) [] (.lit (.bool true))
  h411 : Has p ext F 411 M411
theorem eq_cl {y : Cl} : isEq (.struct [(0, none, .str), (1, none, .int), (2, none, .bool)]) (.agg y.c) (.agg y.c) = some true := by
  have h1 : neqs y.name y.name = true := by rw [neqs_dec]; simp
  have h2 : ieq y.kind y.kind = true := ieq_iff.2 rfl
  have h3 : beqB y.null y.null = true := by cases y.null <;> rfl
  simp [isEq, Cl.c, toV, toVs]
  simp [eqV, eqVs, fieldOf, h1, h2, h3, keq_self]
theorem _root_.Go.Dv.GrX.here {H0 H : HpD} {sz : Nat} {s : D} {el : List (List D)} (g : GrX H0 H sz s el) (h : el ≠ []) : ∃ b ex, s = .slice b 0 sz el.length el.length ex ∧ H0.next ≤ b ∧ b < H.next ∧ H.blk b = .cells el.flatten false := by
  rcases g.at_ with ⟨_, e⟩ | k
  · exact absurd e h
  · exact k
theorem schE_ne {n : Int} : schE (schF n) ≠ [] := fun e => by have := congrArg List.length e; simp [schE, schF] at this
theorem sem_exact_ops {Q : ResD → Prop} {H0 H : HpD} {sz : Nat} {s : D} {el : List (List D)} {l : List MO} {fz lv : List Nat} {K : List KD} {fr : FrD} (g : Gr H0 H sz s el) (hs : ∀ H', GrX H0 H' sz s el → (∀ x, ¬ s.hasB x → H'.blk x = H.blk x) → H'.next = H.next → Dv.Sem p ext Q (.ops l fz lv K .mk fr H')) : Dv.Sem p ext Q (.ops l fz lv K .mk fr H) := by
  obtain ⟨H', w, g', k, n⟩ := g.exact
  exact sem_weak_ops (w _ _) (hs H' g' k n)
structure But (H H' : HpD) (b : Nat) : Prop where
  next : H.next ≤ H'.next
  blk : ∀ x, x < H.next → x ≠ b → H'.blk x = H.blk x
theorem But.of {H H' : HpD} {b : Nat} (h : Sub H H') : But H H' b := ⟨h.next, fun x hx _ => h.blk x hx⟩
theorem But.put {H H' : HpD} {b : Nat} {x : BD} (h : But H H' b) : But H (H'.put b x) b := ⟨h.next, fun y hy hne => by rw [put_blk, if_neg hne]; exact h.blk y hy hne⟩
theorem StoAt.but {H H' : HpD} {b bd bm : Nat} {most : Int} {l : Sto} (h : StoAt H bd bm most l) (s : But H H' b) (h1 : b ≠ bd) (h2 : b ≠ bm) : StoAt H' bd bm most l :=
  ⟨by rw [s.blk _ h.ld h1.symm]; exact h.d, by rw [s.blk _ h.lm h2.symm]; exact h.m, Nat.lt_of_lt_of_le h.ld s.next, Nat.lt_of_lt_of_le h.lm s.next⟩
theorem TabAt.but {H H' : HpD} {b bt bd bm : Nat} {gd : D} {t : Tb} (h : TabAt H bt bd bm gd t) (s : But H H' b) (h0 : b ≠ bt) (h1 : b ≠ bd) (h2 : b ≠ bm) : TabAt H' bt bd bm gd t :=
  ⟨by rw [s.blk _ h.lt h0.symm]; exact h.tb, Nat.lt_of_lt_of_le h.lt s.next, h.sto.but s h1 h2⟩
theorem SchAt.but {H H' : HpD} {b c : Nat} {s : Sch} (h : SchAt H c s) (hs : But H H' b) (h0 : b ≠ c) : SchAt H' c s := ⟨by rw [hs.blk _ h.lt h0.symm]; exact h.blk, Nat.lt_of_lt_of_le h.lt hs.next⟩
def LpI (H0 : HpD) (fs : FrD) (it : Nat) (n b sz : Nat) (k : Nat) (fr : FrD) (H : HpD) : Prop :=
  ∃ (i : Nat) (cs : List D), k = n - i ∧ i ≤ n ∧ fr = fs ++ [(it, .lit (.int .i64 (n : Int))), (it + 1, .lit (.int .i64 (i : Int)))] ∧ But H0 H b ∧ H.blk b = .cells cs false ∧ cs.length = n * sz
theorem tablOwn (L : HOwn14 p ext F) {n row : Int} {H : HpD} : WcD p ext (F 411) [.lit (.int .i64 n), .lit (.int .i64 row)] H (fun d _ => d = .lit (.bool true)) := by
  refine wc_of L.h411 (M := M411) rfl ok411 rfl (sem_run 9000 _ ?_)
  simp
  have hsm := schF_small (n := n)
  have hok := schF_okL (n := n)
  refine sem_call (schema_own L.law6.toHLaw6s) ?_
  rintro _ H1 ⟨s1, rfl, g1⟩
  refine sem_run 9000 _ ?_
  simp
  refine sem_call (schema_own L.law6.toHLaw6s) ?_
  rintro _ H2 ⟨s2, rfl, g2⟩
  refine sem_exact_ops g2 fun H3 x2 k3 n3 => ?_
  obtain ⟨b2, e2, rfl, y2, z2, a2⟩ := x2.here schE_ne
  have g1' : Gr H H3 3 s1 (schE (schF n)) := g1.keep (g1.sub.trans x2.gr.sub) x2.gr.sub.next fun x hx => by
    have := (g1.far hx).2
    exact x2.gr.sub.blk x this
  refine sem_exact_ops g1' fun H4 x1 k4 n4 => ?_
  obtain ⟨b1, e1, rfl, y1, z1, a1⟩ := x1.here schE_ne
  have hb12 : b2 ≠ b1 := by
    have := (g1.far (x := b1) rfl).2
    omega
  have a2' := k4 b2 (by simpa [D.hasB] using hb12)
  rw [a2] at a2'
  have z2' : b2 < H4.next := by omega
  have hlS : (schE (schF n)).length = (schF n).length := by simp [schE]
  have q1 : SchAt H4 b1 (schF n) := ⟨a1, z1⟩
  have q2 : SchAt H4 b2 (schF n) := ⟨a2', z2'⟩
  clear a1 a2 a2' k3 k4 x1 x2 g1 g1' g2 n3 n4 y1 y2 z1 z2 z2'
  rw [hlS]
  generalize hS : schF n = S at *
  refine sem_run 9000 _ ?_
  simp
  generalize hh : HpD.put _ _ _ = Hq
  have c5 : Hq.blk H4.next = .cells [.slice b1 0 3 S.length S.length e1] false := by subst hh; simp
  have c6 : Hq.blk (H4.next + 1) = .cells [.slice b2 0 3 S.length S.length e2] false := by subst hh; simp
  have cn : Hq.next = H4.next + 1 + 1 := by subst hh; simp
  have sq : Sub H4 Hq := by subst hh; exact sR
  have l1 := q1.lt
  have l2 := q2.lt
  replace q1 := q1.mono sq
  replace q2 := q2.mono sq
  clear hh
  refine sem_call (tabl_new_rd L.tabl q1 (Nat.le_refl _) hok) ?_
  rintro _ H5 ⟨bt, bd, bm, rfl, tb, sb5, t1, t2, t3⟩
  generalize hp5 : H4.next = p5 at *
  have d5 := sb5.blk p5 (by omega)
  have d6 := sb5.blk (p5 + 1) (by omega)
  rw [c5] at d5
  rw [c6] at d6
  refine sem_run 9000 _ ?_
  simp [d5]
  have hre : (rowE (rowF S row)).length = (rowF S row).length := by simp
  have hrl : (rowF S row).length = S.length := by rw [rowF_len]
  have hrn : rowE (rowF S row) ≠ [] := fun e => by rw [e] at hre; simp at hre; omega
  refine sem_call (law6_row_rd L.law6 (q1.mono sb5) (by omega)) ?_
  intro x H6 gx
  refine sem_exact_ops gx fun H7 gx' k7 n7 => ?_
  obtain ⟨bx, ex, rfl, yx, zx, ax⟩ := gx'.here hrn
  rw [hre]
  have s57 := gx'.gr.sub
  have tb7 := tb.mono s57
  have u1 := tb.lt
  have u2 := tb.sto.ld
  have u3 := tb.sto.lm
  refine sem_run 9000 _ ?_
  simp
  refine sem_td (tabl_add_rd L.tabl tb7 (RowAt.mk ax zx) (by rw [hrl]; omega) (by show S.length < 1000000; omega) hrl (by subst hS; exact rowF_fits) (by simp) rfl (by show (0 : Int) < min (max 10 1) 1000; decide) (sp := ⟨0, 0, 0, 0⟩)) (by first | exact D.les_refl _ | simp) (sem_run 9000 _ ?_)
  simp
  have hrs : (rowF S row).length < 1000000 := by rw [hrl]; omega
  obtain ⟨v, hv⟩ : ∃ v : Ver, v = ⟨1, rowF S row, ⟨0, 0, 0, 0⟩, hrs⟩ := ⟨_, rfl⟩
  have hvr : v.row = rowF S row := by rw [hv]
  obtain ⟨t8, ht8⟩ : ∃ t : Tb, t = ⟨S, min (max 10 1) 1000, min (max 2 0) 100, 1, putV v []⟩ := ⟨_, rfl⟩
  have hts : t8.s = S := by rw [ht8]
  have hfv : findV t8.l 1 = some v := by rw [ht8, hv]; rfl
  generalize hh : HpD.put _ _ _ = H8
  have tb8 : TabN H8 bt bd bm t8 := by
    have hne := tb7.ne
    refine ⟨?_, by subst hh; simpa using tb7.lt, ⟨?_, ?_, by subst hh; simpa using tb7.sto.ld, by subst hh; simpa using tb7.sto.lm⟩⟩
    · subst hh ht8; simp
    · subst hh; rw [put_blk, if_neg (by exact fun e => hne.2.1.1 e.symm), put_blk, if_neg (fun e => hne.2.2.1 e)]; rw [ht8]; exact tb7.sto.d
    · subst hh ht8 hv; rw [put_blk, if_neg (by exact fun e => hne.1.1 e.symm), put_blk, if_pos rfl]
  have n8 : H8.next = H7.next := by subst hh; rfl
  have k8 : ∀ x, x ≠ bt → x ≠ bm → H8.blk x = H7.blk x := fun x h1 h2 => by subst hh; rw [put_blk, if_neg h1, put_blk, if_neg h2]
  have n57 := s57.next
  have e5 := k8 p5 (by omega) (by omega)
  rw [s57.blk p5 (by omega), d5] at e5
  have e6 := k8 (p5 + 1) (by omega) (by omega)
  rw [s57.blk (p5 + 1) (by omega), d6] at e6
  have q2' : SchAt H8 b2 S := ⟨by rw [k8 b2 (by omega) (by omega), s57.blk b2 (by omega), sb5.blk b2 (by omega)]; exact q2.blk, by omega⟩
  have q1' : SchAt H8 b1 S := ⟨by rw [k8 b1 (by omega) (by omega), s57.blk b1 (by omega), sb5.blk b1 (by omega)]; exact q1.blk, by omega⟩
  have q3 : H8.blk bx = .cells (rowE (rowF S row)).flatten false := by rw [k8 bx (by omega) (by omega)]; exact ax
  rw [hrl]
  clear hh k8 ax tb7 tb c5 c6 d5 d6 gx gx' k7 q1 q2 sb5 s57 sq
  refine sem_loop (LpI H8 [(1, .lit (.int .i64 row)), (5, .ptr p5 0), (6, .ptr (p5 + 1) 0), (7, .ptr bt 0), (9, .slice bx 0 4 S.length S.length ex), (10, .lit (.int .i64 1)), (11, .lit (.bool true))] 47 S.length bx 4) ?_ (k := S.length) ⟨0, _, by simp, by omega, by simp, But.of .refl, q3, by rw [flatten_len row_four, hre, hrl]⟩
  rintro k fr H' ⟨i, cs, rfl, hi, rfl, bu, hb, hl⟩
  have hw : wr .i64 ((i : Int) + 1) = ((i + 1 : Nat) : Int) := by rw [wr_of] <;> omega
  by_cases c : i < S.length
  · have hl2 : i * 4 + 4 ≤ cs.length := by omega
    refine sem_run 9000 _ ?_
    simp [c, hb, hl2]
    refine sem_ok ?_
    refine ⟨S.length - (i + 1), by omega, i + 1, _, rfl, by omega, by simp [hw], bu.put, by rw [put_blk, if_pos rfl], ?_⟩
    rw [spliceD_length (by simpa using hl2), hl]
  · have : i = S.length := by omega
    subst this
    have e5' := bu.blk p5 (by omega) (by omega)
    have e6' := bu.blk (p5 + 1) (by omega) (by omega)
    rw [e5] at e5'
    rw [e6] at e6'
    have tb9 := tb8.but bu (by omega) (by omega) (by omega)
    have q1'' := q1'.but bu (by omega)
    have q2'' := q2'.but bu (by omega)
    have n9 := bu.next
    clear bu hb e5 e6 tb8 q1' q2' q3
    refine sem_run 9000 _ ?_
    simp
    refine sem_exit (sem_run 9000 _ ?_)
    simp [e5']
    refine sem_loop (LpI H' [(1, .lit (.int .i64 row)), (5, .ptr p5 0), (6, .ptr (p5 + 1) 0), (7, .ptr bt 0), (10, .lit (.int .i64 1)), (11, .lit (.bool true))] 58 S.length b1 3) ?_ (k := S.length) ⟨0, _, by simp, by omega, by simp, But.of .refl, q1''.blk, by rw [flatten_len schE_3, hlS]⟩
    rintro k fr H9 ⟨i, cs, rfl, hi, rfl, bu, hb, hl⟩
    have hw : wr .i64 ((i : Int) + 1) = ((i + 1 : Nat) : Int) := by rw [wr_of] <;> omega
    have e5 := bu.blk p5 (by omega) (by omega)
    rw [e5'] at e5
    by_cases c : i < S.length
    · have hl2 : i * 3 + 3 ≤ cs.length := by omega
      have hl3 : i * 3 + 1 ≤ cs.length := by omega
      refine sem_run 9000 _ ?_
      simp [c, hb, e5, hl3]
      refine sem_ok ?_
      refine ⟨S.length - (i + 1), by omega, i + 1, _, rfl, by omega, by simp [hw], bu.put, by rw [put_blk, if_pos rfl], ?_⟩
      rw [spliceD_length (by simpa using hl3), hl]
    · have : i = S.length := by omega
      subst this
      have e6 := bu.blk (p5 + 1) (by omega) (by omega)
      rw [e6'] at e6
      have tb10 := tb9.but bu (by omega) (by omega) (by omega)
      have q2 := q2''.but bu (by omega)
      have n10 := bu.next
      clear bu hb e5 e5' e6' tb9 q1'' q2''
      refine sem_run 9000 _ ?_
      simp
      refine sem_exit (sem_run 9000 _ ?_)
      simp
      have hS0 : t8.s ≠ [] := by rw [hts]; intro e; rw [e] at hsm; simp at hsm
      have hS1 : t8.s.length < 1000000 := by rw [hts]; omega
      refine sem_call (tabl_schema_own L.tabl tb10 hS1 hS0) ?_
      rintro _ H10 ⟨s3, rfl, g3⟩
      rw [hts] at g3
      have hsn : schE S ≠ [] := by rw [← hS]; exact schE_ne
      refine sem_exact_ops g3 fun H11 x3 _ _ => ?_
      obtain ⟨b3, e3, rfl, y3, z3, a3⟩ := x3.here hsn
      have s11 := x3.gr.sub
      have n11 := s11.next
      have tb11 := tb10.mono s11
      have e6' := s11.blk (p5 + 1) (by omega)
      rw [e6] at e6'
      have q2' := q2.mono s11
      have w1 := tb10.lt
      have w2 := tb10.sto.ld
      have w3 := tb10.sto.lm
      clear g3 x3 s11 tb10 e6 q2
      rw [hlS]
      refine sem_run 9000 _ ?_
      simp
      generalize hh : HpD.put _ _ _ = H12
      have c14 : H12.blk H11.next = .cells [.slice b3 0 3 S.length S.length e3] false := by subst hh; simp
      have n12 : H12.next = H11.next + 1 := by subst hh; simp
      have s12 : Sub H11 H12 := by subst hh; exact sR
      clear hh
      generalize hp14 : H11.next = p14 at *
      have a3' := s12.blk b3 (by omega)
      rw [a3] at a3'
      have tb12 := tb11.mono s12
      have e6 := s12.blk (p5 + 1) (by omega)
      rw [e6'] at e6
      have q2 := q2'.mono s12
      have u4 := tb11.lt
      have u5 := tb11.sto.ld
      have u6 := tb11.sto.lm
      clear e6' q2' a3 tb11 s12
      refine sem_loop (LpI H12 [(1, .lit (.int .i64 row)), (6, .ptr (p5 + 1) 0), (7, .ptr bt 0), (10, .lit (.int .i64 1)), (11, .lit (.bool true)), (14, .ptr p14 0)] 72 S.length b3 3) ?_ (k := S.length) ⟨0, _, by simp, by omega, by simp, But.of .refl, a3', by rw [flatten_len schE_3, hlS]⟩
      rintro k fr H13 ⟨i, cs, rfl, hi, rfl, bu, hb, hl⟩
      have hw : wr .i64 ((i : Int) + 1) = ((i + 1 : Nat) : Int) := by rw [wr_of] <;> omega
      have c14' := bu.blk p14 (by omega) (by omega)
      rw [c14] at c14'
      by_cases c : i < S.length
      · have hl2 : i * 3 + 3 ≤ cs.length := by omega
        have hl3 : i * 3 + 1 + 1 ≤ cs.length := by omega
        refine sem_run 9000 _ ?_
        simp [c, hb, c14', hl3]
        refine sem_ok ?_
        refine ⟨S.length - (i + 1), by omega, i + 1, _, rfl, by omega, by simp [hw], bu.put, by rw [put_blk, if_pos rfl], ?_⟩
        rw [spliceD_length (by simpa using hl3), hl]
      · have : i = S.length := by omega
        subst this
        have e6' := bu.blk (p5 + 1) (by omega) (by omega)
        rw [e6] at e6'
        have tb13 := tb12.but bu (by omega) (by omega) (by omega)
        have q2' := q2.but bu (by omega)
        have n13 := bu.next
        clear bu hb e6 tb12 q2 a3'
        refine sem_run 9000 _ ?_
        simp
        refine sem_exit (sem_run 9000 _ ?_)
        simp
        refine sem_call (tabl_get_own L.tabl tb13 hfv) ?_
        rintro _ H14 ⟨s4, rfl, g4⟩
        rw [hvr] at g4
        refine sem_exact_ops g4 fun H15 x4 _ _ => ?_
        obtain ⟨b4, e4, rfl, y4, z4, a4⟩ := x4.here hrn
        rw [hre, hrl]
        have s15 := x4.gr.sub
        have n15 := s15.next
        have tb15 := tb13.mono s15
        have e6 := s15.blk (p5 + 1) (by omega)
        rw [e6'] at e6
        have q2 := q2'.mono s15
        clear g4 x4 s15 e6' q2' tb13
        refine sem_run 9000 _ ?_
        simp
        generalize hh : HpD.put _ _ _ = H16
        have c16 : H16.blk H15.next = .cells (verR v.id (.slice b4 0 4 S.length S.length e4) v.sp) false := by subst hh; simp
        have n16 : H16.next = H15.next + 1 := by subst hh; simp
        have s16 : Sub H15 H16 := by subst hh; exact sR
        clear hh
        generalize hp16 : H15.next = p16 at *
        have a4' := s16.blk b4 (by omega)
        rw [a4] at a4'
        have tb16 := tb15.mono s16
        have e6' := s16.blk (p5 + 1) (by omega)
        rw [e6] at e6'
        have q2' := q2.mono s16
        have u7 := tb15.lt
        have u8 := tb15.sto.ld
        have u9 := tb15.sto.lm
        clear e6 q2 a4 tb15 s16
        refine sem_loop (LpI H16 [(1, .lit (.int .i64 row)), (6, .ptr (p5 + 1) 0), (7, .ptr bt 0), (10, .lit (.int .i64 1)), (11, .lit (.bool true)), (16, .ptr p16 0), (17, .lit (.bool true))] 90 S.length b4 4) ?_ (k := S.length) ⟨0, _, by simp, by omega, by simp, But.of .refl, a4', by rw [flatten_len row_four, hre, hrl]⟩
        rintro k fr H17 ⟨i, cs, rfl, hi, rfl, bu, hb, hl⟩
        have hw : wr .i64 ((i : Int) + 1) = ((i + 1 : Nat) : Int) := by rw [wr_of] <;> omega
        have c16' := bu.blk p16 (by omega) (by omega)
        rw [c16] at c16'
        by_cases c : i < S.length
        · have hl3 : i * 4 + 2 + 1 ≤ cs.length := by omega
          refine sem_run 9000 _ ?_
          simp [c, hb, c16', hl3]
          refine sem_ok ?_
          refine ⟨S.length - (i + 1), by omega, i + 1, _, rfl, by omega, by simp [hw], bu.put, by rw [put_blk, if_pos rfl], ?_⟩
          rw [spliceD_length (by simpa using hl3), hl]
        · have : i = S.length := by omega
          subst this
          have e6 := bu.blk (p5 + 1) (by omega) (by omega)
          rw [e6'] at e6
          have tb17 := tb16.but bu (by omega) (by omega) (by omega)
          have q2 := q2'.but bu (by omega)
          have n17 := bu.next
          clear bu hb e6' tb16 q2' a4'
          refine sem_run 9000 _ ?_
          simp
          refine sem_exit (sem_run 9000 _ ?_)
          simp
          refine sem_td (tabl_get L.tabl tb17 (id := 1)) (by first | exact D.les_refl _ | simp) (sem_run 9000 _ ?_)
          simp [hfv, c16']
          have hbu : But H17 (H17.put p16 (.cells v.c false)) p16 := (But.of .refl).put
          have c18 : (H17.put p16 (.cells v.c false)).blk p16 = .cells v.c false := by rw [put_blk, if_pos rfl]
          have n18 : (H17.put p16 (.cells v.c false)).next = H17.next := rfl
          generalize HpD.put _ _ _ = H18 at *
          have e6' := hbu.blk (p5 + 1) (by omega) (by omega)
          rw [e6] at e6'
          have tb18 := tb17.but hbu (by omega) (by omega) (by omega)
          have q2' := q2.but hbu (by omega)
          clear hbu tb17 q2 e6
          refine sem_call (tabl_schema_own L.tabl tb18 hS1 hS0) ?_
          rintro _ H19 ⟨s5, rfl, g5⟩
          rw [hts] at g5
          refine sem_exact_ops g5 fun H20 x5 _ _ => ?_
          obtain ⟨b6, e7, rfl, y6, z6, a6⟩ := x5.here hsn
          have s20 := x5.gr.sub
          have n20 := s20.next
          have e6 := s20.blk (p5 + 1) (by omega)
          rw [e6'] at e6
          have q2 := q2'.mono s20
          have c20 := s20.blk p16 (by omega)
          rw [c18] at c20
          clear g5 x5 s20 tb18 e6' q2' c18
          rw [hlS]
          refine sem_run 9000 _ ?_
          simp [e6, ltn (show p5 + 1 < H20.next by omega)]
          generalize hh : HpD.put _ _ _ = H21
          have c19 : H21.blk H20.next = .cells [.slice b6 0 3 S.length S.length e7] false := by subst hh; simp
          have n21 : H21.next = H20.next + 1 := by subst hh; simp
          have s21 : Sub H20 H21 := by subst hh; exact sR
          clear hh
          generalize hp19 : H20.next = p19 at *
          have q6 : SchAt H21 b6 S := SchAt.mono ⟨a6, by omega⟩ s21
          have e6' := s21.blk (p5 + 1) (by omega)
          rw [e6] at e6'
          have q2' := q2.mono s21
          have c21 := s21.blk p16 (by omega)
          rw [c20] at c21
          clear e6 q2 c20 a6 s21
          refine sem_loop (fun k fr H => ∃ i : Nat, k = S.length - i ∧ i ≤ S.length ∧ fr = [(1, .lit (.int .i64 row)), (6, .ptr (p5 + 1) 0), (11, .lit (.bool true)), (16, .ptr p16 0), (17, .lit (.bool true)), (19, .ptr p19 0), (117, .lit (.int .i64 (S.length : Int))), (118, .lit (.int .i64 (i : Int)))] ∧ H = H21) ?_ (k := S.length) ⟨0, by simp, by omega, by simp, rfl⟩
          rintro k fr H22 ⟨i, rfl, hi, rfl, rfl⟩
          have hw : wr .i64 ((i : Int) + 1) = ((i + 1 : Nat) : Int) := by rw [wr_of] <;> omega
          by_cases c : i < S.length
          · obtain ⟨y, hy⟩ : ∃ y, S[i]? = some y := ⟨_, List.getElem?_eq_getElem c⟩
            obtain ⟨f1, f2⟩ := sch_get hy
            refine sem_run 9000 _ ?_
            simp
            simp [c, c19, e6', q6.blk, q2'.blk, f1, f2, eq_cl, -List.length_flatten]
            refine ⟨by omega, q6.lt, by omega, q2'.lt, ?_⟩
            refine sem_ok ?_
            exact ⟨S.length - (i + 1), by omega, i + 1, rfl, by omega, by simp [hw], rfl⟩
          · have : i = S.length := by omega
            subst this
            refine sem_run 9000 _ ?_
            simp
            refine sem_exit ?_
            have g2 : Gr ⟨b2, H22.blk⟩ H22 3 (.slice b2 0 3 S.length S.length e2) (schE S) := ⟨⟨Nat.le_of_lt q2'.lt, fun _ _ => rfl⟩, schE_3, .inr ⟨b2, e2, schE S, by rw [hlS], Nat.le_refl _, q2'.lt, q2'.blk, D.less_refl _⟩⟩
            obtain ⟨H23, w23, f23, k23, n23, s23⟩ := g2.incell e6' (j := 0) rfl (by simp only [D.hasB]; omega)
            simp
            have c23 := k23 p19 (by omega) (by simp only [D.hasB]; omega)
            rw [c19] at c23
            have c24 := k23 p16 (by omega) (by simp only [D.hasB]; omega)
            rw [c21] at c24
            simp at f23
            refine sem_weak_exit ((w23 _ _).trans (Weak.box (t := 16) c24 rfl)) (sem_run 9000 _ ?_)
            have ne1 : p19 ≠ p16 := by omega
            have ne2 : p5 + 1 ≠ p16 := by omega
            simp [c23, f23, ne1, ne2]
            refine ⟨by omega, by omega, ?_⟩
            refine sem_dfn (law6_row L.law6 (s := S) (n := row) (by omega)) (by first | exact D.les_refl _ | simp) (sem_run 9000 _ ?_)
            simp
            refine sem_dfn (ref6_sameRow L.same (x := v.row) (y := rowF S row) v.small) (by first | exact D.les_refl _ | simp) (sem_run 9000 _ ?_)
            simp [hvr]
            refine sem_dfn L.awake (by first | exact D.les_refl _ | simp) (sem_run 9000 _ ?_)
            simp
            refine sem_ret ?_
            simp [M411]
end Go.Lib
end

section
namespace Go.Vm
open Go.RowKit Go.Maps Go.Sort Go.Shelf Go.Proofs
variable {P : Program} {ρ σ : Ren}
theorem insert_perm {H : Type} (x : Lit × DataW H) : ∀ l : List (Lit × DataW H), (DataW.insert x l).Perm (x :: l)
  | [] => .refl _
  | y :: r => by
    simp only [DataW.insert]
    split
    · exact .refl _
    · exact ((insert_perm x r).cons y).trans (.swap x y r)
theorem foldr_insert_perm {H : Type} : ∀ l : List (Lit × DataW H), (l.foldr DataW.insert []).Perm l
  | [] => .refl _
  | x :: l => (insert_perm x _).trans ((foldr_insert_perm l).cons x)
theorem wf_of_wr {a : Int} (h : wr .i64 a = a) : (Lit.int .i64 a).wf = true := by
  rw [wr_eq] at h
  have hb : -9223372036854775808 ≤ a ∧ a ≤ 9223372036854775807 := by
    simp only [IntKind.wrap, IntKind.bits, IntKind.signed, Bool.true_and] at h
    split at h <;> rename_i hc <;> simp at hc <;> omega
  simp only [Lit.wf, IntKind.min, IntKind.max, IntKind.bits, IntKind.signed]
  simp
  exact hb
theorem owns_of {w : World} {k : TypeId} {b : Nat} {es : Array MapEntry} {clock : Nat} (hk : P.underlying k = some (.int .i64)) (hb : w.heap[b]? = some (.map es clock)) (hst : MapKept.Stamped es clock)
    (hkeys : ∀ x, x ∈ es.toList → ∃ a : Int, x.key = .int .i64 a ∧ wr .i64 a = a) (hsz : es.size ≤ 1000000) :
    ∃ D0 : DataW Unit, w.ownsMap P k (fun _ => some (.nil, [])) b es.size D0 ∧ Maps.size D0 ≤ 1000000 ∧ (intKeys D0).Perm (es.toList.map fun x => numKey x.key) := by
  have hrd : ∀ x, x ∈ es.toList → WideElems.rd (H := Unit) P k (fun _ => some (.nil, [])) x = some (.int .i64 (numKey x.key), .nil) := by
    intro x hx
    obtain ⟨a, e1, e2⟩ := hkeys x hx
    obtain ⟨key, val, born⟩ := x
    simp only at e1
    subst e1
    exact WideElems.rd_mk (R := fun _ => some ((DataW.nil : DataW Unit), [])) (yv := (.nil, [])) (keyOf_int_mk hk (wf_of_wr e2)) rfl
  have hmax : (1000000 : Nat) ≤ maxLen := by decide
  refine ⟨.map ((es.toList.map (WideElems.rg P k fun _ => some (.nil, []))).foldr DataW.insert []), ⟨es, clock, hb, ⟨Nat.le_trans hsz hmax, hst, fun x hx => ⟨_, hrd x hx⟩⟩, Nat.le_refl _, rfl⟩, ?_, ?_⟩
  · rw [Maps.size_eq, (foldr_insert_perm _).length_eq, List.length_map]
    simpa using hsz
  · show (List.map (fun p : Lit × DataW Unit => Go.intOf p.1) _).Perm _
    refine ((foldr_insert_perm _).map _).trans ?_
    rw [List.map_map]
    refine List.Perm.of_eq (List.map_congr_left fun x hx => ?_)
    simp only [Function.comp, WideElems.rg_of (hrd x hx)]
    rfl
theorem keysSorted_of (K : SlLaysZI.n7 P ρ) (S : SlLaysZI.n6 P σ) (hs : ∀ m, AnyZI.SortsIn P σ Fence.wide m) (he : ∀ args w, (callFunc (σ.f 9) args).run P w = .ok (.enter (σ.f 9) args) w)
    (hk : ∀ args w, (callFunc (ρ.f 10) args).run P w = .ok (.enter (ρ.f 10) args) w) (hen : entered P (σ.f 6) = true) : KeysSorted P (σ.f 6) (ρ.f 10) where
  enters := hen
  some_ w Bm b es clock hm hb hst hkeys hsz := by
    refine (callsIn_wide (n := 6)).1 ?_
    obtain ⟨D0, hown, hmax, hperm⟩ := owns_of K.t26 hb hst hkeys hsz
    have hBm : Bm < w.heap.size := by
      apply Classical.byContradiction
      intro hn
      have : w.heap[Bm]? = none := Array.getElem?_eq_none (by omega)
      simp [World.cell?, this] at hm
    have hseq := AnyZI.keys_gives (P := P) (ρ := ρ) { K with } Fence.wide 3 trivial rfl (by omega) Bm b es.size D0 w hBm hm hown
    have hml : (1000000 : Nat) ≤ maxLen := by decide
    have cS := AnyZI.sorted_in S Fence.wide 6 trivial trivial trivial trivial rfl (by omega) (hs _) he (ρ.f 10) #[.pointer (some ⟨Bm, 0, none⟩)] trivial hk _ _ (Nat.le_trans hmax hml) (by omega) w hseq
    refine cS.mono ?_
    rintro e w' ⟨v, ss, rfl, hS, hrow, hnil, hb'⟩
    exact ⟨v, ss, _, rfl, hS.trans hperm, hrow, hnil, hb'⟩
  none_ w Bm hm := by
    refine (callsIn_wide (n := 6)).1 ?_
    have hBm : Bm < w.heap.size := by
      apply Classical.byContradiction
      intro hn
      have : w.heap[Bm]? = none := Array.getElem?_eq_none (by omega)
      simp [World.cell?, this] at hm
    have hseq := AnyZI.keys_gives_nil (P := P) (ρ := ρ) { K with } Fence.wide 3 trivial rfl Bm w hBm hm
    have cS := AnyZI.sorted_in S Fence.wide 6 trivial trivial trivial trivial rfl (by omega) (hs _) he (ρ.f 10) #[.pointer (some ⟨Bm, 0, none⟩)] trivial hk _ 0 (Nat.zero_le _) (by omega) w hseq
    refine cS.mono ?_
    rintro e w' ⟨v, ss, rfl, rfl, hrow, hnil, hb'⟩
    exact ⟨by rw [hnil.2 rfl], hb'⟩
def SeqGivesB (n : Nat) (P : Program) (g : Nat) (lb : Array Value) (S : List Int → Prop) (N : Nat) (w : World) : Prop :=
  ∀ (l : Nat) (J : List Int → World → Prop) (W : World), Below w.heap.size w W → (∀ s W1, J s W1 → Below w.heap.size w W1) →
    (∀ pre x W1, J pre W1 → pre.length < N → YieldAt Fence.wide (n - 1) P l #[encZ x] W1 fun e W' => e = .returned (.bool true) ∧ J (pre ++ [x]) W' ∧ KeepsWalks W1 W') →
    J [] W →
    CallsIn Fence.wide n P g (#[.func (.yield l) #[] #[]] ++ lb) W fun e W' => (∃ v, e = .returned v) ∧ ∃ xs, S xs ∧ J xs W'
set_option maxRecDepth 100000 in
set_option maxHeartbeats 2000000 in
theorem appendB_in (L : SlLaysZI.n11 P ρ) (n : Nat) (hn : 2 ≤ n) (g : Nat) (lb : Array Value) (eg : ∀ args w, (callFunc g args).run P w = .ok (.enter g args) w)
    (S : List Int → Prop) (N : Nat) (hN : N ≤ maxLen) (hNb : N * 8 ≤ 140737488355328) (w : World) (hseq : SeqGivesB (n - 1) P g lb S N w) :
    CallsIn Fence.wide n P (ρ.f 11) #[.slice none 0 0, .func (.func g) #[] lb] w fun e w' => ∃ (v : Value) (ss : List Int), e = .returned v ∧ S ss ∧ w'.ownsRow w.heap.size (ρ.t 26) 1 v ss.length (ss.map encZ) ∧ (v = .slice none 0 0 ↔ ss = []) ∧ Below w.heap.size w w' := by
  have h1 : 1 ≤ n := by omega
  have hro : Fence.wide.round = none := rfl
  have h11 : Fence.wide.fn (ρ.f 11) := trivial
  have mixed := L.mixed; have t0 := L.t0; have a0 := L.a0; have z0 := L.z0; have v0 := L.v0; have t24 := L.t24; have a24 := L.a24; have z24 := L.z24; have v24 := L.v24; have t26 := L.t26; have a26 := L.a26; have z26 := L.z26; have v26 := L.v26; have t28 := L.t28; have a28 := L.a28; have z28 := L.z28; have v28 := L.v28
  have hne : ρ.t 24 ≠ ρ.t 26 := fun e => by have h := L.t24; rw [e, L.t26] at h; cases h
  have u0 := run_underlying L.t0; have u24 := run_underlying L.t24; have u26 := run_underlying L.t26; have u28 := run_underlying L.t28
  obtain ⟨_, _, FG⟩ := L.f11
  refine callsIn_of_wp_marks FG rfl h11 ?_ hro
  simp only [SlBodyZ.n11_ntmps ρ, List.size_toArray, List.length_cons, List.length_nil, Nat.reduceAdd, Nat.reduceSub, Array.replicate_succ, Array.replicate_zero, List.push_toArray, List.append_toArray, List.nil_append, List.cons_append]
  gi_wp2
  refine wpIn_rangeFunc ?_
  intro fn hfn
  rw [hro]
  obtain ⟨W0, hW0⟩ : ∃ W0, w.alloc (.cells #[.slice none 0 0] (ρ.t 24)) = W0 := ⟨_, rfl⟩
  have hs0 : W0.heap.size = w.heap.size + 1 := by rw [← hW0]; simp
  have hv0 : W0.heap[w.heap.size]? = some (.cells #[.slice none 0 0] (ρ.t 24) (0, 0)) := by rw [← hW0]; exact World.alloc_heap_new w _
  have hb0 : Below w.heap.size w W0 := by rw [← hW0]; exact (Below.refl _ w).alloc (Nat.le_refl _) _
  rw [hW0]
  obtain ⟨W1, hW1⟩ : ∃ W1, (W0.alloc (.deferred (some []))).alloc (.loop (AnyZI.apRec ρ fn (.func (.func g) #[] lb) w.heap.size W0.heap.size .ready none)) = W1 := ⟨_, rfl⟩
  have hold : ∀ k, k < W0.heap.size → W1.heap[k]? = W0.heap[k]? := fun k hk => by
    rw [← hW1]; exact (Below.heap_alloc _ _ k (by simp; omega)).trans (Below.heap_alloc _ _ k hk)
  have hb1 : Below w.heap.size w W1 := by rw [← hW1]; exact (hb0.alloc hb0.size _).alloc (by have := hb0.size; simp; omega) _
  have hs1 : W1.heap.size = W0.heap.size + 2 := by rw [← hW1]; simp
  have hM : AnyZI.ApAt ρ w fn (.func (.func g) #[] lb) w.heap.size (W0.heap.size + 1) W0.heap.size [] W1 :=
    ⟨⟨_, (hold w.heap.size (by omega)).trans hv0, ⟨rfl, .inl ⟨rfl, rfl⟩⟩, by simp⟩,
     by rw [← hW1]; have := World.alloc_heap_new (W0.alloc (.deferred (some []))) (.loop (AnyZI.apRec ρ fn (.func (.func g) #[] lb) w.heap.size W0.heap.size .ready none)); rwa [World.size_alloc] at this,
     by rw [← hW1]; exact (Below.heap_alloc _ _ _ (by simp)).trans (World.alloc_heap_new W0 _), hb1⟩
  refine ⟨W0.heap.size + 1, [{ target := .collected W0.heap.size, args := #[] }], W1, { target := .fn (.func g) lb, args := #[.func (.yield (W0.heap.size + 1)) #[] #[]] }, W1, g,
    #[.func (.yield (W0.heap.size + 1)) #[] #[]] ++ lb, W1, ?_, ?_, ?_, ?_, fun _ => h1, ?_⟩
  · rw [← hW1]; exact run_enterLoop_outer _ _ _ _ _
  · simp [resolve, go_sem]
  · intro f' hf'; trivial
  · simp [invoke, go_sem, eg]
  · refine (hseq (W0.heap.size + 1) (AnyZI.ApAt ρ w fn (.func (.func g) #[] lb) w.heap.size (W0.heap.size + 1) W0.heap.size) W1 hb1 (fun _ _ hJ => hJ.below)
      (fun pre x W hJ hl => AnyZI.apYield { L with } Fence.wide (n - 1 - 1) w fn hfn _ w.heap.size (W0.heap.size + 1) W0.heap.size (by omega) (by omega) (by omega) (Nat.le_refl _) (by omega) N hN hNb pre x W hJ hl) hM).mono ?_
    rintro e W2 ⟨⟨v0, rfl⟩, ss, hS, h2⟩
    obtain ⟨v, hv, hrow, hnil⟩ := h2.box
    have hend := run_endLoop (P := P) h2.L (by simp [AnyZI.apRec])
    obtain ⟨W3, hW3⟩ : ∃ W3, W2.putObj (W0.heap.size + 1) (.loop { AnyZI.apRec ρ fn (.func (.func g) #[] lb) w.heap.size W0.heap.size .ready none with state := .exhausted }) = W3 := ⟨_, rfl⟩
    rw [hW3] at hend
    have hg3 : W2.grownBy W3 (some (W0.heap.size + 1)) := by rw [← hW3]; exact grownBy_putObj_a _ _ _
    have hv3 : W3.heap[w.heap.size]? = some (.cells #[v] (ρ.t 24) (0, 0)) := by rw [← hW3]; exact (World.putObj_heap_other (by omega)).trans hv
    have hK3 : W3.heap[W0.heap.size]? = some (.deferred (some [])) := by rw [← hW3]; exact (World.putObj_heap_other (by omega)).trans h2.K
    have hrow3 := hrow.kept hg3 (ownsRow_ne_a hrow h2.L (fun cur e => by first | cases e | exact hne (Obj.cells.inj e).2.1))
    have hb3 : Below w.heap.size w W3 := h2.below.grown hg3 h2.below.size (fun k e => by cases e; omega)
    obtain ⟨hc3, hf3⟩ := cell_of_box_a hv3
    clear hW3
    refine ⟨none, W3, hend, ?_⟩
    gi_wp2
    rw [← hs0]
    refine ⟨by simp, .inl ⟨_, _, rfl, run_takeDeferred hK3, ?_⟩⟩
    exact ⟨_, results_tmp rfl _ _ _, v, ss, rfl, hS, hrow3.kept (grownBy_putObj_a _ _ _) (ownsRow_ne_a hrow3 hK3 (fun cur e => by first | cases e | exact hne (Obj.cells.inj e).2.1)), hnil, hb3.grown (grownBy_putObj_a _ _ _) hb3.size (fun k e => by cases e; omega)⟩
theorem below_pair {w A B : World} {n : Nat} (a : Below n w A) (b : Below n w B) (hs : A.heap.size ≤ B.heap.size) : Below n A B :=
  ⟨b.os.trans a.os.symm, b.tape.trans a.tape.symm, b.output.trans a.output.symm, hs, fun k hk => (b.block k hk).trans (a.block k hk).symm⟩
end Go.Vm
end

section
namespace Go.Vm
def pickK (c a b : V) : Option V := match c with
  | .bool true => some a
  | .bool false => some b
  | _ => none
def nilchkK (x : V) : Option V := match x with
  | .ptr b o => some (.ptr b o)
  | .func f a c => some (.func f a c)
  | _ => none
def aggK (o : Option (List V)) : Option V := match o with
  | some c => some (.agg c)
  | none => none
def eqK (neg : Bool) (r : Option Bool) : Option V := match r with
  | some r => some (.bool (cond neg (!r) r))
  | none => none
def faddrK (off : Nat) (x : V) : Option V := match x with
  | .ptr b o => some (.ptr b (o + off))
  | _ => none
def iaddrK (sz : Nat) (x i : V) : Option V := match x with
  | .slice b o sz' len _ _ => match natOf i with
    | some n => cond (Nat.blt n len) (cond (Nat.beq sz sz') (some (.ptr b (o + n * sz))) none) none
    | none => none
  | _ => none
def extK (i : Nat) (x : V) : Option V := match x with
  | .tup l => getX l i
  | _ => none
def lenbK (x : V) : Option V := match x with
  | .nilslice => some (.int .i64 (.ofNat 0))
  | .slice _ _ _ len _ _ => some (.int .i64 (.ofNat len))
  | _ => none
def notK (x : V) : Option V := match x with
  | .bool b => some (.bool (!b))
  | _ => none
def fieldnK (off n : Nat) (x : V) : Option V := match x with
  | .agg l => match takeX n (l.drop off) with
    | some r => some (.agg r)
    | none => none
  | _ => none
def field1K (off : Nat) (x : V) : Option V := match x with
  | .agg l => getX l off
  | _ => none
def pK (env : Env) (fr : Fr) (o : POp) : Option V := match o with
  | .mov x => some (ev fr x)
  | .pick c a b => pickK (ev fr c) (ev fr a) (ev fr b)
  | .build c l => aggK (fillV c (evParts fr l))
  | .nilchk x => nilchkK (ev fr x)
  | .bin op x y => binV env.tab op (ev fr x) (ev fr y)
  | .eq ty neg x y => eqK neg (eqV ty (ev fr x) (ev fr y))
  | .faddr off x => faddrK off (ev fr x)
  | .iaddr sz x y => iaddrK sz (ev fr x) (ev fr y)
  | .ext x i => extK i (ev fr x)
  | .lenb x => lenbK (ev fr x)
  | .not x => notK (ev fr x)
  | .field1 n x => field1K n (ev fr x)
  | .fieldn off n x => fieldnK off n (ev fr x)
  | o => pV env fr o
theorem pK_eq (env : Env) (fr : Fr) (o : POp) : pK env fr o = pV env fr o := by cases o <;> rfl
def load1K (fr : Fr) (h : Hp) (x : Opd) : Option (V × Hp) := match ev fr x with
  | .ptr b o => match h.read b o 1 with
    | some (v :: _) => some (v, h)
    | _ => none
  | _ => none
def loadnK (fr : Fr) (h : Hp) (n : Nat) (x : Opd) : Option (V × Hp) := match ev fr x with
  | .ptr b o => match h.read b o n with
    | some l => some (.agg l, h)
    | none => none
  | _ => none
def storeK (fr : Fr) (h : Hp) (sz : Nat) (a x : Opd) : Option (V × Hp) := match ev fr a with
  | .ptr b o => cond (Nat.beq (ev fr x).cells.length sz) (match h.write b o (ev fr x).cells with
    | some h' => some (.tup [], h')
    | none => none) none
  | _ => none
def callvK (call : Nat → List V → Hp → Option (V × Hp)) (fr : Fr) (h : Hp) (x : Opd) (args : List Opd) : Option (V × Hp) := match ev fr x with
  | .func f first captured => call f (first ++ evs fr args ++ captured) h
  | _ => none
def eK (call : Nat → List V → Hp → Option (V × Hp)) (fr : Fr) (h : Hp) (o : EOp) : Option (V × Hp) := match o with
  | .store sz a x => storeK fr h sz a x
  | .call f args => call f (evs fr args) h
  | .callv x args => callvK call fr h x args
  | .append sz bytes s x => appendV sz bytes h (ev fr s) (ev fr x)
  | .extern f args => call f (evs fr args) h
  | o => eV call fr h o
theorem eK_eq (call : Nat → List V → Hp → Option (V × Hp)) (fr : Fr) (h : Hp) (o : EOp) : eK call fr h o = eV call fr h o := by cases o <;> rfl
def allocK (fr : Fr) (h : Hp) (o : AOp) : Option (V × Hp) := match aV fr o with
  | some (b, mk) => some (mk h.next, h.new b)
  | none => none
def pureK (env : Env) (fr : Fr) (h : Hp) (o : POp) : Option (V × Hp) := match pK env fr o with
  | some v => some (v, h)
  | none => none
def opK (env : Env) (call : Nat → List V → Hp → Option (V × Hp)) (fr : Fr) (h : Hp) (o : MOp) : Option (V × Hp) := match o with
  | .p o => pureK env fr h o
  | .a o => allocK fr h o
  | .load1 x => load1K fr h x
  | .loadn n x => loadnK fr h n x
  | .e o => eK call fr h o
theorem opK_eq (env : Env) (call : Nat → List V → Hp → Option (V × Hp)) (fr : Fr) (h : Hp) (o : MOp) : opK env call fr h o = opV env call fr h o := by
  cases o
  case p o => simp only [opK, pureK, pK_eq, opV]; rfl
  case e o => exact eK_eq call fr h o
  all_goals rfl
def goK {α : Type} (k : Fr → Hp → Option α) (fr : Fr) (dst : Option Nat) (r : Option (V × Hp)) : Option α := match r with
  | some (v, h') => k (putO fr dst v) h'
  | none => none
def gateK {α : Type} (fr : Fr) (g : Option (Nat × Bool)) (no yes : Option α) : Option α := match g with
  | none => yes
  | some g => match gate fr (some g) with
    | .no => no
    | .bad => none
    | .yes => yes
noncomputable def runK (env : Env) (call : Nat → List V → Hp → Option (V × Hp)) (l : List MO) : Fr → Hp → Option (Fr × Hp) :=
  List.rec (motive := fun _ => Fr → Hp → Option (Fr × Hp)) (fun fr h => some (fr, h))
    (fun o _ ih fr h => gateK fr o.guard (ih (putO fr o.dst (.tup [])) h) (goK ih fr o.dst (opK env call fr h o.op))) l
theorem runK_eq (env : Env) (call : Nat → List V → Hp → Option (V × Hp)) : ∀ (l : List MO) (fr : Fr) (h : Hp), runK env call l fr h = runOps env call l fr h
  | [], _, _ => rfl
  | o :: l, fr, h => by
    show gateK fr o.guard (runK env call l (putO fr o.dst (.tup [])) h) (goK (runK env call l) fr o.dst (opK env call fr h o.op)) = _
    have ih : runK env call l = runOps env call l := funext fun fr => funext fun h => runK_eq env call l fr h
    rw [ih, opK_eq]
    simp only [runOps]
    cases o.guard with
    | none => rfl
    | some g => rfl
def stK (e : Bool) (p : Nat) (h : Hp) (st : List (Nat × Hp)) : List (Nat × Hp) := cond e ((p, h) :: st) st
def goD (k : Nat → Fr → Hp → List (Nat × Hp) → List Rd → Option (Fr × Hp)) (p : Nat) (fr : Fr) (dst : Option Nat) (e : Bool) (st : List (Nat × Hp)) (rds : List Rd) (r : Option (V × Hp)) : Option (Fr × Hp) := match r with
  | some (v, h') => k (p + 1) (putO fr dst v) h' (stK e (p + 1) h' st) rds
  | none => none
def endD (fr : Fr) (h : Hp) (st : List (Nat × Hp)) (rds : List Rd) : Option (Fr × Hp) := cond (allStill st rds) (some (fr, h)) none
noncomputable def runDK (env : Env) (call : Nat → List V → Hp → Option (V × Hp)) (l : List DO) : Nat → Fr → Hp → List (Nat × Hp) → List Rd → Option (Fr × Hp) :=
  List.rec (motive := fun _ => Nat → Fr → Hp → List (Nat × Hp) → List Rd → Option (Fr × Hp)) (fun _ fr h st rds => endD fr h st rds)
    (fun d _ ih p fr h st rds => gateK fr d.o.guard (ih (p + 1) (putO fr d.o.dst (.tup [])) h (stK (isE d.o.op) (p + 1) h st) rds)
      (goD ih p fr d.o.dst (isE d.o.op) st (rdOf fr h d ++ rds) (opK env call fr h d.o.op))) l
theorem runDK_eq (env : Env) (call : Nat → List V → Hp → Option (V × Hp)) : ∀ (l : List DO) (p : Nat) (fr : Fr) (h : Hp) (st : List (Nat × Hp)) (rds : List Rd), runDK env call l p fr h st rds = runD env call l p fr h st rds
  | [], _, _, _, _, _ => rfl
  | d :: l, p, fr, h, st, rds => by
    show gateK fr d.o.guard (runDK env call l (p + 1) (putO fr d.o.dst (.tup [])) h (stK (isE d.o.op) (p + 1) h st) rds)
      (goD (runDK env call l) p fr d.o.dst (isE d.o.op) st (rdOf fr h d ++ rds) (opK env call fr h d.o.op)) = _
    have ih : runDK env call l = runD env call l := funext fun p => funext fun fr => funext fun h => funext fun st => funext fun rds => runDK_eq env call l p fr h st rds
    rw [ih, opK_eq]
    simp only [runD]
    cases d.o.guard with
    | none => rfl
    | some g => rfl
def regK (r : Option (Fr × Hp)) : Res := match r with
  | some (fr', h') => .ok fr' h'
  | none => .fail
def seqK (k : Fr → Hp → Res) (r : Res) : Res := match r with
  | .ok fr' h' => k fr' h'
  | r => r
def condK (v : V) (a b : Res) : Res := match v with
  | .bool true => a
  | .bool false => b
  | _ => .fail
def blockK (id : Nat) (r : Res) : Res := match r with
  | .exit id' fr' h' => cond (Nat.beq id' id) (.ok fr' h') (.exit id' fr' h')
  | r => r
def resK (rs : List RV) (r : Res) : Option (V × Hp) := match r with
  | .ok fr h' => resP fr h' rs
  | .ret fr h' => resP fr h' rs
  | _ => none
def funK (ex : MCode → Fr → Hp → Res) (args : List V) (h : Hp) (fn : Option Fun) : Option (V × Hp) := match fn with
  | none => none
  | some fn => cond (Nat.beq args.length fn.nargs) (resK fn.results (ex fn.body (argsFr args 0 .leaf) h)) none
def orK (a b : Option (V × Hp)) : Option (V × Hp) := match a with
  | some r => some r
  | none => b
def callK (p : Prog) (ext : Ext) (ex : MCode → Fr → Hp → Res) (f : Nat) (args : List V) (h : Hp) : Option (V × Hp) := orK (ext f args h) (funK ex args h (p.funs.get f))
theorem callK_eq (p : Prog) (ext : Ext) (ex : MCode → Fr → Hp → Res) : callK p ext ex = callV p ext ex := by
  funext f args h
  unfold callK callV orK funK resK
  cases ext f args h with
  | some r => rfl
  | none => cases p.funs.get f <;> rfl
noncomputable def stepK (p : Prog) (ext : Ext) (ex : MCode → Fr → Hp → Res) (c : MCode) (fr : Fr) (h : Hp) : Res := match c with
  | .skip => .ok fr h
  | .region ops => regK (runK p.env (callK p ext ex) ops fr h)
  | .dregion ops => regK (runDK p.env (callK p ext ex) ops 0 fr h [(0, h)] [])
  | .seq a b => seqK (ex b) (ex a fr h)
  | .cond c a b => condK (ev fr c) (ex a fr h) (ex b fr h)
  | .block id c => blockK id (ex c fr h)
  | .loop c => seqK (ex (.loop c)) (ex c fr h)
  | .exit id => .exit id fr h
  | .ret => .ret fr h
noncomputable def execK (p : Prog) (ext : Ext) (n : Nat) : MCode → Fr → Hp → Res :=
  Nat.rec (motive := fun _ => MCode → Fr → Hp → Res) (fun _ _ _ => .fail) (fun _ ih c fr h => stepK p ext ih c fr h) n
theorem execK_eq (p : Prog) (ext : Ext) : ∀ (n : Nat) (c : MCode) (fr : Fr) (h : Hp), execK p ext n c fr h = exec p ext n c fr h
  | 0, _, _, _ => rfl
  | n + 1, c, fr, h => by
    show stepK p ext (execK p ext n) c fr h = _
    have ih : execK p ext n = exec p ext n := funext fun c => funext fun fr => funext fun h => execK_eq p ext n c fr h
    rw [ih]
    cases c with
    | region ops =>
      show regK (runK p.env (callK p ext (exec p ext n)) ops fr h) = _
      rw [callK_eq, runK_eq]
      rfl
    | dregion ops =>
      show regK (runDK p.env (callK p ext (exec p ext n)) ops 0 fr h [(0, h)] []) = _
      rw [callK_eq, runDK_eq]
      rfl
    | _ => rfl
noncomputable def runsK (p : Prog) (ext : Ext) (n f : Nat) (args : List V) (g : Nat) : Bool :=
  match callK p ext (execK p ext n) f args (h00 g) with
  | some (.bool true, _) => true
  | _ => false
theorem runs_of {p : Prog} {ext : Ext} {n f : Nat} {args : List V} {g : Nat} (h : runsK p ext n f args g = true) : runs p ext n f args g = true := by
  have ih : execK p ext n = exec p ext n := funext fun c => funext fun fr => funext fun h => execK_eq p ext n c fr h
  unfold runsK at h
  rw [ih, callK_eq] at h
  exact h
end Go.Vm
end

section
namespace Go.Proofs.YtffjinldphmhnaaGreat.sa
def F0 (i : Nat) : Nat := ([0, 133, 0, 101, 139, 145, 0, 0, 166, 102, 100, 167, 0, 172, 176, 0, 0, 0, 146, 144, 188, 0, 0, 20, 21, 74, 0, 0, 0, 0, 0, 0, 0, 0, 0, 0, 0, 0, 0, 0, 0, 0, 0, 0, 0, 0, 109, 0, 0, 34, 90, 0, 0, 0, 0, 0, 0, 0, 0, 0, 0, 0, 0, 0, 0, 79, 132, 131, 134, 135, 0, 0, 0, 0, 0, 0, 0, 0, 0, 0, 0, 0, 189, 0, 0, 0, 0, 52, 40, 108, 107, 94, 0, 0, 0, 0, 0, 0, 0, 22, 0, 0, 0, 0, 0, 0, 0, 0, 0, 0, 0, 0, 0, 0, 0, 0, 0, 0, 0, 0, 0, 0, 0, 0, 0, 0, 0, 0, 0, 0, 0, 0, 0, 0, 0, 0, 0, 0, 0, 0, 0, 0, 0, 0, 0, 0, 0, 0, 0, 0, 0, 0, 0, 0, 0, 0, 0, 0, 0, 0, 0, 0, 0, 0, 0, 0, 0, 0, 0, 0, 0, 0, 0, 0, 0, 0, 0, 0, 0, 0, 0, 0, 0, 0, 0, 0, 0, 0, 0, 0, 0, 0, 0, 0, 0, 0, 0, 0, 0, 0, 0, 0, 0, 0, 0, 0, 0, 0, 0, 0, 0, 0, 0, 0, 0, 0, 0, 0, 0, 0, 152, 0, 0, 0, 0, 0, 0, 0, 0, 0, 0, 0, 0, 0, 0, 0, 0, 0, 0, 149, 0, 0, 0, 0, 0, 0, 0, 0, 0, 0, 0, 0, 0, 0, 0, 57, 0, 0, 0, 0, 0, 0, 0, 0, 113, 114, 115, 0, 68, 0, 0, 0, 0, 0, 0, 0, 0, 0, 0, 125, 0, 0, 0, 150, 0, 0, 0, 0, 0, 0, 0, 0, 0, 0, 0, 0, 0, 0, 0, 0, 0, 0, 0, 12, 17, 33, 30, 37, 38, 36, 18, 23, 39, 24, 58, 59, 69, 88, 80, 91, 93, 82, 70, 72, 75, 78, 77, 126, 85, 92, 67, 71, 27, 127, 64, 76, 153, 96, 106, 0, 192, 46, 47, 50, 51, 13, 54, 104, 142, 116, 201, 200, 105, 112, 111, 173, 141, 119, 84, 44, 49, 95, 97, 98, 140, 143, 99, 174, 175, 193, 202, 0, 0, 0, 0, 0, 0, 0, 0, 0, 0, 0, 0, 0, 124, 210, 0, 0, 0, 0, 0, 0, 213, 0, 0, 0, 0, 0, 0, 0, 66, 65, 0, 0, 0, 0, 0, 0, 123, 122, 0, 5, 32] : List Nat).getD i 0
end Go.Proofs.YtffjinldphmhnaaGreat.sa
end

section
set_option maxRecDepth 100000
namespace Go.Proofs.YtffjinldphmhnaaGreat
open Go.Vm
def m5 : Fun := Go.Lib.M411 Go.Proofs.YtffjinldphmhnaaGreat.sa.F0
theorem v5 : IsFun Tryz.prog 5 m5 := ⟨_, Tryz.func5, by kernel_rfl, by kernel_rfl⟩
def m12 : Fun := Go.Lib.M303 Go.Proofs.YtffjinldphmhnaaGreat.sa.F0
theorem v12 : IsFun Tryz.prog 12 m12 := ⟨_, Tryz.func12, by kernel_rfl, by kernel_rfl⟩
def m17 : Fun := Go.Lib.M304 Go.Proofs.YtffjinldphmhnaaGreat.sa.F0
theorem v17 : IsFun Tryz.prog 17 m17 := ⟨_, Tryz.func17, by kernel_rfl, by kernel_rfl⟩
def m18 : Fun := ⟨29,1,.seq (.region [⟨(some 2),(.p (.mov (.val (.nilslice)))),none⟩])
 (.seq (.region [⟨(some 6),(.p (.mov (.tmp 0))),none⟩,⟨(some 7),(.p (.nilchk (.tmp 6))),none⟩,⟨(some 8),(.p (.faddr 1 (.tmp 7))),none⟩,⟨(some 9),(.load1 (.tmp 8)),none⟩,⟨(some 10),(.e (.call 70 [(.tmp 9)])),none⟩,⟨(some 3),(.p (.mov (.tmp 10))),none⟩])
 (.seq (.seq (.region [⟨(some 11),(.p (.mov (.tmp 0))),none⟩,⟨(some 12),(.p (.nilchk (.tmp 11))),none⟩,⟨(some 13),(.p (.faddr 2 (.tmp 12))),none⟩,⟨(some 14),(.load1 (.tmp 13)),none⟩,⟨(some 15),(.p (.lenb (.tmp 14))),none⟩,⟨(some 16),(.p (.mov (.val (.int .i64 (.ofNat 0))))),none⟩])
 (.block 0 (.loop (.seq (.region [⟨(some 17),(.p (.bin .lss (.tmp 16) (.tmp 15))),none⟩])
 (.seq (.cond (.tmp 17) (.skip)
 (.exit 0))
 (.seq (.block 1 (.seq (.region [⟨(some 18),(.p (.iaddr 1 (.tmp 14) (.tmp 16))),none⟩,⟨(some 19),(.load1 (.tmp 18)),none⟩,⟨(some 5),(.p (.mov (.tmp 19))),none⟩])
 (.region [⟨(some 20),(.p (.mov (.tmp 3))),none⟩,⟨(some 21),(.p (.mov (.tmp 5))),none⟩,⟨(some 22),(.e (.call 67 [(.tmp 21)])),none⟩,⟨(some 23),(.e (.append 1 8 (.tmp 20) (.tmp 22))),none⟩,⟨(some 3),(.p (.mov (.tmp 23))),none⟩])))
 (.region [⟨(some 24),(.p (.bin .add (.tmp 16) (.val (.int .i64 (.ofNat 1))))),none⟩,⟨(some 16),(.p (.mov (.tmp 24))),none⟩])))))))
 (.seq (.region [⟨(some 25),(.p (.mov (.tmp 3))),none⟩,⟨(some 26),(.e (.call 71 [(.tmp 25)])),none⟩])
 (.seq (.region [⟨(some 27),(.p (.mov (.tmp 3))),none⟩,⟨(some 28),(.e (.call 72 [(.tmp 27)])),none⟩,⟨(some 2),(.p (.mov (.tmp 28))),none⟩])
 (.ret))))),[.tmp 2]⟩
theorem v18 : IsFun Tryz.prog 18 m18 := ⟨_, Tryz.func18, by kernel_rfl, by kernel_rfl⟩
def m20 : Fun := Go.Lib.M23 Go.Proofs.YtffjinldphmhnaaGreat.sa.F0
theorem v20 : IsFun Tryz.prog 20 m20 := ⟨_, Tryz.func20, by kernel_rfl, by kernel_rfl⟩
def m21 : Fun := Go.Lib.M24 Go.Proofs.YtffjinldphmhnaaGreat.sa.F0
theorem v21 : IsFun Tryz.prog 21 m21 := ⟨_, Tryz.func21, by kernel_rfl, by kernel_rfl⟩
def m23 : Fun := ⟨11,2,.seq (.region [⟨(some 3),(.a (.box (.tmp 1))),none⟩,⟨(some 4),(.p (.mov (.val (.nilslice)))),none⟩])
 (.seq (.region [⟨(some 6),(.p (.mkfunc 75 [] [(.tmp 3)])),none⟩,⟨(some 5),(.p (.mov (.tmp 6))),none⟩])
 (.seq (.region [⟨(some 7),(.p (.mov (.tmp 0))),none⟩,⟨(some 8),(.p (.mov (.tmp 5))),none⟩,⟨(some 9),(.p (.mkfunc 78 [] [(.tmp 3)])),none⟩,⟨(some 10),(.e (.call 77 [(.tmp 7),(.tmp 8),(.tmp 9)])),none⟩,⟨(some 4),(.p (.mov (.tmp 10))),none⟩])
 (.ret))),[.tmp 4]⟩
theorem v23 : IsFun Tryz.prog 23 m23 := ⟨_, Tryz.func23, by kernel_rfl, by kernel_rfl⟩
def m24 : Fun := ⟨8,1,.seq (.region [⟨(some 2),(.p (.mov (.val (.nilslice)))),none⟩])
 (.seq (.region [⟨(some 3),(.p (.mov (.tmp 0))),none⟩,⟨(some 4),(.p (.nilchk (.tmp 3))),none⟩,⟨(some 5),(.p (.faddr 1 (.tmp 4))),none⟩,⟨(some 6),(.load1 (.tmp 5)),none⟩,⟨(some 7),(.e (.call 70 [(.tmp 6)])),none⟩,⟨(some 2),(.p (.mov (.tmp 7))),none⟩])
 (.ret)),[.tmp 2]⟩
theorem v24 : IsFun Tryz.prog 24 m24 := ⟨_, Tryz.func24, by kernel_rfl, by kernel_rfl⟩
def m25 : Fun := ⟨82,2,.seq (.region [⟨(some 4),(.p (.mov (.val (.bool false)))),none⟩])
 (.seq (.region [⟨(some 5),(.p (.mov (.val (.nilslice)))),none⟩])
 (.seq (.seq (.region [⟨(some 14),(.p (.mov (.tmp 1))),none⟩,⟨(some 15),(.p (.lenb (.tmp 14))),none⟩,⟨(some 16),(.p (.mov (.val (.int .i64 (.ofNat 0))))),none⟩])
 (.block 0 (.loop (.seq (.region [⟨(some 17),(.p (.bin .lss (.tmp 16) (.tmp 15))),none⟩])
 (.seq (.cond (.tmp 17) (.skip)
 (.exit 0))
 (.seq (.block 1 (.seq (.region [⟨(some 18),(.p (.iaddr 1 (.tmp 14) (.tmp 16))),none⟩,⟨(some 19),(.load1 (.tmp 18)),none⟩,⟨(some 7),(.p (.mov (.tmp 19))),none⟩])
 (.seq (.region [⟨(some 21),(.p (.mov (.tmp 0))),none⟩,⟨(some 22),(.p (.nilchk (.tmp 21))),none⟩,⟨(some 23),(.p (.faddr 1 (.tmp 22))),none⟩,⟨(some 24),(.load1 (.tmp 23)),none⟩,⟨(some 25),(.p (.mov (.tmp 7))),none⟩,⟨(some 26),(.e (.call 80 [(.tmp 24),(.tmp 25)])),none⟩,⟨(some 20),(.p (.mov (.tmp 26))),none⟩,⟨(some 27),(.p (.ext (.tmp 20) 0)),none⟩,⟨(some 28),(.p (.ext (.tmp 20) 1)),none⟩,⟨(some 8),(.a (.new [.int .i64 (.ofNat 0),.nilslice,.int .i64 (.ofNat 0),.int .i64 (.ofNat 0),.int .i64 (.ofNat 0),.int .i64 (.ofNat 0)])),none⟩,⟨none,(.e (.store 6 (.tmp 8) (.tmp 27))),none⟩,⟨(some 9),(.p (.mov (.tmp 28))),none⟩])
 (.seq (.seq (.region [⟨(some 29),(.p (.mov (.tmp 9))),none⟩,⟨(some 30),(.p (.not (.tmp 29))),none⟩])
 (.cond (.tmp 30) (.seq (.region [⟨(some 4),(.p (.mov (.val (.bool false)))),none⟩])
 (.ret))
 (.skip)))
 (.region [⟨(some 31),(.p (.mov (.tmp 5))),none⟩,⟨(some 32),(.loadn 6 (.tmp 8)),none⟩,⟨(some 33),(.a (.bslice [.int .i64 (.ofNat 0),.nilslice,.int .i64 (.ofNat 0),.int .i64 (.ofNat 0),.int .i64 (.ofNat 0),.int .i64 (.ofNat 0)] 6 1 [(0,6,(.tmp 32))])),none⟩,⟨(some 34),(.e (.append 6 64 (.tmp 31) (.tmp 33))),none⟩,⟨(some 5),(.p (.mov (.tmp 34))),none⟩])))))
 (.region [⟨(some 35),(.p (.bin .add (.tmp 16) (.val (.int .i64 (.ofNat 1))))),none⟩,⟨(some 16),(.p (.mov (.tmp 35))),none⟩])))))))
 (.seq (.region [⟨(some 37),(.p (.mov (.tmp 0))),none⟩,⟨(some 38),(.p (.nilchk (.tmp 37))),none⟩,⟨(some 39),(.p (.faddr 0 (.tmp 38))),none⟩,⟨(some 40),(.loadn 1 (.tmp 39)),none⟩,⟨(some 41),(.p (.mov (.tmp 5))),none⟩,⟨(some 42),(.e (.call 81 [(.tmp 40),(.tmp 41)])),none⟩,⟨(some 36),(.p (.mov (.tmp 42))),none⟩,⟨(some 43),(.p (.ext (.tmp 36) 0)),none⟩,⟨(some 44),(.p (.ext (.tmp 36) 1)),none⟩,⟨(some 10),(.p (.mov (.tmp 43))),none⟩,⟨(some 11),(.p (.mov (.tmp 44))),none⟩])
 (.seq (.seq (.dregion [⟨⟨(some 45),(.p (.mov (.tmp 11))),none⟩,0,14⟩,⟨⟨(some 46),(.p (.not (.tmp 45))),none⟩,0,14⟩,⟨⟨(some 47),(.p (.mov (.tmp 46))),none⟩,0,14⟩,⟨⟨(some 48),(.p (.mov (.tmp 0))),(some (47,false))⟩,0,14⟩,⟨⟨(some 49),(.p (.nilchk (.tmp 48))),(some (47,false))⟩,0,14⟩,⟨⟨(some 50),(.p (.faddr 2 (.tmp 49))),(some (47,false))⟩,0,14⟩,⟨⟨(some 51),(.load1 (.tmp 50)),(some (47,false))⟩,0,14⟩,⟨⟨(some 52),(.p (.lenb (.tmp 51))),(some (47,false))⟩,0,14⟩,⟨⟨(some 53),(.p (.mov (.tmp 0))),(some (47,false))⟩,0,14⟩,⟨⟨(some 54),(.p (.nilchk (.tmp 53))),(some (47,false))⟩,0,14⟩,⟨⟨(some 55),(.p (.faddr 3 (.tmp 54))),(some (47,false))⟩,0,14⟩,⟨⟨(some 56),(.load1 (.tmp 55)),(some (47,false))⟩,0,14⟩,⟨⟨(some 57),(.p (.bin .geq (.tmp 52) (.tmp 56))),(some (47,false))⟩,0,14⟩,⟨⟨(some 58),(.p (.pick (.tmp 47) (.val (.bool true)) (.tmp 57))),none⟩,0,14⟩])
 (.cond (.tmp 58) (.seq (.region [⟨(some 4),(.p (.mov (.val (.bool false)))),none⟩])
 (.ret))
 (.skip)))
 (.seq (.seq (.region [⟨(some 59),(.p (.mov (.tmp 1))),none⟩,⟨(some 60),(.p (.lenb (.tmp 59))),none⟩,⟨(some 61),(.p (.mov (.val (.int .i64 (.ofNat 0))))),none⟩])
 (.block 2 (.loop (.seq (.region [⟨(some 62),(.p (.bin .lss (.tmp 61) (.tmp 60))),none⟩])
 (.seq (.cond (.tmp 62) (.skip)
 (.exit 2))
 (.seq (.block 3 (.seq (.region [⟨(some 63),(.p (.iaddr 1 (.tmp 59) (.tmp 61))),none⟩,⟨(some 64),(.load1 (.tmp 63)),none⟩,⟨(some 13),(.p (.mov (.tmp 64))),none⟩])
 (.region [⟨(some 65),(.p (.mov (.tmp 0))),none⟩,⟨(some 66),(.p (.nilchk (.tmp 65))),none⟩,⟨(some 67),(.p (.faddr 1 (.tmp 66))),none⟩,⟨(some 68),(.load1 (.tmp 67)),none⟩,⟨(some 69),(.p (.mov (.tmp 13))),none⟩,⟨(some 70),(.e (.call 82 [(.tmp 68),(.tmp 69)])),none⟩])))
 (.region [⟨(some 71),(.p (.bin .add (.tmp 61) (.val (.int .i64 (.ofNat 1))))),none⟩,⟨(some 61),(.p (.mov (.tmp 71))),none⟩])))))))
 (.seq (.region [⟨(some 72),(.p (.mov (.tmp 0))),none⟩,⟨(some 73),(.p (.mov (.tmp 0))),none⟩,⟨(some 74),(.p (.nilchk (.tmp 73))),none⟩,⟨(some 75),(.p (.faddr 2 (.tmp 74))),none⟩,⟨(some 76),(.load1 (.tmp 75)),none⟩,⟨(some 77),(.p (.mov (.tmp 10))),none⟩,⟨(some 78),(.a (.bslice [.nilptr] 1 1 [(0,1,(.tmp 77))])),none⟩,⟨(some 79),(.e (.append 1 8 (.tmp 76) (.tmp 78))),none⟩,⟨(some 80),(.p (.nilchk (.tmp 72))),none⟩,⟨(some 81),(.p (.faddr 2 (.tmp 80))),none⟩,⟨none,(.e (.store 1 (.tmp 81) (.tmp 79))),none⟩])
 (.seq (.region [⟨(some 4),(.p (.mov (.val (.bool true)))),none⟩])
 (.ret)))))))),[.tmp 4]⟩
theorem v25 : IsFun Tryz.prog 25 m25 := ⟨_, Tryz.func25, by kernel_rfl, by kernel_rfl⟩
def m26 : Fun := ⟨8,1,.seq (.region [⟨(some 2),(.p (.mov (.val (.nilslice)))),none⟩])
 (.seq (.region [⟨(some 3),(.p (.mov (.tmp 0))),none⟩,⟨(some 4),(.p (.nilchk (.tmp 3))),none⟩,⟨(some 5),(.p (.faddr 2 (.tmp 4))),none⟩,⟨(some 6),(.load1 (.tmp 5)),none⟩,⟨(some 7),(.e (.call 83 [(.tmp 6)])),none⟩,⟨(some 2),(.p (.mov (.tmp 7))),none⟩])
 (.ret)),[.tmp 2]⟩
theorem v26 : IsFun Tryz.prog 26 m26 := ⟨_, Tryz.func26, by kernel_rfl, by kernel_rfl⟩
def m27 : Fun := ⟨11,2,.seq (.region [⟨(some 4),(.p (.mov (.val (.int .i64 (.ofNat 0))))),none⟩])
 (.seq (.region [⟨(some 5),(.p (.mov (.tmp 0))),none⟩,⟨(some 6),(.p (.nilchk (.tmp 5))),none⟩,⟨(some 7),(.p (.faddr 1 (.tmp 6))),none⟩,⟨(some 8),(.load1 (.tmp 7)),none⟩,⟨(some 9),(.p (.mov (.tmp 1))),none⟩,⟨(some 10),(.e (.call 84 [(.tmp 8),(.tmp 9)])),none⟩,⟨(some 4),(.p (.mov (.tmp 10))),none⟩])
 (.ret)),[.tmp 4]⟩
theorem v27 : IsFun Tryz.prog 27 m27 := ⟨_, Tryz.func27, by kernel_rfl, by kernel_rfl⟩
def m28 : Fun := ⟨142,4,.seq (.region [⟨(some 8),(.p (.mov (.val (.bool false)))),none⟩])
 (.seq (.region [⟨(some 21),(.p (.mov (.tmp 0))),none⟩,⟨(some 22),(.p (.nilchk (.tmp 21))),none⟩,⟨(some 23),(.p (.faddr 2 (.tmp 22))),none⟩,⟨(some 24),(.load1 (.tmp 23)),none⟩,⟨(some 25),(.p (.lenb (.tmp 24))),none⟩,⟨(some 9),(.p (.mov (.tmp 25))),none⟩])
 (.seq (.seq (.region [⟨(some 26),(.p (.mov (.tmp 1))),none⟩,⟨(some 27),(.p (.bin .lss (.tmp 26) (.val (.int .i64 (.ofNat 0))))),none⟩,⟨(some 28),(.p (.mov (.tmp 27))),none⟩,⟨(some 29),(.p (.mov (.tmp 1))),(some (28,false))⟩,⟨(some 30),(.p (.mov (.tmp 9))),(some (28,false))⟩,⟨(some 31),(.p (.bin .geq (.tmp 29) (.tmp 30))),(some (28,false))⟩,⟨(some 32),(.p (.pick (.tmp 28) (.val (.bool true)) (.tmp 31))),none⟩,⟨(some 33),(.p (.mov (.tmp 32))),none⟩,⟨(some 34),(.p (.mov (.tmp 2))),(some (33,false))⟩,⟨(some 35),(.p (.bin .lss (.tmp 34) (.val (.int .i64 (.ofNat 0))))),(some (33,false))⟩,⟨(some 36),(.p (.pick (.tmp 33) (.val (.bool true)) (.tmp 35))),none⟩,⟨(some 37),(.p (.mov (.tmp 36))),none⟩,⟨(some 38),(.p (.mov (.tmp 2))),(some (37,false))⟩,⟨(some 39),(.p (.mov (.tmp 9))),(some (37,false))⟩,⟨(some 40),(.p (.bin .geq (.tmp 38) (.tmp 39))),(some (37,false))⟩,⟨(some 41),(.p (.pick (.tmp 37) (.val (.bool true)) (.tmp 40))),none⟩,⟨(some 42),(.p (.mov (.tmp 41))),none⟩,⟨(some 43),(.p (.mov (.tmp 3))),(some (42,false))⟩,⟨(some 44),(.p (.lenb (.tmp 43))),(some (42,false))⟩,⟨(some 45),(.p (.bin .gtr (.tmp 44) (.val (.int .i64 (.ofNat 64))))),(some (42,false))⟩,⟨(some 46),(.p (.pick (.tmp 42) (.val (.bool true)) (.tmp 45))),none⟩])
 (.cond (.tmp 46) (.seq (.region [⟨(some 8),(.p (.mov (.val (.bool false)))),none⟩])
 (.ret))
 (.skip)))
 (.seq (.region [⟨(some 10),(.p (.mov (.val (.nilslice)))),none⟩])
 (.seq (.seq (.region [⟨(some 47),(.p (.mov (.tmp 3))),none⟩,⟨(some 48),(.p (.lenb (.tmp 47))),none⟩,⟨(some 49),(.p (.mov (.val (.int .i64 (.ofNat 0))))),none⟩])
 (.block 0 (.loop (.seq (.region [⟨(some 50),(.p (.bin .lss (.tmp 49) (.tmp 48))),none⟩])
 (.seq (.cond (.tmp 50) (.skip)
 (.exit 0))
 (.seq (.block 1 (.seq (.region [⟨(some 51),(.p (.iaddr 1 (.tmp 47) (.tmp 49))),none⟩,⟨(some 52),(.load1 (.tmp 51)),none⟩,⟨(some 12),(.p (.mov (.tmp 52))),none⟩])
 (.seq (.region [⟨(some 53),(.p (.mov (.tmp 0))),none⟩,⟨(some 54),(.p (.nilchk (.tmp 53))),none⟩,⟨(some 55),(.p (.faddr 2 (.tmp 54))),none⟩,⟨(some 56),(.load1 (.tmp 55)),none⟩,⟨(some 57),(.p (.mov (.tmp 1))),none⟩,⟨(some 58),(.p (.iaddr 1 (.tmp 56) (.tmp 57))),none⟩,⟨(some 59),(.load1 (.tmp 58)),none⟩,⟨(some 13),(.p (.mov (.tmp 59))),none⟩])
 (.seq (.seq (.region [⟨(some 60),(.p (.mov (.tmp 13))),none⟩,⟨(some 61),(.p (.mov (.tmp 12))),none⟩,⟨(some 62),(.e (.call 27 [(.tmp 60),(.tmp 61)])),none⟩,⟨(some 63),(.p (.bin .lss (.tmp 62) (.val (.int .i64 (.ofNat 0))))),none⟩])
 (.cond (.tmp 63) (.region [⟨(some 64),(.p (.mov (.tmp 0))),none⟩,⟨(some 65),(.p (.nilchk (.tmp 64))),none⟩,⟨(some 66),(.p (.faddr 2 (.tmp 65))),none⟩,⟨(some 67),(.load1 (.tmp 66)),none⟩,⟨(some 68),(.p (.mov (.tmp 2))),none⟩,⟨(some 69),(.p (.iaddr 1 (.tmp 67) (.tmp 68))),none⟩,⟨(some 70),(.load1 (.tmp 69)),none⟩,⟨(some 13),(.p (.mov (.tmp 70))),none⟩])
 (.skip)))
 (.seq (.region [⟨(some 72),(.p (.mov (.tmp 13))),none⟩,⟨(some 73),(.p (.mov (.tmp 13))),none⟩,⟨(some 74),(.p (.mov (.tmp 12))),none⟩,⟨(some 75),(.e (.call 27 [(.tmp 73),(.tmp 74)])),none⟩,⟨(some 76),(.e (.call 85 [(.tmp 72),(.tmp 75)])),none⟩,⟨(some 71),(.p (.mov (.tmp 76))),none⟩,⟨(some 77),(.p (.ext (.tmp 71) 0)),none⟩,⟨(some 78),(.p (.ext (.tmp 71) 1)),none⟩,⟨(some 14),(.a (.new [.int .i64 (.ofNat 0),.nilslice,.int .i64 (.ofNat 0),.int .i64 (.ofNat 0),.int .i64 (.ofNat 0),.int .i64 (.ofNat 0)])),none⟩,⟨none,(.e (.store 6 (.tmp 14) (.tmp 77))),none⟩,⟨(some 15),(.p (.mov (.tmp 78))),none⟩])
 (.seq (.seq (.region [⟨(some 79),(.p (.mov (.tmp 15))),none⟩,⟨(some 80),(.p (.not (.tmp 79))),none⟩])
 (.cond (.tmp 80) (.seq (.region [⟨(some 8),(.p (.mov (.val (.bool false)))),none⟩])
 (.ret))
 (.skip)))
 (.region [⟨(some 81),(.p (.mov (.tmp 10))),none⟩,⟨(some 82),(.loadn 6 (.tmp 14)),none⟩,⟨(some 83),(.a (.bslice [.int .i64 (.ofNat 0),.nilslice,.int .i64 (.ofNat 0),.int .i64 (.ofNat 0),.int .i64 (.ofNat 0),.int .i64 (.ofNat 0)] 6 1 [(0,6,(.tmp 82))])),none⟩,⟨(some 84),(.e (.append 6 64 (.tmp 81) (.tmp 83))),none⟩,⟨(some 10),(.p (.mov (.tmp 84))),none⟩])))))))
 (.region [⟨(some 85),(.p (.bin .add (.tmp 49) (.val (.int .i64 (.ofNat 1))))),none⟩,⟨(some 49),(.p (.mov (.tmp 85))),none⟩])))))))
 (.seq (.region [⟨(some 16),(.p (.mov (.val (.nilslice)))),none⟩])
 (.seq (.seq (.region [⟨(some 86),(.p (.mov (.tmp 3))),none⟩,⟨(some 87),(.p (.lenb (.tmp 86))),none⟩,⟨(some 88),(.p (.bin .gtr (.tmp 87) (.val (.int .i64 (.ofNat 0))))),none⟩])
 (.cond (.tmp 88) (.seq (.region [⟨(some 90),(.p (.mov (.tmp 0))),none⟩,⟨(some 91),(.p (.nilchk (.tmp 90))),none⟩,⟨(some 92),(.p (.faddr 0 (.tmp 91))),none⟩,⟨(some 93),(.loadn 1 (.tmp 92)),none⟩,⟨(some 94),(.p (.mov (.tmp 10))),none⟩,⟨(some 95),(.e (.call 81 [(.tmp 93),(.tmp 94)])),none⟩,⟨(some 89),(.p (.mov (.tmp 95))),none⟩,⟨(some 96),(.p (.ext (.tmp 89) 0)),none⟩,⟨(some 97),(.p (.ext (.tmp 89) 1)),none⟩,⟨(some 17),(.p (.mov (.tmp 96))),none⟩,⟨(some 18),(.p (.mov (.tmp 97))),none⟩])
 (.seq (.seq (.region [⟨(some 98),(.p (.mov (.tmp 18))),none⟩,⟨(some 99),(.p (.not (.tmp 98))),none⟩])
 (.cond (.tmp 99) (.seq (.region [⟨(some 8),(.p (.mov (.val (.bool false)))),none⟩])
 (.ret))
 (.skip)))
 (.region [⟨(some 100),(.p (.mov (.tmp 17))),none⟩,⟨(some 101),(.a (.bslice [.nilptr] 1 1 [(0,1,(.tmp 100))])),none⟩,⟨(some 16),(.p (.mov (.tmp 101))),none⟩])))
 (.skip)))
 (.seq (.region [⟨(some 102),(.p (.mov (.tmp 1))),none⟩,⟨(some 103),(.p (.mov (.tmp 2))),none⟩,⟨(some 104),(.p (.min [(.tmp 102),(.tmp 103)])),none⟩,⟨(some 105),(.p (.mov (.tmp 1))),none⟩,⟨(some 106),(.p (.mov (.tmp 2))),none⟩,⟨(some 107),(.p (.max [(.tmp 105),(.tmp 106)])),none⟩,⟨(some 19),(.p (.mov (.tmp 104))),none⟩,⟨(some 20),(.p (.mov (.tmp 107))),none⟩])
 (.seq (.seq (.region [⟨(some 108),(.p (.mov (.tmp 20))),none⟩,⟨(some 109),(.p (.mov (.tmp 19))),none⟩,⟨(some 110),(.p (.bin .gtr (.tmp 108) (.tmp 109))),none⟩])
 (.cond (.tmp 110) (.region [⟨(some 111),(.p (.mov (.tmp 0))),none⟩,⟨(some 112),(.p (.mov (.tmp 0))),none⟩,⟨(some 113),(.p (.nilchk (.tmp 112))),none⟩,⟨(some 114),(.p (.faddr 2 (.tmp 113))),none⟩,⟨(some 115),(.load1 (.tmp 114)),none⟩,⟨(some 116),(.e (.call 83 [(.tmp 115)])),none⟩,⟨(some 117),(.p (.mov (.tmp 20))),none⟩,⟨(some 118),(.p (.mov (.tmp 20))),none⟩,⟨(some 119),(.p (.bin .add (.tmp 118) (.val (.int .i64 (.ofNat 1))))),none⟩,⟨(some 120),(.e (.call 86 [(.tmp 116),(.tmp 117),(.tmp 119)])),none⟩,⟨(some 121),(.p (.nilchk (.tmp 111))),none⟩,⟨(some 122),(.p (.faddr 2 (.tmp 121))),none⟩,⟨none,(.e (.store 1 (.tmp 122) (.tmp 120))),none⟩])
 (.skip)))
 (.seq (.dregion [⟨⟨(some 124),(.p (.mov (.tmp 0))),none⟩,0,15⟩,⟨⟨(some 125),(.p (.nilchk (.tmp 124))),none⟩,0,15⟩,⟨⟨(some 126),(.p (.faddr 2 (.tmp 125))),none⟩,0,15⟩,⟨⟨(some 127),(.load1 (.tmp 126)),none⟩,0,15⟩,⟨⟨(some 128),(.p (.mov (.tmp 19))),none⟩,0,15⟩,⟨⟨(some 129),(.p (.slc 1 (.tmp 127) none (some (.tmp 128)) none)),none⟩,0,15⟩,⟨⟨(some 130),(.p (.mov (.tmp 16))),none⟩,0,15⟩,⟨⟨(some 131),(.p (.mov (.tmp 0))),none⟩,0,15⟩,⟨⟨(some 132),(.p (.nilchk (.tmp 131))),none⟩,0,15⟩,⟨⟨(some 133),(.p (.faddr 2 (.tmp 132))),none⟩,0,15⟩,⟨⟨(some 134),(.load1 (.tmp 133)),none⟩,0,15⟩,⟨⟨(some 135),(.p (.mov (.tmp 19))),none⟩,0,15⟩,⟨⟨(some 136),(.p (.bin .add (.tmp 135) (.val (.int .i64 (.ofNat 1))))),none⟩,0,15⟩,⟨⟨(some 137),(.p (.slc 1 (.tmp 134) (some (.tmp 136)) none none)),none⟩,0,15⟩,⟨⟨(some 138),(.a (.bslice [.nilslice,.nilslice,.nilslice] 1 3 [(0,1,(.tmp 129)),(1,1,(.tmp 130)),(2,1,(.tmp 137))])),none⟩,0,15⟩,⟨⟨(some 139),(.e (.call 87 [(.tmp 138)])),none⟩,0,19⟩,⟨⟨(some 123),(.p (.mov (.tmp 0))),none⟩,0,19⟩,⟨⟨(some 140),(.p (.nilchk (.tmp 123))),none⟩,16,19⟩,⟨⟨(some 141),(.p (.faddr 2 (.tmp 140))),none⟩,16,19⟩,⟨⟨none,(.e (.store 1 (.tmp 141) (.tmp 139))),none⟩,16,20⟩])
 (.seq (.region [⟨(some 8),(.p (.mov (.val (.bool true)))),none⟩])
 (.ret))))))))))),[.tmp 8]⟩
theorem v28 : IsFun Tryz.prog 28 m28 := ⟨_, Tryz.func28, by kernel_rfl, by kernel_rfl⟩
def m29 : Fun := ⟨26,2,.seq (.region [⟨(some 4),(.p (.mov (.val (.bool false)))),none⟩])
 (.seq (.seq (.region [⟨(some 6),(.p (.mov (.tmp 0))),none⟩,⟨(some 7),(.p (.lenb (.tmp 6))),none⟩,⟨(some 8),(.p (.mov (.tmp 1))),none⟩,⟨(some 9),(.p (.lenb (.tmp 8))),none⟩,⟨(some 10),(.p (.bin .neq (.tmp 7) (.tmp 9))),none⟩])
 (.cond (.tmp 10) (.seq (.region [⟨(some 4),(.p (.mov (.val (.bool false)))),none⟩])
 (.ret))
 (.skip)))
 (.seq (.seq (.region [⟨(some 5),(.p (.mov (.val (.int .i64 (.ofNat 0))))),none⟩])
 (.block 0 (.loop (.seq (.seq (.region [⟨(some 11),(.p (.mov (.tmp 5))),none⟩,⟨(some 12),(.p (.mov (.tmp 0))),none⟩,⟨(some 13),(.p (.lenb (.tmp 12))),none⟩,⟨(some 14),(.p (.bin .lss (.tmp 11) (.tmp 13))),none⟩])
 (.cond (.tmp 14) (.skip)
 (.exit 0)))
 (.seq (.block 1 (.seq (.dregion [⟨⟨(some 17),(.p (.mov (.tmp 0))),none⟩,0,9⟩,⟨⟨(some 18),(.p (.mov (.tmp 5))),none⟩,0,9⟩,⟨⟨(some 19),(.p (.iaddr 1 (.tmp 17) (.tmp 18))),none⟩,0,9⟩,⟨⟨(some 20),(.load1 (.tmp 19)),none⟩,0,9⟩,⟨⟨(some 21),(.p (.mov (.tmp 1))),none⟩,0,9⟩,⟨⟨(some 22),(.p (.mov (.tmp 5))),none⟩,0,9⟩,⟨⟨(some 23),(.p (.iaddr 1 (.tmp 21) (.tmp 22))),none⟩,0,9⟩,⟨⟨(some 24),(.load1 (.tmp 23)),none⟩,0,9⟩,⟨⟨(some 25),(.p (.bin .neq (.tmp 20) (.tmp 24))),none⟩,0,9⟩])
 (.cond (.tmp 25) (.seq (.region [⟨(some 4),(.p (.mov (.val (.bool false)))),none⟩])
 (.ret))
 (.skip))))
 (.region [⟨(some 15),(.p (.mov (.tmp 5))),none⟩,⟨(some 16),(.p (.bin .add (.tmp 15) (.val (.int .i64 (.ofNat 1))))),none⟩,⟨(some 5),(.p (.mov (.tmp 16))),none⟩]))))))
 (.seq (.region [⟨(some 4),(.p (.mov (.val (.bool true)))),none⟩])
 (.ret)))),[.tmp 4]⟩
theorem v29 : IsFun Tryz.prog 29 m29 := ⟨_, Tryz.func29, by kernel_rfl, by kernel_rfl⟩
def m30 : Fun := Go.Lib.M306 Go.Proofs.YtffjinldphmhnaaGreat.sa.F0
theorem v30 : IsFun Tryz.prog 30 m30 := ⟨_, Tryz.func30, by kernel_rfl, by kernel_rfl⟩
def m32 : Fun := ⟨121,0,.seq (.region [⟨(some 0),(.p (.mov (.val (.bool false)))),none⟩])
 (.seq (.region [⟨(some 16),(.p (.build [.str [],.int .i64 (.ofNat 0),.bool false] [(0,1,(.val (.str [107,101,121]))),(1,1,(.val (.int .i64 (.ofNat 1))))])),none⟩,⟨(some 17),(.a (.bslice [.str [],.int .i64 (.ofNat 0),.bool false] 3 1 [(0,3,(.tmp 16))])),none⟩,⟨(some 18),(.p (.build [.nilslice] [(0,1,(.tmp 17))])),none⟩,⟨(some 1),(.a (.new [.nilslice])),none⟩,⟨none,(.e (.store 1 (.tmp 1) (.tmp 18))),none⟩])
 (.seq (.region [⟨(some 20),(.loadn 1 (.tmp 1)),none⟩,⟨(some 21),(.e (.call 12 [(.tmp 20),(.val (.int .i64 (.ofNat 3))),(.val (.int .i64 (.ofNat 1)))])),none⟩,⟨(some 19),(.p (.mov (.tmp 21))),none⟩,⟨(some 22),(.p (.ext (.tmp 19) 0)),none⟩,⟨(some 23),(.p (.ext (.tmp 19) 1)),none⟩,⟨(some 2),(.p (.mov (.tmp 22))),none⟩,⟨(some 3),(.p (.mov (.tmp 23))),none⟩])
 (.seq (.region [⟨(some 25),(.p (.build [.nilslice] [])),none⟩,⟨(some 26),(.e (.call 12 [(.tmp 25),(.val (.int .i64 (.ofNat 3))),(.val (.int .i64 (.ofNat 1)))])),none⟩,⟨(some 24),(.p (.mov (.tmp 26))),none⟩,⟨(some 27),(.p (.ext (.tmp 24) 0)),none⟩,⟨(some 28),(.p (.ext (.tmp 24) 1)),none⟩,⟨(some 4),(.p (.mov (.tmp 27))),none⟩,⟨(some 5),(.p (.mov (.tmp 28))),none⟩])
 (.seq (.seq (.region [⟨(some 29),(.p (.mov (.tmp 3))),none⟩,⟨(some 30),(.p (.not (.tmp 29))),none⟩,⟨(some 31),(.p (.mov (.tmp 30))),none⟩,⟨(some 32),(.p (.mov (.tmp 2))),(some (31,false))⟩,⟨(some 33),(.p (.eq .ptr false (.tmp 32) (.val (.nilptr)))),(some (31,false))⟩,⟨(some 34),(.p (.pick (.tmp 31) (.val (.bool true)) (.tmp 33))),none⟩])
 (.cond (.tmp 34) (.seq (.region [⟨(some 0),(.p (.mov (.val (.bool false)))),none⟩])
 (.ret))
 (.skip)))
 (.seq (.region [⟨(some 6),(.p (.mov (.val (.func 89 [] [])))),none⟩])
 (.seq (.region [⟨(some 36),(.p (.mov (.tmp 2))),none⟩,⟨(some 37),(.p (.mov (.tmp 6))),none⟩,⟨(some 38),(.e (.callv (.tmp 37) [(.val (.int .i64 (.ofNat 5)))])),none⟩,⟨(some 39),(.p (.build [.int .i64 (.ofNat 0),.int .i64 (.ofNat 0),.int .i64 (.ofNat 0),.int .i64 (.ofNat 0)] [])),none⟩,⟨(some 40),(.e (.call 17 [(.tmp 36),(.tmp 38),(.tmp 39)])),none⟩,⟨(some 35),(.p (.mov (.tmp 40))),none⟩,⟨(some 41),(.p (.ext (.tmp 35) 0)),none⟩,⟨(some 42),(.p (.ext (.tmp 35) 1)),none⟩,⟨(some 7),(.p (.mov (.tmp 41))),none⟩,⟨(some 8),(.p (.mov (.tmp 42))),none⟩])
 (.seq (.region [⟨(some 44),(.p (.mov (.tmp 2))),none⟩,⟨(some 45),(.p (.mov (.tmp 6))),none⟩,⟨(some 46),(.e (.callv (.tmp 45) [(.val (.int .i64 (.ofNat 5)))])),none⟩,⟨(some 47),(.p (.build [.int .i64 (.ofNat 0),.int .i64 (.ofNat 0),.int .i64 (.ofNat 0),.int .i64 (.ofNat 0)] [])),none⟩,⟨(some 48),(.e (.call 17 [(.tmp 44),(.tmp 46),(.tmp 47)])),none⟩,⟨(some 43),(.p (.mov (.tmp 48))),none⟩,⟨(some 49),(.p (.ext (.tmp 43) 0)),none⟩,⟨(some 50),(.p (.ext (.tmp 43) 1)),none⟩,⟨(some 9),(.p (.mov (.tmp 49))),none⟩,⟨(some 10),(.p (.mov (.tmp 50))),none⟩])
 (.seq (.region [⟨(some 51),(.p (.mov (.tmp 2))),none⟩,⟨(some 52),(.p (.mov (.tmp 7))),none⟩,⟨(some 53),(.a (.bslice [.int .i64 (.ofNat 0)] 1 1 [(0,1,(.tmp 52))])),none⟩,⟨(some 54),(.e (.call 25 [(.tmp 51),(.tmp 53)])),none⟩,⟨(some 11),(.p (.mov (.tmp 54))),none⟩])
 (.seq (.region [⟨(some 55),(.p (.mov (.tmp 2))),none⟩,⟨(some 56),(.p (.mov (.tmp 9))),none⟩,⟨(some 57),(.a (.bslice [.int .i64 (.ofNat 0)] 1 1 [(0,1,(.tmp 56))])),none⟩,⟨(some 58),(.e (.call 25 [(.tmp 55),(.tmp 57)])),none⟩,⟨(some 12),(.p (.mov (.tmp 58))),none⟩])
 (.seq (.region [⟨(some 59),(.p (.mov (.tmp 2))),none⟩,⟨(some 60),(.p (.mov (.tmp 7))),none⟩,⟨(some 61),(.p (.mov (.tmp 6))),none⟩,⟨(some 62),(.e (.callv (.tmp 61) [(.val (.int .i64 (.ofNat 9)))])),none⟩,⟨(some 63),(.e (.call 37 [(.tmp 59),(.tmp 60),(.tmp 62)])),none⟩,⟨(some 13),(.p (.mov (.tmp 63))),none⟩])
 (.seq (.region [⟨(some 64),(.p (.mov (.tmp 2))),none⟩,⟨(some 65),(.e (.call 39 [(.tmp 64),(.val (.int .i64 (.ofNat 5)))])),none⟩,⟨(some 14),(.p (.mov (.tmp 65))),none⟩])
 (.seq (.region [⟨(some 66),(.p (.mov (.tmp 2))),none⟩,⟨(some 67),(.e (.call 28 [(.tmp 66),(.val (.int .i64 (.ofNat 0))),(.val (.int .i64 (.ofNat 0))),(.val (.nilslice))])),none⟩,⟨(some 15),(.p (.mov (.tmp 67))),none⟩])
 (.seq (.region [⟨(some 68),(.p (.mov (.tmp 5))),none⟩,⟨(some 69),(.p (.not (.tmp 68))),none⟩,⟨(some 70),(.p (.mov (.tmp 69))),none⟩,⟨(some 71),(.p (.mov (.tmp 8))),(some (70,true))⟩,⟨(some 72),(.p (.pick (.tmp 70) (.tmp 71) (.val (.bool false)))),none⟩,⟨(some 73),(.p (.mov (.tmp 72))),none⟩,⟨(some 74),(.p (.mov (.tmp 7))),(some (73,true))⟩,⟨(some 75),(.p (.bin .eql (.tmp 74) (.val (.int .i64 (.ofNat 1))))),(some (73,true))⟩,⟨(some 76),(.p (.pick (.tmp 73) (.tmp 75) (.val (.bool false)))),none⟩,⟨(some 77),(.p (.mov (.tmp 76))),none⟩,⟨(some 78),(.p (.mov (.tmp 10))),(some (77,true))⟩,⟨(some 79),(.p (.pick (.tmp 77) (.tmp 78) (.val (.bool false)))),none⟩,⟨(some 80),(.p (.mov (.tmp 79))),none⟩,⟨(some 81),(.p (.mov (.tmp 9))),(some (80,true))⟩,⟨(some 82),(.p (.bin .eql (.tmp 81) (.val (.int .i64 (.ofNat 2))))),(some (80,true))⟩,⟨(some 83),(.p (.pick (.tmp 80) (.tmp 82) (.val (.bool false)))),none⟩,⟨(some 84),(.p (.mov (.tmp 83))),none⟩,⟨(some 85),(.p (.mov (.tmp 11))),(some (84,true))⟩,⟨(some 86),(.p (.pick (.tmp 84) (.tmp 85) (.val (.bool false)))),none⟩,⟨(some 87),(.p (.mov (.tmp 86))),none⟩,⟨(some 88),(.p (.mov (.tmp 12))),(some (87,true))⟩,⟨(some 89),(.p (.not (.tmp 88))),(some (87,true))⟩,⟨(some 90),(.p (.pick (.tmp 87) (.tmp 89) (.val (.bool false)))),none⟩,⟨(some 91),(.p (.mov (.tmp 90))),none⟩,⟨(some 92),(.p (.mov (.tmp 13))),(some (91,true))⟩,⟨(some 93),(.p (.not (.tmp 92))),(some (91,true))⟩,⟨(some 94),(.p (.pick (.tmp 91) (.tmp 93) (.val (.bool false)))),none⟩,⟨(some 95),(.p (.mov (.tmp 94))),none⟩,⟨(some 96),(.p (.mov (.tmp 14))),(some (95,true))⟩,⟨(some 97),(.a (.bslice [.int .i64 (.ofNat 0),.int .i64 (.ofNat 0)] 1 2 [(0,1,(.val (.int .i64 (.ofNat 1)))),(1,1,(.val (.int .i64 (.ofNat 2))))])),(some (95,true))⟩,⟨(some 98),(.e (.call 29 [(.tmp 96),(.tmp 97)])),(some (95,true))⟩,⟨(some 99),(.p (.pick (.tmp 95) (.tmp 98) (.val (.bool false)))),none⟩,⟨(some 100),(.p (.mov (.tmp 99))),none⟩,⟨(some 101),(.p (.mov (.tmp 15))),(some (100,true))⟩,⟨(some 102),(.p (.pick (.tmp 100) (.tmp 101) (.val (.bool false)))),none⟩,⟨(some 103),(.p (.mov (.tmp 102))),none⟩,⟨(some 104),(.p (.mov (.tmp 2))),(some (103,true))⟩,⟨(some 105),(.e (.call 26 [(.tmp 104)])),(some (103,true))⟩,⟨(some 106),(.p (.lenb (.tmp 105))),(some (103,true))⟩,⟨(some 107),(.p (.bin .eql (.tmp 106) (.val (.int .i64 (.ofNat 0))))),(some (103,true))⟩,⟨(some 108),(.p (.pick (.tmp 103) (.tmp 107) (.val (.bool false)))),none⟩,⟨(some 109),(.p (.mov (.tmp 108))),none⟩,⟨(some 110),(.p (.mov (.tmp 2))),(some (109,true))⟩,⟨(some 111),(.e (.call 18 [(.tmp 110)])),(some (109,true))⟩,⟨(some 112),(.a (.bslice [.int .i64 (.ofNat 0)] 1 1 [(0,1,(.val (.int .i64 (.ofNat 2))))])),(some (109,true))⟩,⟨(some 113),(.e (.call 29 [(.tmp 111),(.tmp 112)])),(some (109,true))⟩,⟨(some 114),(.p (.pick (.tmp 109) (.tmp 113) (.val (.bool false)))),none⟩,⟨(some 115),(.p (.mov (.tmp 114))),none⟩,⟨(some 116),(.p (.mov (.tmp 2))),(some (115,true))⟩,⟨(some 117),(.e (.call 24 [(.tmp 116)])),(some (115,true))⟩,⟨(some 118),(.a (.bslice [.int .i64 (.ofNat 0)] 1 1 [(0,1,(.val (.int .i64 (.ofNat 2))))])),(some (115,true))⟩,⟨(some 119),(.e (.call 29 [(.tmp 117),(.tmp 118)])),(some (115,true))⟩,⟨(some 120),(.p (.pick (.tmp 115) (.tmp 119) (.val (.bool false)))),none⟩,⟨(some 0),(.p (.mov (.tmp 120))),none⟩])
 (.ret)))))))))))))),[.tmp 0]⟩
theorem v32 : IsFun Tryz.prog 32 m32 := ⟨_, Tryz.func32, by kernel_rfl, by kernel_rfl⟩
def m33 : Fun := Go.Lib.M305 Go.Proofs.YtffjinldphmhnaaGreat.sa.F0
theorem v33 : IsFun Tryz.prog 33 m33 := ⟨_, Tryz.func33, by kernel_rfl, by kernel_rfl⟩
def m34 : Fun := Go.Lib.M49 Go.Proofs.YtffjinldphmhnaaGreat.sa.F0
theorem v34 : IsFun Tryz.prog 34 m34 := ⟨_, Tryz.func34, by kernel_rfl, by kernel_rfl⟩
def m36 : Fun := Go.Lib.M309 Go.Proofs.YtffjinldphmhnaaGreat.sa.F0
theorem v36 : IsFun Tryz.prog 36 m36 := ⟨_, Tryz.func36, by kernel_rfl, by kernel_rfl⟩
def m37 : Fun := Go.Lib.M307 Go.Proofs.YtffjinldphmhnaaGreat.sa.F0
theorem v37 : IsFun Tryz.prog 37 m37 := ⟨_, Tryz.func37, by kernel_rfl, by kernel_rfl⟩
def m38 : Fun := Go.Lib.M308 Go.Proofs.YtffjinldphmhnaaGreat.sa.F0
theorem v38 : IsFun Tryz.prog 38 m38 := ⟨_, Tryz.func38, by kernel_rfl, by kernel_rfl⟩
def m39 : Fun := ⟨10,2,.seq (.region [⟨(some 4),(.p (.mov (.val (.nilslice)))),none⟩])
 (.seq (.region [⟨(some 5),(.p (.mov (.tmp 0))),none⟩,⟨(some 6),(.p (.mov (.tmp 1))),none⟩,⟨(some 7),(.p (.build [.bool false,.int .i64 (.ofNat 0),.int .i64 (.ofNat 0),.nilslice] [(1,1,(.val (.int .i64 (.ofNat 1)))),(2,1,(.tmp 6))])),none⟩,⟨(some 8),(.p (.build [.int .i64 (.ofNat 0),.int .i64 (.ofNat 0),.int .i64 (.ofNat 0),.bool false,.int .i64 (.ofNat 0),.int .i64 (.ofNat 0),.nilslice,.nilslice] [(0,1,(.val (.int .i64 (.ofNat 2)))),(2,1,(.val (.int .i64 (.ofNat 1)))),(3,4,(.tmp 7))])),none⟩,⟨(some 9),(.e (.call 23 [(.tmp 5),(.tmp 8)])),none⟩,⟨(some 4),(.p (.mov (.tmp 9))),none⟩])
 (.ret)),[.tmp 4]⟩
theorem v39 : IsFun Tryz.prog 39 m39 := ⟨_, Tryz.func39, by kernel_rfl, by kernel_rfl⟩
def m57 : Fun := Go.Lib.M255 Go.Proofs.YtffjinldphmhnaaGreat.sa.F0
theorem v57 : IsFun Tryz.prog 57 m57 := ⟨_, Tryz.func57, by kernel_rfl, by kernel_rfl⟩
def m58 : Fun := Go.Lib.M314 Go.Proofs.YtffjinldphmhnaaGreat.sa.F0
theorem v58 : IsFun Tryz.prog 58 m58 := ⟨_, Tryz.func58, by kernel_rfl, by kernel_rfl⟩
def m59 : Fun := Go.Lib.M315 Go.Proofs.YtffjinldphmhnaaGreat.sa.F0
theorem v59 : IsFun Tryz.prog 59 m59 := ⟨_, Tryz.func59, by kernel_rfl, by kernel_rfl⟩
def m67 : Fun := ⟨8,1,.seq (.region [⟨(some 2),(.p (.mov (.val (.nilslice)))),none⟩])
 (.seq (.region [⟨(some 3),(.p (.mov (.tmp 0))),none⟩,⟨(some 4),(.p (.nilchk (.tmp 3))),none⟩,⟨(some 5),(.p (.faddr 1 (.tmp 4))),none⟩,⟨(some 6),(.load1 (.tmp 5)),none⟩,⟨(some 7),(.e (.call 124 [(.tmp 6)])),none⟩,⟨(some 2),(.p (.mov (.tmp 7))),none⟩])
 (.ret)),[.tmp 2]⟩
theorem v67 : IsFun Tryz.prog 67 m67 := ⟨_, Tryz.func67, by kernel_rfl, by kernel_rfl⟩
def m68 : Fun := Go.Lib.M268 Go.Proofs.YtffjinldphmhnaaGreat.sa.F0
theorem v68 : IsFun Tryz.prog 68 m68 := ⟨_, Tryz.func68, by kernel_rfl, by kernel_rfl⟩
def m69 : Fun := Go.Lib.M316 Go.Proofs.YtffjinldphmhnaaGreat.sa.F0
theorem v69 : IsFun Tryz.prog 69 m69 := ⟨_, Tryz.func69, by kernel_rfl, by kernel_rfl⟩
def m70 : Fun := ⟨9,1,.seq (.region [⟨(some 2),(.p (.mov (.val (.nilslice)))),none⟩])
 (.seq (.region [⟨(some 3),(.p (.mov (.tmp 0))),none⟩,⟨(some 4),(.p (.nilchk (.tmp 3))),none⟩,⟨(some 5),(.p (.faddr 1 (.tmp 4))),none⟩,⟨(some 6),(.load1 (.tmp 5)),none⟩,⟨(some 7),(.e (.call 127 [(.tmp 6)])),none⟩,⟨(some 8),(.e (.call 64 [(.tmp 7)])),none⟩,⟨(some 2),(.p (.mov (.tmp 8))),none⟩])
 (.ret)),[.tmp 2]⟩
theorem v70 : IsFun Tryz.prog 70 m70 := ⟨_, Tryz.func70, by kernel_rfl, by kernel_rfl⟩
def m72 : Fun := ⟨9,1,.seq (.region [⟨(some 2),(.p (.mov (.val (.nilslice)))),none⟩])
 (.seq (.region [⟨(some 3),(.p (.mov (.tmp 0))),none⟩,⟨(some 4),(.p (.mov (.tmp 0))),none⟩,⟨(some 5),(.p (.lenb (.tmp 4))),none⟩,⟨(some 6),(.p (.mov (.tmp 0))),none⟩,⟨(some 7),(.p (.lenb (.tmp 6))),none⟩,⟨(some 8),(.p (.slc 1 (.tmp 3) none (some (.tmp 5)) (some (.tmp 7)))),none⟩,⟨(some 2),(.p (.mov (.tmp 8))),none⟩])
 (.ret)),[.tmp 2]⟩
theorem v72 : IsFun Tryz.prog 72 m72 := ⟨_, Tryz.func72, by kernel_rfl, by kernel_rfl⟩
def m74 : Fun := Go.Lib.M25 Go.Proofs.YtffjinldphmhnaaGreat.sa.F0
theorem v74 : IsFun Tryz.prog 74 m74 := ⟨_, Tryz.func74, by kernel_rfl, by kernel_rfl⟩
def m75 : Fun := ⟨10,2,.seq (.region [⟨(some 3),(.p (.mov (.val (.nilslice)))),none⟩])
 (.seq (.dregion [⟨⟨(some 4),(.p (.mov (.tmp 0))),none⟩,0,5⟩,⟨⟨(some 5),(.p (.nilchk (.tmp 4))),none⟩,0,5⟩,⟨⟨(some 6),(.p (.faddr 0 (.tmp 5))),none⟩,0,5⟩,⟨⟨(some 7),(.load1 (.tmp 6)),none⟩,0,5⟩,⟨⟨(some 8),(.loadn 8 (.tmp 1)),none⟩,0,5⟩,⟨⟨(some 9),(.e (.call 76 [(.tmp 7),(.tmp 8)])),none⟩,0,7⟩,⟨⟨(some 3),(.p (.mov (.tmp 9))),none⟩,6,7⟩])
 (.ret)),[.tmp 3]⟩
theorem v75 : IsFun Tryz.prog 75 m75 := ⟨_, Tryz.func75, by kernel_rfl, by kernel_rfl⟩
def m76 : Fun := ⟨35,2,.seq (.region [⟨(some 3),(.a (.box (.tmp 1))),none⟩,⟨(some 4),(.p (.mov (.val (.nilslice)))),none⟩])
 (.seq (.seq (.dregion [⟨⟨(some 8),(.p (.mov (.tmp 0))),none⟩,0,5⟩,⟨⟨(some 9),(.p (.nilchk (.tmp 8))),none⟩,0,5⟩,⟨⟨(some 10),(.p (.faddr 0 (.tmp 9))),none⟩,0,5⟩,⟨⟨(some 11),(.loadn 2 (.tmp 10)),none⟩,0,5⟩,⟨⟨(some 12),(.loadn 8 (.tmp 3)),none⟩,0,5⟩,⟨⟨(some 13),(.e (.call 130 [(.tmp 11),(.tmp 12)])),none⟩,0,7⟩,⟨⟨(some 14),(.p (.not (.tmp 13))),none⟩,6,7⟩])
 (.cond (.tmp 14) (.seq (.region [⟨(some 4),(.p (.mov (.val (.nilslice)))),none⟩])
 (.ret))
 (.skip)))
 (.seq (.region [⟨(some 5),(.p (.mov (.val (.nilslice)))),none⟩])
 (.seq (.seq (.region [⟨(some 15),(.p (.mov (.tmp 0))),none⟩,⟨(some 16),(.p (.nilchk (.tmp 15))),none⟩,⟨(some 17),(.p (.faddr 3 (.tmp 16))),none⟩,⟨(some 18),(.load1 (.tmp 17)),none⟩,⟨(some 19),(.p (.lenb (.tmp 18))),none⟩,⟨(some 20),(.p (.mov (.val (.int .i64 (.ofNat 0))))),none⟩])
 (.block 0 (.loop (.seq (.region [⟨(some 21),(.p (.bin .lss (.tmp 20) (.tmp 19))),none⟩])
 (.seq (.cond (.tmp 21) (.skip)
 (.exit 0))
 (.seq (.block 1 (.seq (.region [⟨(some 22),(.p (.mov (.tmp 20))),none⟩,⟨(some 23),(.p (.iaddr 1 (.tmp 18) (.tmp 20))),none⟩,⟨(some 24),(.load1 (.tmp 23)),none⟩,⟨(some 6),(.p (.mov (.tmp 22))),none⟩,⟨(some 7),(.p (.mov (.tmp 24))),none⟩])
 (.seq (.region [⟨(some 25),(.loadn 8 (.tmp 3)),none⟩,⟨(some 26),(.p (.mov (.tmp 7))),none⟩,⟨(some 27),(.e (.call 79 [(.tmp 25),(.tmp 26)])),none⟩,⟨(some 28),(.p (.bin .eql (.tmp 27) (.val (.int .i64 (.ofNat 1))))),none⟩])
 (.cond (.tmp 28) (.region [⟨(some 29),(.p (.mov (.tmp 5))),none⟩,⟨(some 30),(.p (.mov (.tmp 6))),none⟩,⟨(some 31),(.a (.bslice [.int .i64 (.ofNat 0)] 1 1 [(0,1,(.tmp 30))])),none⟩,⟨(some 32),(.e (.append 1 8 (.tmp 29) (.tmp 31))),none⟩,⟨(some 5),(.p (.mov (.tmp 32))),none⟩])
 (.skip)))))
 (.region [⟨(some 33),(.p (.bin .add (.tmp 20) (.val (.int .i64 (.ofNat 1))))),none⟩,⟨(some 20),(.p (.mov (.tmp 33))),none⟩])))))))
 (.seq (.region [⟨(some 34),(.p (.mov (.tmp 5))),none⟩,⟨(some 4),(.p (.mov (.tmp 34))),none⟩])
 (.ret))))),[.tmp 4]⟩
theorem v76 : IsFun Tryz.prog 76 m76 := ⟨_, Tryz.func76, by kernel_rfl, by kernel_rfl⟩
def m77 : Fun := ⟨80,3,.seq (.region [⟨(some 6),(.p (.mov (.val (.nilslice)))),none⟩])
 (.seq (.region [⟨(some 7),(.p (.mov (.val (.nilslice)))),none⟩])
 (.seq (.seq (.region [⟨(some 17),(.p (.mov (.tmp 0))),none⟩,⟨(some 18),(.p (.nilchk (.tmp 17))),none⟩,⟨(some 19),(.p (.faddr 1 (.tmp 18))),none⟩,⟨(some 20),(.load1 (.tmp 19)),none⟩,⟨(some 21),(.e (.call 70 [(.tmp 20)])),none⟩,⟨(some 22),(.p (.lenb (.tmp 21))),none⟩,⟨(some 23),(.p (.mov (.val (.int .i64 (.ofNat 0))))),none⟩])
 (.block 0 (.loop (.seq (.region [⟨(some 24),(.p (.bin .lss (.tmp 23) (.tmp 22))),none⟩])
 (.seq (.cond (.tmp 24) (.skip)
 (.exit 0))
 (.seq (.block 1 (.seq (.region [⟨(some 25),(.p (.iaddr 1 (.tmp 21) (.tmp 23))),none⟩,⟨(some 26),(.load1 (.tmp 25)),none⟩,⟨(some 9),(.p (.mov (.tmp 26))),none⟩])
 (.seq (.region [⟨(some 28),(.p (.mov (.tmp 0))),none⟩,⟨(some 29),(.p (.nilchk (.tmp 28))),none⟩,⟨(some 30),(.p (.faddr 1 (.tmp 29))),none⟩,⟨(some 31),(.load1 (.tmp 30)),none⟩,⟨(some 32),(.p (.mov (.tmp 9))),none⟩,⟨(some 33),(.e (.call 80 [(.tmp 31),(.tmp 32)])),none⟩,⟨(some 27),(.p (.mov (.tmp 33))),none⟩,⟨(some 34),(.p (.ext (.tmp 27) 0)),none⟩,⟨(some 35),(.p (.ext (.tmp 27) 1)),none⟩,⟨(some 10),(.a (.new [.int .i64 (.ofNat 0),.nilslice,.int .i64 (.ofNat 0),.int .i64 (.ofNat 0),.int .i64 (.ofNat 0),.int .i64 (.ofNat 0)])),none⟩,⟨none,(.e (.store 6 (.tmp 10) (.tmp 34))),none⟩,⟨(some 11),(.p (.mov (.tmp 35))),none⟩])
 (.seq (.region [⟨(some 36),(.p (.mov (.tmp 11))),none⟩,⟨(some 37),(.p (.mov (.tmp 36))),none⟩,⟨(some 38),(.p (.mov (.tmp 2))),(some (37,true))⟩,⟨(some 39),(.p (.faddr 1 (.tmp 10))),(some (37,true))⟩,⟨(some 40),(.load1 (.tmp 39)),(some (37,true))⟩,⟨(some 41),(.e (.callv (.tmp 38) [(.tmp 40)])),(some (37,true))⟩,⟨(some 42),(.p (.pick (.tmp 37) (.tmp 41) (.val (.bool false)))),none⟩])
 (.cond (.tmp 42) (.region [⟨(some 43),(.p (.mov (.tmp 7))),none⟩,⟨(some 44),(.p (.mov (.tmp 9))),none⟩,⟨(some 45),(.a (.bslice [.int .i64 (.ofNat 0)] 1 1 [(0,1,(.tmp 44))])),none⟩,⟨(some 46),(.e (.append 1 8 (.tmp 43) (.tmp 45))),none⟩,⟨(some 7),(.p (.mov (.tmp 46))),none⟩])
 (.skip))))))
 (.region [⟨(some 47),(.p (.bin .add (.tmp 23) (.val (.int .i64 (.ofNat 1))))),none⟩,⟨(some 23),(.p (.mov (.tmp 47))),none⟩])))))))
 (.seq (.seq (.region [⟨(some 48),(.p (.mov (.tmp 0))),none⟩,⟨(some 49),(.p (.nilchk (.tmp 48))),none⟩,⟨(some 50),(.p (.faddr 2 (.tmp 49))),none⟩,⟨(some 51),(.load1 (.tmp 50)),none⟩,⟨(some 52),(.p (.lenb (.tmp 51))),none⟩,⟨(some 53),(.p (.mov (.val (.int .i64 (.ofNat 0))))),none⟩])
 (.block 2 (.loop (.seq (.region [⟨(some 54),(.p (.bin .lss (.tmp 53) (.tmp 52))),none⟩])
 (.seq (.cond (.tmp 54) (.skip)
 (.exit 2))
 (.seq (.block 3 (.seq (.region [⟨(some 55),(.p (.iaddr 1 (.tmp 51) (.tmp 53))),none⟩,⟨(some 56),(.load1 (.tmp 55)),none⟩,⟨(some 13),(.p (.mov (.tmp 56))),none⟩])
 (.seq (.region [⟨(some 57),(.p (.mov (.tmp 13))),none⟩,⟨(some 58),(.e (.call 67 [(.tmp 57)])),none⟩,⟨(some 14),(.p (.mov (.tmp 58))),none⟩])
 (.seq (.region [⟨(some 59),(.p (.mov (.tmp 1))),none⟩,⟨(some 60),(.p (.mov (.tmp 13))),none⟩,⟨(some 61),(.e (.callv (.tmp 59) [(.tmp 60)])),none⟩,⟨(some 62),(.p (.lenb (.tmp 61))),none⟩,⟨(some 63),(.p (.mov (.val (.int .i64 (.ofNat 0))))),none⟩])
 (.block 4 (.loop (.seq (.region [⟨(some 64),(.p (.bin .lss (.tmp 63) (.tmp 62))),none⟩])
 (.seq (.cond (.tmp 64) (.skip)
 (.exit 4))
 (.seq (.block 5 (.seq (.region [⟨(some 65),(.p (.iaddr 1 (.tmp 61) (.tmp 63))),none⟩,⟨(some 66),(.load1 (.tmp 65)),none⟩,⟨(some 16),(.p (.mov (.tmp 66))),none⟩])
 (.region [⟨(some 67),(.p (.mov (.tmp 7))),none⟩,⟨(some 68),(.p (.mov (.tmp 14))),none⟩,⟨(some 69),(.p (.mov (.tmp 16))),none⟩,⟨(some 70),(.p (.iaddr 1 (.tmp 68) (.tmp 69))),none⟩,⟨(some 71),(.load1 (.tmp 70)),none⟩,⟨(some 72),(.a (.bslice [.int .i64 (.ofNat 0)] 1 1 [(0,1,(.tmp 71))])),none⟩,⟨(some 73),(.e (.append 1 8 (.tmp 67) (.tmp 72))),none⟩,⟨(some 7),(.p (.mov (.tmp 73))),none⟩])))
 (.region [⟨(some 74),(.p (.bin .add (.tmp 63) (.val (.int .i64 (.ofNat 1))))),none⟩,⟨(some 63),(.p (.mov (.tmp 74))),none⟩]))))))))))
 (.region [⟨(some 75),(.p (.bin .add (.tmp 53) (.val (.int .i64 (.ofNat 1))))),none⟩,⟨(some 53),(.p (.mov (.tmp 75))),none⟩])))))))
 (.seq (.region [⟨(some 76),(.p (.mov (.tmp 7))),none⟩,⟨(some 77),(.e (.call 71 [(.tmp 76)])),none⟩])
 (.seq (.region [⟨(some 78),(.p (.mov (.tmp 7))),none⟩,⟨(some 79),(.e (.call 72 [(.tmp 78)])),none⟩,⟨(some 6),(.p (.mov (.tmp 79))),none⟩])
 (.ret)))))),[.tmp 6]⟩
theorem v77 : IsFun Tryz.prog 77 m77 := ⟨_, Tryz.func77, by kernel_rfl, by kernel_rfl⟩
def m78 : Fun := ⟨8,2,.seq (.region [⟨(some 3),(.p (.mov (.val (.bool false)))),none⟩])
 (.seq (.region [⟨(some 4),(.loadn 8 (.tmp 1)),none⟩,⟨(some 5),(.p (.mov (.tmp 0))),none⟩,⟨(some 6),(.e (.call 79 [(.tmp 4),(.tmp 5)])),none⟩,⟨(some 7),(.p (.bin .eql (.tmp 6) (.val (.int .i64 (.ofNat 1))))),none⟩,⟨(some 3),(.p (.mov (.tmp 7))),none⟩])
 (.ret)),[.tmp 3]⟩
theorem v78 : IsFun Tryz.prog 78 m78 := ⟨_, Tryz.func78, by kernel_rfl, by kernel_rfl⟩
def m79 : Fun := ⟨57,2,.seq (.region [⟨(some 2),(.a (.box (.tmp 0))),none⟩,⟨(some 4),(.p (.mov (.val (.int .i64 (.ofNat 0))))),none⟩])
 (.seq (.seq (.region [⟨(some 6),(.p (.faddr 0 (.tmp 2))),none⟩,⟨(some 7),(.load1 (.tmp 6)),none⟩])
 (.block 0 (.seq (.region [⟨(some 9),(.p (.bin .eql (.tmp 7) (.val (.int .i64 (.ofNat 1))))),none⟩,⟨(some 8),(.p (.mov (.tmp 9))),none⟩])
 (.cond (.tmp 8) (.seq (.region [⟨(some 4),(.p (.mov (.val (.int .i64 (.ofNat 1))))),none⟩])
 (.ret))
 (.seq (.region [⟨(some 11),(.p (.bin .eql (.tmp 7) (.val (.int .i64 (.ofNat 2))))),none⟩,⟨(some 10),(.p (.mov (.tmp 11))),none⟩])
 (.cond (.tmp 10) (.seq (.region [⟨(some 12),(.p (.mov (.tmp 1))),none⟩,⟨(some 13),(.p (.faddr 1 (.tmp 2))),none⟩,⟨(some 14),(.load1 (.tmp 13)),none⟩,⟨(some 15),(.e (.call 101 [(.tmp 12),(.tmp 14)])),none⟩,⟨(some 5),(.a (.new [.bool false,.int .i64 (.ofNat 0),.int .i64 (.ofNat 0),.nilslice])),none⟩,⟨none,(.e (.store 4 (.tmp 5) (.tmp 15))),none⟩])
 (.seq (.seq (.region [⟨(some 16),(.p (.faddr 0 (.tmp 5))),none⟩,⟨(some 17),(.load1 (.tmp 16)),none⟩])
 (.cond (.tmp 17) (.seq (.region [⟨(some 4),(.p (.mov (.val (.int .i64 (.ofNat 3))))),none⟩])
 (.ret))
 (.skip)))
 (.seq (.dregion [⟨⟨(some 20),(.loadn 4 (.tmp 5)),none⟩,0,3⟩,⟨⟨(some 21),(.p (.faddr 3 (.tmp 2))),none⟩,0,3⟩,⟨⟨(some 22),(.loadn 4 (.tmp 21)),none⟩,0,3⟩,⟨⟨(some 23),(.e (.call 133 [(.tmp 20),(.tmp 22)])),none⟩,0,6⟩,⟨⟨(some 18),(.p (.faddr 2 (.tmp 2))),none⟩,0,6⟩,⟨⟨(some 19),(.load1 (.tmp 18)),none⟩,0,6⟩,⟨⟨(some 24),(.e (.call 132 [(.tmp 19),(.tmp 23)])),none⟩,4,7⟩,⟨⟨(some 25),(.e (.call 131 [(.tmp 24)])),none⟩,7,9⟩,⟨⟨(some 4),(.p (.mov (.tmp 25))),none⟩,8,9⟩])
 (.ret))))
 (.seq (.region [⟨(some 27),(.p (.bin .eql (.tmp 7) (.val (.int .i64 (.ofNat 3))))),none⟩,⟨(some 26),(.p (.mov (.tmp 27))),none⟩])
 (.cond (.tmp 26) (.seq (.region [⟨(some 28),(.p (.mov (.tmp 1))),none⟩,⟨(some 29),(.p (.faddr 1 (.tmp 2))),none⟩,⟨(some 30),(.load1 (.tmp 29)),none⟩,⟨(some 31),(.e (.call 101 [(.tmp 28),(.tmp 30)])),none⟩,⟨(some 32),(.p (.field1 0 (.tmp 31))),none⟩,⟨(some 33),(.e (.call 131 [(.tmp 32)])),none⟩,⟨(some 4),(.p (.mov (.tmp 33))),none⟩])
 (.ret))
 (.seq (.region [⟨(some 35),(.p (.bin .eql (.tmp 7) (.val (.int .i64 (.ofNat 4))))),none⟩,⟨(some 34),(.p (.mov (.tmp 35))),none⟩])
 (.cond (.tmp 34) (.seq (.region [⟨(some 36),(.loadn 8 (.tmp 2)),none⟩,⟨(some 37),(.p (.mov (.tmp 1))),none⟩,⟨(some 38),(.e (.call 134 [(.tmp 36),(.tmp 37),(.val (.int .i64 (.ofNat 2))),(.val (.int .i64 (.ofNat 1)))])),none⟩,⟨(some 4),(.p (.mov (.tmp 38))),none⟩])
 (.ret))
 (.seq (.region [⟨(some 40),(.p (.bin .eql (.tmp 7) (.val (.int .i64 (.ofNat 5))))),none⟩,⟨(some 39),(.p (.mov (.tmp 40))),none⟩])
 (.cond (.tmp 39) (.seq (.region [⟨(some 41),(.loadn 8 (.tmp 2)),none⟩,⟨(some 42),(.p (.mov (.tmp 1))),none⟩,⟨(some 43),(.e (.call 134 [(.tmp 41),(.tmp 42),(.val (.int .i64 (.ofNat 1))),(.val (.int .i64 (.ofNat 2)))])),none⟩,⟨(some 4),(.p (.mov (.tmp 43))),none⟩])
 (.ret))
 (.seq (.region [⟨(some 45),(.p (.bin .eql (.tmp 7) (.val (.int .i64 (.ofNat 6))))),none⟩,⟨(some 44),(.p (.mov (.tmp 45))),none⟩])
 (.cond (.tmp 44) (.seq (.region [⟨(some 46),(.p (.faddr 7 (.tmp 2))),none⟩,⟨(some 47),(.load1 (.tmp 46)),none⟩,⟨(some 48),(.p (.lenb (.tmp 47))),none⟩,⟨(some 49),(.p (.bin .gtr (.tmp 48) (.val (.int .i64 (.ofNat 0))))),none⟩])
 (.cond (.tmp 49) (.seq (.region [⟨(some 50),(.p (.faddr 7 (.tmp 2))),none⟩,⟨(some 51),(.load1 (.tmp 50)),none⟩,⟨(some 52),(.p (.iaddr 8 (.tmp 51) (.val (.int .i64 (.ofNat 0))))),none⟩,⟨(some 53),(.loadn 8 (.tmp 52)),none⟩,⟨(some 54),(.p (.mov (.tmp 1))),none⟩,⟨(some 55),(.e (.call 79 [(.tmp 53),(.tmp 54)])),none⟩,⟨(some 56),(.e (.call 135 [(.tmp 55)])),none⟩,⟨(some 4),(.p (.mov (.tmp 56))),none⟩])
 (.ret))
 (.skip)))
 (.skip)))))))))))))))
 (.seq (.region [⟨(some 4),(.p (.mov (.val (.int .i64 (.ofNat 3))))),none⟩])
 (.ret))),[.tmp 4]⟩
theorem v79 : IsFun Tryz.prog 79 m79 := ⟨_, Tryz.func79, by kernel_rfl, by kernel_rfl⟩
def m80 : Fun := Go.Lib.M318 Go.Proofs.YtffjinldphmhnaaGreat.sa.F0
theorem v80 : IsFun Tryz.prog 80 m80 := ⟨_, Tryz.func80, by kernel_rfl, by kernel_rfl⟩
def m81 : Fun := ⟨75,2,.seq (.region [⟨(some 2),(.a (.box (.tmp 0))),none⟩,⟨(some 4),(.p (.mov (.val (.nilptr)))),none⟩,⟨(some 5),(.p (.mov (.val (.bool false)))),none⟩])
 (.seq (.region [⟨(some 12),(.p (.build [.nilptr,.nilslice,.nilslice] [])),none⟩,⟨(some 13),(.a (.box (.tmp 12))),none⟩,⟨(some 6),(.p (.mov (.tmp 13))),none⟩])
 (.seq (.region [⟨(some 7),(.p (.mov (.val (.nilslice)))),none⟩])
 (.seq (.seq (.region [⟨(some 14),(.p (.mov (.tmp 1))),none⟩,⟨(some 15),(.p (.lenb (.tmp 14))),none⟩,⟨(some 16),(.p (.mov (.val (.int .i64 (.ofNat 0))))),none⟩])
 (.block 0 (.loop (.seq (.region [⟨(some 17),(.p (.bin .lss (.tmp 16) (.tmp 15))),none⟩])
 (.seq (.cond (.tmp 17) (.skip)
 (.exit 0))
 (.seq (.block 1 (.seq (.region [⟨(some 18),(.p (.mov (.tmp 16))),none⟩,⟨(some 19),(.p (.iaddr 6 (.tmp 14) (.tmp 16))),none⟩,⟨(some 20),(.loadn 6 (.tmp 19)),none⟩,⟨(some 9),(.a (.new [.int .i64 (.ofNat 0),.nilslice,.int .i64 (.ofNat 0),.int .i64 (.ofNat 0),.int .i64 (.ofNat 0),.int .i64 (.ofNat 0)])),none⟩,⟨(some 8),(.p (.mov (.tmp 18))),none⟩,⟨none,(.e (.store 6 (.tmp 9) (.tmp 20))),none⟩])
 (.seq (.seq (.dregion [⟨⟨(some 21),(.p (.mov (.tmp 8))),none⟩,0,13⟩,⟨⟨(some 22),(.p (.bin .gtr (.tmp 21) (.val (.int .i64 (.ofNat 0))))),none⟩,0,13⟩,⟨⟨(some 23),(.p (.mov (.tmp 22))),none⟩,0,13⟩,⟨⟨(some 24),(.p (.faddr 0 (.tmp 9))),(some (23,true))⟩,0,13⟩,⟨⟨(some 25),(.load1 (.tmp 24)),(some (23,true))⟩,0,13⟩,⟨⟨(some 26),(.p (.mov (.tmp 1))),(some (23,true))⟩,0,13⟩,⟨⟨(some 27),(.p (.mov (.tmp 8))),(some (23,true))⟩,0,13⟩,⟨⟨(some 28),(.p (.bin .sub (.tmp 27) (.val (.int .i64 (.ofNat 1))))),(some (23,true))⟩,0,13⟩,⟨⟨(some 29),(.p (.iaddr 6 (.tmp 26) (.tmp 28))),(some (23,true))⟩,0,13⟩,⟨⟨(some 30),(.p (.faddr 0 (.tmp 29))),(some (23,true))⟩,0,13⟩,⟨⟨(some 31),(.load1 (.tmp 30)),(some (23,true))⟩,0,13⟩,⟨⟨(some 32),(.p (.bin .leq (.tmp 25) (.tmp 31))),(some (23,true))⟩,0,13⟩,⟨⟨(some 33),(.p (.pick (.tmp 23) (.tmp 32) (.val (.bool false)))),none⟩,0,13⟩])
 (.cond (.tmp 33) (.seq (.region [⟨(some 4),(.p (.mov (.val (.nilptr)))),none⟩,⟨(some 5),(.p (.mov (.val (.bool false)))),none⟩])
 (.ret))
 (.skip)))
 (.seq (.region [⟨(some 34),(.p (.mov (.tmp 7))),none⟩,⟨(some 35),(.p (.faddr 1 (.tmp 9))),none⟩,⟨(some 36),(.load1 (.tmp 35)),none⟩,⟨(some 37),(.a (.bslice [.nilslice] 1 1 [(0,1,(.tmp 36))])),none⟩,⟨(some 38),(.e (.append 1 24 (.tmp 34) (.tmp 37))),none⟩,⟨(some 7),(.p (.mov (.tmp 38))),none⟩])
 (.dregion [⟨⟨(some 41),(.p (.mov (.tmp 6))),none⟩,0,7⟩,⟨⟨(some 42),(.p (.nilchk (.tmp 41))),none⟩,0,7⟩,⟨⟨(some 43),(.p (.faddr 1 (.tmp 42))),none⟩,0,7⟩,⟨⟨(some 44),(.load1 (.tmp 43)),none⟩,0,7⟩,⟨⟨(some 45),(.p (.faddr 0 (.tmp 9))),none⟩,0,7⟩,⟨⟨(some 46),(.load1 (.tmp 45)),none⟩,0,7⟩,⟨⟨(some 47),(.a (.bslice [.int .i64 (.ofNat 0)] 1 1 [(0,1,(.tmp 46))])),none⟩,0,7⟩,⟨⟨(some 48),(.e (.append 1 8 (.tmp 44) (.tmp 47))),none⟩,0,15⟩,⟨⟨(some 49),(.p (.mov (.tmp 6))),none⟩,0,15⟩,⟨⟨(some 50),(.p (.nilchk (.tmp 49))),none⟩,0,15⟩,⟨⟨(some 51),(.p (.faddr 2 (.tmp 50))),none⟩,0,15⟩,⟨⟨(some 52),(.load1 (.tmp 51)),none⟩,0,15⟩,⟨⟨(some 53),(.p (.faddr 2 (.tmp 9))),none⟩,0,15⟩,⟨⟨(some 54),(.loadn 4 (.tmp 53)),none⟩,0,15⟩,⟨⟨(some 55),(.a (.bslice [.int .i64 (.ofNat 0),.int .i64 (.ofNat 0),.int .i64 (.ofNat 0),.int .i64 (.ofNat 0)] 4 1 [(0,4,(.tmp 54))])),none⟩,0,15⟩,⟨⟨(some 56),(.e (.append 4 32 (.tmp 52) (.tmp 55))),none⟩,8,19⟩,⟨⟨(some 39),(.p (.mov (.tmp 6))),none⟩,0,19⟩,⟨⟨(some 57),(.p (.nilchk (.tmp 39))),none⟩,16,19⟩,⟨⟨(some 58),(.p (.faddr 1 (.tmp 57))),none⟩,16,19⟩,⟨⟨none,(.e (.store 1 (.tmp 58) (.tmp 48))),none⟩,16,23⟩,⟨⟨(some 40),(.p (.mov (.tmp 6))),none⟩,0,23⟩,⟨⟨(some 59),(.p (.nilchk (.tmp 40))),none⟩,20,23⟩,⟨⟨(some 60),(.p (.faddr 2 (.tmp 59))),none⟩,20,23⟩,⟨⟨none,(.e (.store 1 (.tmp 60) (.tmp 56))),none⟩,20,24⟩])))))
 (.region [⟨(some 61),(.p (.bin .add (.tmp 16) (.val (.int .i64 (.ofNat 1))))),none⟩,⟨(some 16),(.p (.mov (.tmp 61))),none⟩])))))))
 (.seq (.region [⟨(some 63),(.loadn 1 (.tmp 2)),none⟩,⟨(some 64),(.p (.mov (.tmp 7))),none⟩,⟨(some 65),(.e (.call 136 [(.tmp 63),(.tmp 64)])),none⟩,⟨(some 62),(.p (.mov (.tmp 65))),none⟩,⟨(some 66),(.p (.ext (.tmp 62) 0)),none⟩,⟨(some 67),(.p (.ext (.tmp 62) 1)),none⟩,⟨(some 10),(.p (.mov (.tmp 66))),none⟩,⟨(some 11),(.p (.mov (.tmp 67))),none⟩])
 (.seq (.seq (.region [⟨(some 68),(.p (.mov (.tmp 11))),none⟩,⟨(some 69),(.p (.not (.tmp 68))),none⟩])
 (.cond (.tmp 69) (.seq (.region [⟨(some 4),(.p (.mov (.val (.nilptr)))),none⟩,⟨(some 5),(.p (.mov (.val (.bool false)))),none⟩])
 (.ret))
 (.skip)))
 (.seq (.region [⟨(some 70),(.p (.mov (.tmp 6))),none⟩,⟨(some 71),(.p (.mov (.tmp 10))),none⟩,⟨(some 72),(.p (.nilchk (.tmp 70))),none⟩,⟨(some 73),(.p (.faddr 0 (.tmp 72))),none⟩,⟨none,(.e (.store 1 (.tmp 73) (.tmp 71))),none⟩])
 (.seq (.region [⟨(some 74),(.p (.mov (.tmp 6))),none⟩,⟨(some 4),(.p (.mov (.tmp 74))),none⟩,⟨(some 5),(.p (.mov (.val (.bool true)))),none⟩])
 (.ret)))))))),[.tmp 4,.tmp 5]⟩
theorem v81 : IsFun Tryz.prog 81 m81 := ⟨_, Tryz.func81, by kernel_rfl, by kernel_rfl⟩
def m82 : Fun := Go.Lib.M321 Go.Proofs.YtffjinldphmhnaaGreat.sa.F0
theorem v82 : IsFun Tryz.prog 82 m82 := ⟨_, Tryz.func82, by kernel_rfl, by kernel_rfl⟩
def m83 : Fun := ⟨8,1,.seq (.region [⟨(some 2),(.p (.mov (.val (.nilslice)))),none⟩])
 (.seq (.seq (.region [⟨(some 3),(.p (.mov (.tmp 0))),none⟩,⟨(some 4),(.p (.eq .slice false (.tmp 3) (.val (.nilslice)))),none⟩])
 (.cond (.tmp 4) (.seq (.region [⟨(some 2),(.p (.mov (.val (.nilslice)))),none⟩])
 (.ret))
 (.skip)))
 (.seq (.region [⟨(some 5),(.a (.bslice [] 1 0 [])),none⟩,⟨(some 6),(.p (.mov (.tmp 0))),none⟩,⟨(some 7),(.e (.append 1 8 (.tmp 5) (.tmp 6))),none⟩,⟨(some 2),(.p (.mov (.tmp 7))),none⟩])
 (.ret))),[.tmp 2]⟩
theorem v83 : IsFun Tryz.prog 83 m83 := ⟨_, Tryz.func83, by kernel_rfl, by kernel_rfl⟩
def m84 : Fun := ⟨19,2,.seq (.region [⟨(some 4),(.p (.mov (.val (.int .i64 (.ofNat 0))))),none⟩])
 (.seq (.seq (.region [⟨(some 6),(.p (.mov (.tmp 0))),none⟩,⟨(some 7),(.p (.lenb (.tmp 6))),none⟩,⟨(some 8),(.p (.mov (.val (.int .i64 (.ofNat 0))))),none⟩])
 (.block 0 (.loop (.seq (.region [⟨(some 9),(.p (.bin .lss (.tmp 8) (.tmp 7))),none⟩])
 (.seq (.cond (.tmp 9) (.skip)
 (.exit 0))
 (.seq (.block 1 (.seq (.region [⟨(some 10),(.p (.mov (.tmp 8))),none⟩,⟨(some 5),(.p (.mov (.tmp 10))),none⟩])
 (.seq (.region [⟨(some 11),(.p (.mov (.tmp 1))),none⟩,⟨(some 12),(.p (.mov (.tmp 0))),none⟩,⟨(some 13),(.p (.mov (.tmp 5))),none⟩,⟨(some 14),(.p (.iaddr 1 (.tmp 12) (.tmp 13))),none⟩,⟨(some 15),(.load1 (.tmp 14)),none⟩,⟨(some 16),(.p (.bin .eql (.tmp 11) (.tmp 15))),none⟩])
 (.cond (.tmp 16) (.seq (.region [⟨(some 17),(.p (.mov (.tmp 5))),none⟩,⟨(some 4),(.p (.mov (.tmp 17))),none⟩])
 (.ret))
 (.skip)))))
 (.region [⟨(some 18),(.p (.bin .add (.tmp 8) (.val (.int .i64 (.ofNat 1))))),none⟩,⟨(some 8),(.p (.mov (.tmp 18))),none⟩])))))))
 (.seq (.region [⟨(some 4),(.p (.mov (.val (.int .i64 (.negSucc 0))))),none⟩])
 (.ret))),[.tmp 4]⟩
theorem v84 : IsFun Tryz.prog 84 m84 := ⟨_, Tryz.func84, by kernel_rfl, by kernel_rfl⟩
def m85 : Fun := ⟨36,2,.seq (.region [⟨(some 4),(.a (.new [.int .i64 (.ofNat 0),.nilslice,.int .i64 (.ofNat 0),.int .i64 (.ofNat 0),.int .i64 (.ofNat 0),.int .i64 (.ofNat 0)])),none⟩,⟨(some 5),(.p (.mov (.val (.bool false)))),none⟩])
 (.seq (.region [⟨(some 9),(.p (.mov (.tmp 0))),none⟩,⟨(some 10),(.p (.nilchk (.tmp 9))),none⟩,⟨(some 11),(.p (.faddr 0 (.tmp 10))),none⟩,⟨(some 12),(.load1 (.tmp 11)),none⟩,⟨(some 13),(.p (.mov (.tmp 1))),none⟩,⟨(some 14),(.e (.call 137 [(.tmp 12),(.tmp 13)])),none⟩,⟨(some 8),(.p (.mov (.tmp 14))),none⟩,⟨(some 15),(.p (.ext (.tmp 8) 0)),none⟩,⟨(some 16),(.p (.ext (.tmp 8) 1)),none⟩,⟨(some 6),(.p (.mov (.tmp 15))),none⟩,⟨(some 7),(.p (.mov (.tmp 16))),none⟩])
 (.seq (.seq (.region [⟨(some 17),(.p (.mov (.tmp 7))),none⟩,⟨(some 18),(.p (.not (.tmp 17))),none⟩])
 (.cond (.tmp 18) (.seq (.region [⟨(some 19),(.p (.build [.int .i64 (.ofNat 0),.nilslice,.int .i64 (.ofNat 0),.int .i64 (.ofNat 0),.int .i64 (.ofNat 0),.int .i64 (.ofNat 0)] [])),none⟩,⟨none,(.e (.store 6 (.tmp 4) (.tmp 19))),none⟩,⟨(some 5),(.p (.mov (.val (.bool false)))),none⟩])
 (.ret))
 (.skip)))
 (.seq (.dregion [⟨⟨(some 20),(.p (.mov (.tmp 0))),none⟩,0,16⟩,⟨⟨(some 21),(.p (.nilchk (.tmp 20))),none⟩,0,16⟩,⟨⟨(some 22),(.p (.faddr 1 (.tmp 21))),none⟩,0,16⟩,⟨⟨(some 23),(.load1 (.tmp 22)),none⟩,0,16⟩,⟨⟨(some 24),(.p (.mov (.tmp 1))),none⟩,0,16⟩,⟨⟨(some 25),(.p (.iaddr 1 (.tmp 23) (.tmp 24))),none⟩,0,16⟩,⟨⟨(some 26),(.load1 (.tmp 25)),none⟩,0,16⟩,⟨⟨(some 27),(.p (.mov (.tmp 6))),none⟩,0,16⟩,⟨⟨(some 28),(.p (.mov (.tmp 0))),none⟩,0,16⟩,⟨⟨(some 29),(.p (.nilchk (.tmp 28))),none⟩,0,16⟩,⟨⟨(some 30),(.p (.faddr 2 (.tmp 29))),none⟩,0,16⟩,⟨⟨(some 31),(.load1 (.tmp 30)),none⟩,0,16⟩,⟨⟨(some 32),(.p (.mov (.tmp 1))),none⟩,0,16⟩,⟨⟨(some 33),(.p (.iaddr 4 (.tmp 31) (.tmp 32))),none⟩,0,16⟩,⟨⟨(some 34),(.loadn 4 (.tmp 33)),none⟩,0,16⟩,⟨⟨(some 35),(.p (.build [.int .i64 (.ofNat 0),.nilslice,.int .i64 (.ofNat 0),.int .i64 (.ofNat 0),.int .i64 (.ofNat 0),.int .i64 (.ofNat 0)] [(0,1,(.tmp 26)),(1,1,(.tmp 27)),(2,4,(.tmp 34))])),none⟩,0,16⟩,⟨⟨none,(.e (.store 6 (.tmp 4) (.tmp 35))),none⟩,0,18⟩,⟨⟨(some 5),(.p (.mov (.val (.bool true)))),none⟩,17,18⟩])
 (.ret)))),[.celln 6 4,.tmp 5]⟩
theorem v85 : IsFun Tryz.prog 85 m85 := ⟨_, Tryz.func85, by kernel_rfl, by kernel_rfl⟩
def m86 : Fun := ⟨33,3,.seq (.region [⟨(some 6),(.p (.mov (.val (.nilslice)))),none⟩])
 (.seq (.region [⟨(some 8),(.p (.mov (.tmp 0))),none⟩,⟨(some 9),(.p (.mov (.tmp 1))),none⟩,⟨(some 10),(.p (.mov (.tmp 2))),none⟩,⟨(some 11),(.p (.mov (.tmp 0))),none⟩,⟨(some 12),(.p (.lenb (.tmp 11))),none⟩,⟨(some 13),(.p (.slc 1 (.tmp 8) (some (.tmp 9)) (some (.tmp 10)) (some (.tmp 12)))),none⟩])
 (.seq (.seq (.region [⟨(some 14),(.p (.mov (.tmp 1))),none⟩,⟨(some 15),(.p (.mov (.tmp 2))),none⟩,⟨(some 16),(.p (.bin .eql (.tmp 14) (.tmp 15))),none⟩])
 (.cond (.tmp 16) (.seq (.region [⟨(some 17),(.p (.mov (.tmp 0))),none⟩,⟨(some 6),(.p (.mov (.tmp 17))),none⟩])
 (.ret))
 (.skip)))
 (.seq (.region [⟨(some 18),(.p (.mov (.tmp 0))),none⟩,⟨(some 19),(.p (.lenb (.tmp 18))),none⟩,⟨(some 7),(.p (.mov (.tmp 19))),none⟩])
 (.seq (.dregion [⟨⟨(some 20),(.p (.mov (.tmp 0))),none⟩,0,6⟩,⟨⟨(some 21),(.p (.mov (.tmp 1))),none⟩,0,6⟩,⟨⟨(some 22),(.p (.slc 1 (.tmp 20) none (some (.tmp 21)) none)),none⟩,0,6⟩,⟨⟨(some 23),(.p (.mov (.tmp 0))),none⟩,0,6⟩,⟨⟨(some 24),(.p (.mov (.tmp 2))),none⟩,0,6⟩,⟨⟨(some 25),(.p (.slc 1 (.tmp 23) (some (.tmp 24)) none none)),none⟩,0,6⟩,⟨⟨(some 26),(.e (.append 1 8 (.tmp 22) (.tmp 25))),none⟩,0,8⟩,⟨⟨(some 0),(.p (.mov (.tmp 26))),none⟩,7,8⟩])
 (.seq (.region [⟨(some 27),(.p (.mov (.tmp 0))),none⟩,⟨(some 28),(.p (.mov (.tmp 0))),none⟩,⟨(some 29),(.p (.lenb (.tmp 28))),none⟩,⟨(some 30),(.p (.mov (.tmp 7))),none⟩,⟨(some 31),(.p (.slc 1 (.tmp 27) (some (.tmp 29)) (some (.tmp 30)) none)),none⟩,⟨none,(.e (.clear [.nilptr] (.tmp 31))),none⟩])
 (.seq (.region [⟨(some 32),(.p (.mov (.tmp 0))),none⟩,⟨(some 6),(.p (.mov (.tmp 32))),none⟩])
 (.ret))))))),[.tmp 6]⟩
theorem v86 : IsFun Tryz.prog 86 m86 := ⟨_, Tryz.func86, by kernel_rfl, by kernel_rfl⟩
def m87 : Fun := ⟨36,1,.seq (.region [⟨(some 2),(.p (.mov (.val (.nilslice)))),none⟩])
 (.seq (.region [⟨(some 3),(.p (.mov (.val (.int .i64 (.ofNat 0))))),none⟩])
 (.seq (.seq (.region [⟨(some 9),(.p (.mov (.tmp 0))),none⟩,⟨(some 10),(.p (.lenb (.tmp 9))),none⟩,⟨(some 11),(.p (.mov (.val (.int .i64 (.ofNat 0))))),none⟩])
 (.block 0 (.loop (.seq (.region [⟨(some 12),(.p (.bin .lss (.tmp 11) (.tmp 10))),none⟩])
 (.seq (.cond (.tmp 12) (.skip)
 (.exit 0))
 (.seq (.block 1 (.seq (.region [⟨(some 13),(.p (.iaddr 1 (.tmp 9) (.tmp 11))),none⟩,⟨(some 14),(.load1 (.tmp 13)),none⟩,⟨(some 5),(.p (.mov (.tmp 14))),none⟩])
 (.seq (.region [⟨(some 15),(.p (.mov (.tmp 3))),none⟩,⟨(some 16),(.p (.mov (.tmp 5))),none⟩,⟨(some 17),(.p (.lenb (.tmp 16))),none⟩,⟨(some 18),(.p (.bin .add (.tmp 15) (.tmp 17))),none⟩,⟨(some 3),(.p (.mov (.tmp 18))),none⟩])
 (.seq (.region [⟨(some 19),(.p (.mov (.tmp 3))),none⟩,⟨(some 20),(.p (.bin .lss (.tmp 19) (.val (.int .i64 (.ofNat 0))))),none⟩])
 (.cond (.tmp 20) (.region [⟨(some 21),(.p (.mkiface 9 (.val (.str [108,101,110,32,111,117,116,32,111,102,32,114,97,110,103,101])))),none⟩,⟨none,(.e (.stop)),none⟩])
 (.skip))))))
 (.region [⟨(some 22),(.p (.bin .add (.tmp 11) (.val (.int .i64 (.ofNat 1))))),none⟩,⟨(some 11),(.p (.mov (.tmp 22))),none⟩])))))))
 (.seq (.region [⟨(some 23),(.p (.mov (.tmp 3))),none⟩,⟨(some 24),(.e (.call 138 [(.val (.nilslice)),(.tmp 23)])),none⟩,⟨(some 6),(.p (.mov (.tmp 24))),none⟩])
 (.seq (.seq (.region [⟨(some 25),(.p (.mov (.tmp 0))),none⟩,⟨(some 26),(.p (.lenb (.tmp 25))),none⟩,⟨(some 27),(.p (.mov (.val (.int .i64 (.ofNat 0))))),none⟩])
 (.block 2 (.loop (.seq (.region [⟨(some 28),(.p (.bin .lss (.tmp 27) (.tmp 26))),none⟩])
 (.seq (.cond (.tmp 28) (.skip)
 (.exit 2))
 (.seq (.block 3 (.seq (.region [⟨(some 29),(.p (.iaddr 1 (.tmp 25) (.tmp 27))),none⟩,⟨(some 30),(.load1 (.tmp 29)),none⟩,⟨(some 8),(.p (.mov (.tmp 30))),none⟩])
 (.region [⟨(some 31),(.p (.mov (.tmp 6))),none⟩,⟨(some 32),(.p (.mov (.tmp 8))),none⟩,⟨(some 33),(.e (.append 1 8 (.tmp 31) (.tmp 32))),none⟩,⟨(some 6),(.p (.mov (.tmp 33))),none⟩])))
 (.region [⟨(some 34),(.p (.bin .add (.tmp 27) (.val (.int .i64 (.ofNat 1))))),none⟩,⟨(some 27),(.p (.mov (.tmp 34))),none⟩])))))))
 (.seq (.region [⟨(some 35),(.p (.mov (.tmp 6))),none⟩,⟨(some 2),(.p (.mov (.tmp 35))),none⟩])
 (.ret)))))),[.tmp 2]⟩
theorem v87 : IsFun Tryz.prog 87 m87 := ⟨_, Tryz.func87, by kernel_rfl, by kernel_rfl⟩
def m88 : Fun := Go.Lib.M317 Go.Proofs.YtffjinldphmhnaaGreat.sa.F0
theorem v88 : IsFun Tryz.prog 88 m88 := ⟨_, Tryz.func88, by kernel_rfl, by kernel_rfl⟩
def m89 : Fun := ⟨6,1,.seq (.region [⟨(some 2),(.p (.mov (.val (.nilslice)))),none⟩])
 (.seq (.region [⟨(some 3),(.p (.mov (.tmp 0))),none⟩,⟨(some 4),(.p (.build [.bool false,.int .i64 (.ofNat 0),.int .i64 (.ofNat 0),.nilslice] [(1,1,(.val (.int .i64 (.ofNat 1)))),(2,1,(.tmp 3))])),none⟩,⟨(some 5),(.a (.bslice [.bool false,.int .i64 (.ofNat 0),.int .i64 (.ofNat 0),.nilslice] 4 1 [(0,4,(.tmp 4))])),none⟩,⟨(some 2),(.p (.mov (.tmp 5))),none⟩])
 (.ret)),[.tmp 2]⟩
theorem v89 : IsFun Tryz.prog 89 m89 := ⟨_, Tryz.func89, by kernel_rfl, by kernel_rfl⟩
def m90 : Fun := Go.Lib.M50 Go.Proofs.YtffjinldphmhnaaGreat.sa.F0
theorem v90 : IsFun Tryz.prog 90 m90 := ⟨_, Tryz.func90, by kernel_rfl, by kernel_rfl⟩
def m91 : Fun := Go.Lib.M319 Go.Proofs.YtffjinldphmhnaaGreat.sa.F0
theorem v91 : IsFun Tryz.prog 91 m91 := ⟨_, Tryz.func91, by kernel_rfl, by kernel_rfl⟩
def m92 : Fun := ⟨25,3,.seq (.region [⟨(some 5),(.a (.box (.tmp 2))),none⟩,⟨(some 6),(.p (.mov (.val (.bool false)))),none⟩])
 (.seq (.seq (.region [⟨(some 7),(.p (.mov (.tmp 1))),none⟩,⟨(some 8),(.p (.bin .lss (.tmp 7) (.val (.int .i64 (.ofNat 0))))),none⟩,⟨(some 9),(.p (.mov (.tmp 8))),none⟩,⟨(some 10),(.p (.mov (.tmp 1))),(some (9,false))⟩,⟨(some 11),(.p (.mov (.tmp 0))),(some (9,false))⟩,⟨(some 12),(.p (.nilchk (.tmp 11))),(some (9,false))⟩,⟨(some 13),(.p (.faddr 2 (.tmp 12))),(some (9,false))⟩,⟨(some 14),(.load1 (.tmp 13)),(some (9,false))⟩,⟨(some 15),(.p (.lenb (.tmp 14))),(some (9,false))⟩,⟨(some 16),(.p (.bin .geq (.tmp 10) (.tmp 15))),(some (9,false))⟩,⟨(some 17),(.p (.pick (.tmp 9) (.val (.bool true)) (.tmp 16))),none⟩])
 (.cond (.tmp 17) (.seq (.region [⟨(some 6),(.p (.mov (.val (.bool false)))),none⟩])
 (.ret))
 (.skip)))
 (.seq (.dregion [⟨⟨(some 18),(.p (.mov (.tmp 0))),none⟩,0,7⟩,⟨⟨(some 19),(.p (.nilchk (.tmp 18))),none⟩,0,7⟩,⟨⟨(some 20),(.p (.faddr 2 (.tmp 19))),none⟩,0,7⟩,⟨⟨(some 21),(.load1 (.tmp 20)),none⟩,0,7⟩,⟨⟨(some 22),(.p (.mov (.tmp 1))),none⟩,0,7⟩,⟨⟨(some 23),(.loadn 4 (.tmp 5)),none⟩,0,7⟩,⟨⟨(some 24),(.p (.iaddr 4 (.tmp 21) (.tmp 22))),none⟩,0,7⟩,⟨⟨none,(.e (.store 4 (.tmp 24) (.tmp 23))),none⟩,0,8⟩])
 (.seq (.region [⟨(some 6),(.p (.mov (.val (.bool true)))),none⟩])
 (.ret)))),[.tmp 6]⟩
theorem v92 : IsFun Tryz.prog 92 m92 := ⟨_, Tryz.func92, by kernel_rfl, by kernel_rfl⟩
def m93 : Fun := Go.Lib.M320 Go.Proofs.YtffjinldphmhnaaGreat.sa.F0
theorem v93 : IsFun Tryz.prog 93 m93 := ⟨_, Tryz.func93, by kernel_rfl, by kernel_rfl⟩
def m100 : Fun := ⟨20,2,.seq (.region [⟨(some 4),(.p (.mov (.val (.int .i64 (.ofNat 0))))),none⟩])
 (.seq (.region [⟨(some 7),(.p (.mov (.tmp 0))),none⟩,⟨(some 8),(.e (.call 144 [(.tmp 7)])),none⟩,⟨(some 5),(.p (.mov (.tmp 8))),none⟩])
 (.seq (.region [⟨(some 9),(.p (.mov (.tmp 1))),none⟩,⟨(some 10),(.e (.call 144 [(.tmp 9)])),none⟩,⟨(some 6),(.p (.mov (.tmp 10))),none⟩])
 (.seq (.seq (.region [⟨(some 11),(.p (.mov (.tmp 5))),none⟩])
 (.cond (.tmp 11) (.seq (.seq (.region [⟨(some 12),(.p (.mov (.tmp 6))),none⟩])
 (.cond (.tmp 12) (.seq (.region [⟨(some 4),(.p (.mov (.val (.int .i64 (.ofNat 0))))),none⟩])
 (.ret))
 (.skip)))
 (.seq (.region [⟨(some 4),(.p (.mov (.val (.int .i64 (.negSucc 0))))),none⟩])
 (.ret)))
 (.skip)))
 (.seq (.seq (.region [⟨(some 13),(.p (.mov (.tmp 6))),none⟩])
 (.cond (.tmp 13) (.seq (.region [⟨(some 4),(.p (.mov (.val (.int .i64 (.ofNat 1))))),none⟩])
 (.ret))
 (.skip)))
 (.seq (.seq (.region [⟨(some 14),(.p (.mov (.tmp 0))),none⟩,⟨(some 15),(.p (.mov (.tmp 1))),none⟩,⟨(some 16),(.p (.bin .lss (.tmp 14) (.tmp 15))),none⟩])
 (.cond (.tmp 16) (.seq (.region [⟨(some 4),(.p (.mov (.val (.int .i64 (.negSucc 0))))),none⟩])
 (.ret))
 (.skip)))
 (.seq (.seq (.region [⟨(some 17),(.p (.mov (.tmp 0))),none⟩,⟨(some 18),(.p (.mov (.tmp 1))),none⟩,⟨(some 19),(.p (.bin .gtr (.tmp 17) (.tmp 18))),none⟩])
 (.cond (.tmp 19) (.seq (.region [⟨(some 4),(.p (.mov (.val (.int .i64 (.ofNat 1))))),none⟩])
 (.ret))
 (.skip)))
 (.seq (.region [⟨(some 4),(.p (.mov (.val (.int .i64 (.ofNat 0))))),none⟩])
 (.ret)))))))),[.tmp 4]⟩
theorem v100 : IsFun Tryz.prog 100 m100 := ⟨_, Tryz.func100, by kernel_rfl, by kernel_rfl⟩
def m101 : Fun := ⟨19,2,.seq (.region [⟨(some 4),(.a (.new [.bool false,.int .i64 (.ofNat 0),.int .i64 (.ofNat 0),.nilslice])),none⟩])
 (.seq (.seq (.region [⟨(some 5),(.p (.mov (.tmp 1))),none⟩,⟨(some 6),(.p (.bin .lss (.tmp 5) (.val (.int .i64 (.ofNat 0))))),none⟩,⟨(some 7),(.p (.mov (.tmp 6))),none⟩,⟨(some 8),(.p (.mov (.tmp 1))),(some (7,false))⟩,⟨(some 9),(.p (.mov (.tmp 0))),(some (7,false))⟩,⟨(some 10),(.p (.lenb (.tmp 9))),(some (7,false))⟩,⟨(some 11),(.p (.bin .geq (.tmp 8) (.tmp 10))),(some (7,false))⟩,⟨(some 12),(.p (.pick (.tmp 7) (.val (.bool true)) (.tmp 11))),none⟩])
 (.cond (.tmp 12) (.seq (.region [⟨(some 13),(.p (.build [.bool false,.int .i64 (.ofNat 0),.int .i64 (.ofNat 0),.nilslice] [])),none⟩,⟨none,(.e (.store 4 (.tmp 4) (.tmp 13))),none⟩])
 (.ret))
 (.skip)))
 (.seq (.region [⟨(some 14),(.p (.mov (.tmp 0))),none⟩,⟨(some 15),(.p (.mov (.tmp 1))),none⟩,⟨(some 16),(.p (.iaddr 4 (.tmp 14) (.tmp 15))),none⟩,⟨(some 17),(.loadn 4 (.tmp 16)),none⟩,⟨(some 18),(.e (.call 145 [(.tmp 17)])),none⟩,⟨none,(.e (.store 4 (.tmp 4) (.tmp 18))),none⟩])
 (.ret))),[.celln 4 4]⟩
theorem v101 : IsFun Tryz.prog 101 m101 := ⟨_, Tryz.func101, by kernel_rfl, by kernel_rfl⟩
def m102 : Fun := ⟨20,2,.seq (.region [⟨(some 4),(.p (.mov (.val (.int .i64 (.ofNat 0))))),none⟩])
 (.seq (.region [⟨(some 7),(.p (.mov (.tmp 0))),none⟩,⟨(some 8),(.e (.call 146 [(.tmp 7)])),none⟩,⟨(some 5),(.p (.mov (.tmp 8))),none⟩])
 (.seq (.region [⟨(some 9),(.p (.mov (.tmp 1))),none⟩,⟨(some 10),(.e (.call 146 [(.tmp 9)])),none⟩,⟨(some 6),(.p (.mov (.tmp 10))),none⟩])
 (.seq (.seq (.region [⟨(some 11),(.p (.mov (.tmp 5))),none⟩])
 (.cond (.tmp 11) (.seq (.seq (.region [⟨(some 12),(.p (.mov (.tmp 6))),none⟩])
 (.cond (.tmp 12) (.seq (.region [⟨(some 4),(.p (.mov (.val (.int .i64 (.ofNat 0))))),none⟩])
 (.ret))
 (.skip)))
 (.seq (.region [⟨(some 4),(.p (.mov (.val (.int .i64 (.negSucc 0))))),none⟩])
 (.ret)))
 (.skip)))
 (.seq (.seq (.region [⟨(some 13),(.p (.mov (.tmp 6))),none⟩])
 (.cond (.tmp 13) (.seq (.region [⟨(some 4),(.p (.mov (.val (.int .i64 (.ofNat 1))))),none⟩])
 (.ret))
 (.skip)))
 (.seq (.seq (.region [⟨(some 14),(.p (.mov (.tmp 0))),none⟩,⟨(some 15),(.p (.mov (.tmp 1))),none⟩,⟨(some 16),(.p (.bin .lss (.tmp 14) (.tmp 15))),none⟩])
 (.cond (.tmp 16) (.seq (.region [⟨(some 4),(.p (.mov (.val (.int .i64 (.negSucc 0))))),none⟩])
 (.ret))
 (.skip)))
 (.seq (.seq (.region [⟨(some 17),(.p (.mov (.tmp 0))),none⟩,⟨(some 18),(.p (.mov (.tmp 1))),none⟩,⟨(some 19),(.p (.bin .gtr (.tmp 17) (.tmp 18))),none⟩])
 (.cond (.tmp 19) (.seq (.region [⟨(some 4),(.p (.mov (.val (.int .i64 (.ofNat 1))))),none⟩])
 (.ret))
 (.skip)))
 (.seq (.region [⟨(some 4),(.p (.mov (.val (.int .i64 (.ofNat 0))))),none⟩])
 (.ret)))))))),[.tmp 4]⟩
theorem v102 : IsFun Tryz.prog 102 m102 := ⟨_, Tryz.func102, by kernel_rfl, by kernel_rfl⟩
def m113 : Fun := Go.Lib.M264 Go.Proofs.YtffjinldphmhnaaGreat.sa.F0
theorem v113 : IsFun Tryz.prog 113 m113 := ⟨_, Tryz.func113, by kernel_rfl, by kernel_rfl⟩
def m114 : Fun := Go.Lib.M265 Go.Proofs.YtffjinldphmhnaaGreat.sa.F0
theorem v114 : IsFun Tryz.prog 114 m114 := ⟨_, Tryz.func114, by kernel_rfl, by kernel_rfl⟩
end Go.Proofs.YtffjinldphmhnaaGreat
end
