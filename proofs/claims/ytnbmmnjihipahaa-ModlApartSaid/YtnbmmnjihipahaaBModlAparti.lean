/-
  Texts that the claim's last one rests on, joined.
-/
import Derived.Test.YtnbmmnjihipahaaBModlAparth
import Derived.Test.YtnbmmnjihipahaaBModlApartf

section
set_option maxRecDepth 10000
namespace Go.Lib
open Go.Vm Go.Dv Go.Srt
variable {p : Prog} {ext : Ext} {F : Nat → Nat}
theorem WeakV.tup2 {d d2 : D} {H H2 : HpD} {w : V} (k : WeakV d H d2 H2) : WeakV (.tup [d, .lit w]) H (.tup [d2, .lit w]) H2 := by
  intro ψ S h v s kv
  simp only [VD, VDl] at kv
  obtain ⟨l', rfl, x, r, rfl, kx, y, r2, rfl, ky, rfl⟩ := kv
  obtain ⟨ψ', S', x1, s1, k1⟩ := k ψ S h x s kx
  refine ⟨ψ', S', x1, s1, ?_⟩
  simp only [VD, VDl]
  exact ⟨_, rfl, x, _, rfl, k1, y, _, rfl, ky, rfl⟩
theorem all_row (L : HAggr p ext F) (hx : ∀ args h, ext (F 45) args h = extV .add64 args h) {H0 H : HpD} {s : D} {r : Row} {l : List Row} {ags : List Ag} (hl : Fine l) (ha : ∀ a, a ∈ ags → AgOk l a) (hb : r.length + ags.length < 1000) (g : Gr H0 H 4 s (rowE r)) :
    WcD p ext (F 36) [s, rowsD l, agsD ags] H fun d H' => d = .tup [rowD (if oks l ags then r ++ vals l ags else []), .lit (.bool (oks l ags))] ∧ Sub H0 H' := by
  refine WcD.weak ((all_own L hx hl ha hb g).mono ?_)
  rintro d H' (⟨hk, s', rfl, g'⟩ | ⟨hk, rfl, hs⟩)
  · obtain ⟨H2, w, sub, _⟩ := g'.fin row_underss (m := .p) (by simp)
    refine ⟨_, H2, WeakV.tup2 w, ?_, sub⟩
    rw [hk]; rfl
  · refine ⟨_, H', WeakV.tup2 (WeakV.le (d' := rowD []) (by simp [rowD, rowE, D.le])), ?_, hs⟩
    rw [hk]; rfl
def cmpC (c : Int) (a b : Row) : Int := cmpV (atV a c) (atV b c)
theorem groups1 (L : HAggr p ext F) {a b : Row} {c : Int} : FnD p ext (F 38) [rowD a, rowD b, .rptr [.lit (.int .i64 c)] 0] (.lit (.int .i64 (cmpC c a b))) := by
  refine fn_of L.h38 (M := M38) rfl ok38 rfl fun H => sem_run 9000 _ ?_
  simp
  refine sem_dfn (schm_at L.schm) (by first | exact D.les_refl _ | simp) (sem_run 9000 _ ?_)
  simp
  refine sem_dfn (schm_at L.schm) (by first | exact D.les_refl _ | simp) (sem_run 9000 _ ?_)
  simp
  refine sem_dfn (schm_compare L.schm) (by first | exact D.les_refl _ | simp) (sem_run 9000 _ ?_)
  simp
  refine sem_ret ?_
  simp [M38, cmpC]
  exact .same (by simp)
theorem cmpC_ok (L : HAggr p ext F) {c : Int} {k : Int} : Cmp p ext rowEnc (fun r => (atV r c).kind = k) (.func (F 38) [] [.rptr [.lit (.int .i64 c)] 0]) (cmpC c) :=
  ⟨⟨F 38, [], [.rptr [.lit (.int .i64 c)] 0], rfl, fun x y _ _ => by simpa [rowEnc] using groups1 L⟩, fun x y hx hy => cmpV_ord.anti _ _ hx hy, fun x y z hx hy hz => cmpV_ord.trans _ _ _ hx hy hz⟩
theorem groups_neg (L : HAggr p ext F) (hx : ∀ args h, ext (F 45) args h = extV .add64 args h) {l : List Row} {c : Int} {ags : List Ag} (hl : Fine l) (ha : ∀ a, a ∈ ags → AgOk l a) (hb : ags.length < 1000) (hc : c < 0) : FnD p ext (F 32) [rowsD l, .lit (.int .i64 c), agsD ags] (.tup [rowsD (if oks l ags then [vals l ags] else []), .lit (.bool (oks l ags))]) := by
  refine fn_of L.h32 (M := M32) rfl ok32 rfl fun H => sem_run 9000 _ ?_
  simp [hc]
  refine sem_call (all_row L hx (H0 := H) (r := []) hl ha (by simpa using hb) (by simpa [rowE] using Gr.start)) ?_
  rintro _ H2 ⟨rfl, hs⟩
  refine sem_run 9000 _ ?_
  simp
  cases hk : oks l ags with
  | true =>
    simp
    refine sem_ret ?_
    simp [M32]
    exact .le (by have := hs.next; repeat (first | exact hs | apply Sub.new | refine Sub.put ?_ (by first | omega | (simp only [put_next, new_next]; omega)))) (by simp [rowsD, rowsE, D.le]) (by simp)
  | false =>
    simp
    refine sem_ret ?_
    simp [M32]
    exact .le (by have := hs.next; repeat (first | exact hs | apply Sub.new | refine Sub.put ?_ (by first | omega | (simp only [put_next, new_next]; omega)))) (by simp [rowsD, rowsE, D.le]) (by simp)
def cnt (c : Int) (r : Row) (t : List Row) : Nat := 1 + (t.takeWhile fun x => decide (cmpV (atV x c) (atV r c) = 0)).length
theorem takeWhile_len {p : Row → Bool} : ∀ {t : List Row} {n : Nat}, n ≤ t.length → (∀ q x, q < n → t[q]? = some x → p x = true) → (n = t.length ∨ ∃ x, t[n]? = some x ∧ p x = false) → (t.takeWhile p).length = n
  | [], n, h, _, _ => by simp at h; simp [h]
  | x :: t, 0, _, _, h => by
    rcases h with h | ⟨y, e, hy⟩
    · simp at h
    · simp at e; subst e; simp [hy]
  | x :: t, n + 1, h1, h2, h3 => by
    have := h2 0 x (by omega) rfl
    rw [List.takeWhile_cons, if_pos this, List.length_cons, takeWhile_len (n := n) (by simpa using h1) (fun q y hq hy => h2 (q + 1) y (by omega) (by simpa using hy)) (by simpa using h3)]
theorem cnt_eq {c : Int} {r : Row} {t : List Row} {i : Nat} (h1 : 1 ≤ i) (h2 : i ≤ t.length + 1) (hq : ∀ q x, q + 1 < i → t[q]? = some x → cmpV (atV x c) (atV r c) = 0) (h3 : i = t.length + 1 ∨ ∃ x, t[i - 1]? = some x ∧ ¬ cmpV (atV x c) (atV r c) = 0) : i = cnt c r t := by
  unfold cnt
  rw [takeWhile_len (n := i - 1) (by omega) (fun q x h e => by simpa using hq q x (by omega) e) (by
    rcases h3 with h | ⟨x, e, h⟩
    · left; omega
    · right; exact ⟨x, e, by simpa using h⟩)]
  omega
def runG (c : Int) (ags : List Ag) : Nat → List Row → List Row × Bool
  | _, [] => ([], true)
  | 0, _ => ([], true)
  | w + 1, r :: t => if oks ((r :: t).take (cnt c r t)) ags then
      match runG c ags w ((r :: t).drop (cnt c r t)) with
      | (x, true) => ((atV r c :: vals ((r :: t).take (cnt c r t)) ags) :: x, true)
      | (_, false) => ([], false)
    else ([], false)
theorem runG_false {c : Int} {ags : List Ag} : ∀ {w : Nat} {l : List Row}, (runG c ags w l).2 = false → runG c ags w l = ([], false)
  | w, [], h => by unfold runG at h; cases w <;> simp at h
  | 0, _ :: _, h => by simp [runG] at h
  | w + 1, r :: t, h => by
    unfold runG at h ⊢
    split
    · rename_i hk
      rw [if_pos hk] at h
      split
      · rename_i x he
        rw [he] at h; simp at h
      · rfl
    · rfl
theorem runG_fuel {c : Int} {ags : List Ag} : ∀ {w : Nat} {l : List Row}, l.length ≤ w → runG c ags w l = runG c ags l.length l
  | w, [], _ => by cases w <;> simp [runG]
  | 0, _ :: _, h => by simp at h
  | w + 1, r :: t, h => by
    have hd : ((r :: t).drop (cnt c r t)).length ≤ t.length := by
      have : 1 ≤ cnt c r t := by unfold cnt; omega
      simp only [List.length_drop, List.length_cons]; omega
    rw [List.length_cons]
    unfold runG
    rw [runG_fuel (w := w) (by simp at h; omega), runG_fuel (w := t.length) hd]
theorem runG_step {c : Int} {ags : List Ag} {r : Row} {t : List Row} {i : Nat} (hi : i = cnt c r t) (hk : oks ((r :: t).take i) ags = true) :
    runG c ags (r :: t).length (r :: t) = if (runG c ags ((r :: t).drop i).length ((r :: t).drop i)).2 then ((atV r c :: vals ((r :: t).take i) ags) :: (runG c ags ((r :: t).drop i).length ((r :: t).drop i)).1, true) else ([], false) := by
  subst hi
  have hd : ((r :: t).drop (cnt c r t)).length ≤ t.length := by
    have : 1 ≤ cnt c r t := by unfold cnt; omega
    simp only [List.length_drop, List.length_cons]; omega
  rw [← runG_fuel hd]
  conv => lhs; rw [List.length_cons]; unfold runG
  rw [if_pos hk]
  split
  · rename_i x e; simp [e]
  · rename_i x e; simp [e]
theorem runG_stop {c : Int} {ags : List Ag} {r : Row} {t : List Row} {i : Nat} (hi : i = cnt c r t) (hk : oks ((r :: t).take i) ags = false) : runG c ags (r :: t).length (r :: t) = ([], false) := by
  subst hi
  rw [List.length_cons]; unfold runG
  rw [if_neg (by simp [hk])]
theorem rowsE_drop {l : List Row} {n : Nat} : (rowsE l).drop n = rowsE (l.drop n) := by simp [rowsE, List.map_drop]
theorem rowsE_take {l : List Row} {n : Nat} : (rowsE l).take n = rowsE (l.take n) := by simp [rowsE, List.map_take]
theorem slc_take {l : List Row} {i : Nat} (h : i ≤ l.length) : slcD 1 (rowsD l) none (some (.lit (.int .i64 (i : Int)))) none = some (rowsD (l.take i)) := by
  have := slcRow_eq (sz := 1) (m := .p) (l := rowsE l) (lo := none) (hi := some (.int .i64 (i : Int))) (mx := none)
  simp only [Option.map] at this
  rw [rowsD, this]
  simp [needH, slcRow, boundM, boundH, boundL, cutMd, ble_d, h, rowsD, rowsE_take]
theorem slc_drop {l : List Row} {i : Nat} (h : i ≤ l.length) : slcD 1 (rowsD l) (some (.lit (.int .i64 (i : Int)))) none none = some (rowsD (l.drop i)) := by
  have := slcRow_eq (sz := 1) (m := .p) (l := rowsE l) (lo := some (.int .i64 (i : Int))) (hi := none) (mx := none)
  simp only [Option.map] at this
  rw [rowsD, this]
  simp [needH, slcRow, boundM, boundH, boundL, cutMd, ble_d, h, rowsD]
  rw [← rowsE_drop, List.take_of_length_le (by simp)]
def GrpI (H0 : HpD) (c : Int) (ags : List Ag) (l' : List Row) (k : Nat) (fr : FrD) (H : HpD) : Prop :=
  ∃ (rest done : List Row) (s : D), k = rest.length ∧ (∀ r, r ∈ rest → r ∈ l') ∧ done.length + rest.length ≤ l'.length ∧ fr = [(2, agsD ags), (4, .rptr [.lit (.int .i64 c)] 0), (10, rowsD rest), (11, s)] ∧ Gr H0 H 1 s (rowsE done) ∧
    runG c ags l'.length l' = (if (runG c ags rest.length rest).2 then (done ++ (runG c ags rest.length rest).1, true) else ([], false))
def CntI (H0 : HpD) (c : Int) (ags : List Ag) (r : Row) (t : List Row) (s : D) (k : Nat) (fr : FrD) (H : HpD) : Prop :=
  ∃ i : Nat, k = t.length + 1 - i ∧ 1 ≤ i ∧ i ≤ t.length + 1 ∧ (∀ q x, q + 1 < i → t[q]? = some x → cmpV (atV x c) (atV r c) = 0) ∧
    (lk fr 2 = agsD ags ∧ lk fr 4 = .rptr [.lit (.int .i64 c)] 0 ∧ lk fr 10 = rowsD (r :: t) ∧ lk fr 11 = s ∧ lk fr 12 = .rptr (atV r c).c 0 ∧ lk fr 13 = .lit (.int .i64 (i : Int))) ∧ Sub H0 H
def GrpR (c : Int) (ags : List Ag) (l : List Row) (d : D) : Prop :=
  ∃ l' : List Row, l'.Perm l ∧ Srt (cmpC c) l' 0 l.length ∧ d = .tup [rowsD (runG c ags l'.length l').1, .lit (.bool (runG c ags l'.length l').2)]
def GrpQ (H0 : HpD) (c : Int) (ags : List Ag) (l : List Row) (d : D) (H' : HpD) : Prop := ∃ d2 H2, WeakV d H' d2 H2 ∧ GrpR c ags l d2 ∧ Sub H0 H2
set_option maxHeartbeats 1000000 in
theorem groups_own (L : HAggr p ext F) (hx : ∀ args h, ext (F 45) args h = extV .add64 args h) {l : List Row} {c k : Int} {ags : List Ag} {H : HpD} (hl : Fine l) (hk : ∀ r, r ∈ l → (atV r c).kind = k) (ha : ∀ l', (∀ r, r ∈ l' → r ∈ l) → ∀ a, a ∈ ags → AgOk l' a) (hb : ags.length < 900) (hc : ¬ c < 0) : WcD p ext (F 32) [rowsD l, .lit (.int .i64 c), agsD ags] H (fun d H' => GrpQ H c ags l d H') := by
  refine wc_of L.h32 (M := M32) rfl ok32 rfl (sem_run 9000 _ ?_)
  simp [hc]
  refine sem_call (still_own L hl) fun d H1 g1 => ?_
  refine sem_run 9000 _ ?_
  simp
  refine sem_exact_call g1 fun H2 g2 _ _ => ?_
  refine sem_call (sort_own L (cmpC_ok L (c := c) (k := k)) hl.1 hk g2) ?_
  rintro _ H3 ⟨rfl, l', g3, hp1, hsrt⟩
  refine sem_turn_ops g3 10 (by simp) fun H4 s4 k4 n4 => sem_run 9000 _ ?_
  simp
  have hl' : Fine l' := ⟨by rw [hp1.length_eq]; exact hl.1, fun r hr => hl.2 r (hp1.mem_iff.1 hr)⟩
  have hl1 := hl'.1
  refine sem_loop (GrpI H4 c ags l') ?_ (k := l'.length) ⟨l', [], .lit .nilslice, rfl, fun _ h => h, by simp, rfl, by simpa [rowsE] using Gr.start, by
    cases h : (runG c ags l'.length l').2 with
    | true => simp [← h]
    | false => rw [runG_false h]; simp⟩
  rintro k' fr H' ⟨rest, done, s, rfl, hsub, hlen, rfl, g, heq⟩
  refine sem_run 9000 _ ?_
  simp
  cases rest with
  | nil =>
    simp
    refine sem_exit (sem_run 9000 _ ?_)
    simp [runG] at heq
    simp
    refine sem_call (clip_own L g) fun d H5 g5 => ?_
    refine sem_run 9000 _ ?_
    simp
    refine sem_ret ?_
    simp [M32]
    obtain ⟨H6, w, sub, _⟩ := g5.fin rows_underss (m := .p) (by simp)
    refine ⟨_, H6, WeakV.tup2 w, ⟨l', hp1, hsrt, ?_⟩, s4.trans sub⟩
    rw [heq]; rfl
  | cons r t =>
    simp
    refine sem_dfn (schm_at L.schm) (by first | exact D.les_refl _ | simp) (sem_run 9000 _ ?_)
    simp
    have hlt : H'.next < H'.next + 1 := by omega
    refine sem_box (b := H'.next) (cs := (atV r c).c) (ro := false) 12 (by simp) (by simp) ?_
    refine sem_loop (CntI H' c ags r t s) ?_ (k := t.length) ⟨1, by omega, by omega, by omega, fun q x h => by omega, by simp, (by repeat (first | exact Sub.refl | apply Sub.new | refine Sub.put ?_ (by first | omega | (simp only [put_next, new_next]; omega))))⟩
    rintro k'' fr H5 ⟨i, rfl, hi1, hi2, hq, ⟨e2, e4, e10, e11, e12, e13⟩, hs5⟩
    refine sem_run 9000 _ ?_
    simp [e10, e13]
    have hlen' : i ≤ l'.length := by simp at hlen; omega
    have hw : wr .i64 ((i : Int) + 1) = ((i + 1 : Nat) : Int) := by rw [wr_of] <;> omega
    by_cases c1 : i < t.length + 1
    · have c1' : (i : Int) < (t.length : Int) + 1 := by omega
      obtain ⟨x, gx⟩ : ∃ x, t[i - 1]? = some x := ⟨t[i - 1]'(by omega), by simp⟩
      have gx' : (r :: t)[i]? = some x := by rw [List.getElem?_cons, if_neg (by omega)]; exact gx
      simp [c1', gx', e4, e10, e13]
      refine sem_dfn (schm_at L.schm) (by first | exact D.les_refl _ | simp) (sem_run 9000 _ ?_)
      simp [e12]
      refine sem_dfn (schm_compare L.schm) (by first | exact D.les_refl _ | simp) (sem_run 9000 _ ?_)
      simp [e2, e4, e10, e11, e12, e13]
      by_cases c2 : cmpV (atV x c) (atV r c) = 0
      · simp [c2, hw]
        refine sem_ok ?_
        refine ⟨t.length + 1 - (i + 1), by omega, i + 1, rfl, by omega, by omega, fun q y h e => ?_, by simp, hs5⟩
        by_cases hqi : q + 1 < i
        · exact hq q y hqi e
        · obtain rfl : q = i - 1 := by omega
          rw [gx] at e; cases e; exact c2
      · have hcnt := cnt_eq hi1 hi2 hq (.inr ⟨x, gx, c2⟩)
        simp [c2]
        refine sem_exit (sem_run 9000 _ ?_)
        simp [slc_take (l := r :: t) (i := i) (by simpa using hi2)]
        have gl : Gr H5 (H5.new (.cells (atV r c).c false)) 4 (.slice H5.next 0 4 1 1 true) (rowE [atV r c]) := Gr.lit Sub.refl (by simp [rowE]) (by simp [rowE]) (by simp [rowE])
        refine sem_dcall (all_row L hx (H0 := H5) (r := [atV r c]) (l := (r :: t).take i) (ags := ags) ⟨by simp only [List.length_take, List.length_cons]; omega, fun y hy => hl'.2 y (hsub y (List.mem_of_mem_take hy))⟩ (ha _ fun y hy => hp1.mem_iff.1 (hsub y (List.mem_of_mem_take hy))) (by simp only [List.length_cons, List.length_nil]; omega) gl) ?_
        rintro _ H6 ⟨rfl, hs6⟩
        refine sem_run 9000 _ ?_
        cases hok : oks ((r :: t).take i) ags with
        | false =>
          rw [runG_stop hcnt hok] at heq
          simp
          refine sem_ret ?_
          simp
          refine sem_ret ?_
          simp [M32]
          refine ⟨_, H6, WeakV.tup2 (WeakV.le (d' := rowsD []) (by simp [rowsD, rowsE, D.le])), ⟨l', hp1, hsrt, ?_⟩, s4.trans (g.sub.trans (hs5.trans hs6))⟩
          rw [heq]; rfl
        | true =>
          rw [runG_step hcnt hok] at heq
          simp
          simp only [List.length_cons] at hlen
          refine sem_push (g.mono (hs5.trans hs6)) rfl rfl (roomyD (by simp; omega) (by simp; omega)) fun s' H7 g7 _ _ => ?_
          simp [slc_drop (l := r :: t) (i := i) (by simpa using hi2)]
          refine sem_ok ?_
          have e : rowsE done ++ [[rowD (atV r c :: vals ((r :: t).take i) ags)]] = rowsE (done ++ [atV r c :: vals ((r :: t).take i) ags]) := by simp [rowsE]
          rw [e] at g7
          refine ⟨((r :: t).drop i).length, by simp only [List.length_drop, List.length_cons]; omega, (r :: t).drop i, done ++ [atV r c :: vals ((r :: t).take i) ags], s', rfl, fun y hy => hsub y (List.mem_of_mem_drop hy), by simp only [List.length_drop, List.length_cons, List.length_append, List.length_nil]; omega, by simp, g7, ?_⟩
          rw [heq]
          cases hz : (runG c ags ((r :: t).drop i).length ((r :: t).drop i)).2 <;> simp
    · have c1' : ¬ (i : Int) < (t.length : Int) + 1 := by omega
      have hcnt := cnt_eq hi1 hi2 hq (.inl (by omega))
      simp [c1', e2, e4, e10, e11, e12, e13]
      refine sem_exit (sem_run 9000 _ ?_)
      simp [slc_take (l := r :: t) (i := i) (by simpa using hi2)]
      have gl : Gr H5 (H5.new (.cells (atV r c).c false)) 4 (.slice H5.next 0 4 1 1 true) (rowE [atV r c]) := Gr.lit Sub.refl (by simp [rowE]) (by simp [rowE]) (by simp [rowE])
      refine sem_dcall (all_row L hx (H0 := H5) (r := [atV r c]) (l := (r :: t).take i) (ags := ags) ⟨by simp only [List.length_take, List.length_cons]; omega, fun y hy => hl'.2 y (hsub y (List.mem_of_mem_take hy))⟩ (ha _ fun y hy => hp1.mem_iff.1 (hsub y (List.mem_of_mem_take hy))) (by simp only [List.length_cons, List.length_nil]; omega) gl) ?_
      rintro _ H6 ⟨rfl, hs6⟩
      refine sem_run 9000 _ ?_
      cases hok : oks ((r :: t).take i) ags with
      | false =>
        rw [runG_stop hcnt hok] at heq
        simp
        refine sem_ret ?_
        simp
        refine sem_ret ?_
        simp [M32]
        refine ⟨_, H6, WeakV.tup2 (WeakV.le (d' := rowsD []) (by simp [rowsD, rowsE, D.le])), ⟨l', hp1, hsrt, ?_⟩, s4.trans (g.sub.trans (hs5.trans hs6))⟩
        rw [heq]; rfl
      | true =>
        rw [runG_step hcnt hok] at heq
        simp
        simp only [List.length_cons] at hlen
        refine sem_push (g.mono (hs5.trans hs6)) rfl rfl (roomyD (by simp; omega) (by simp; omega)) fun s' H7 g7 _ _ => ?_
        simp [slc_drop (l := r :: t) (i := i) (by simpa using hi2)]
        refine sem_ok ?_
        have e : rowsE done ++ [[rowD (atV r c :: vals ((r :: t).take i) ags)]] = rowsE (done ++ [atV r c :: vals ((r :: t).take i) ags]) := by simp [rowsE]
        rw [e] at g7
        refine ⟨((r :: t).drop i).length, by simp only [List.length_drop, List.length_cons]; omega, (r :: t).drop i, done ++ [atV r c :: vals ((r :: t).take i) ags], s', rfl, fun y hy => hsub y (List.mem_of_mem_drop hy), by simp only [List.length_drop, List.length_cons, List.length_append, List.length_nil]; omega, by simp, g7, ?_⟩
        rw [heq]
        cases hz : (runG c ags ((r :: t).drop i).length ((r :: t).drop i)).2 <;> simp
theorem groups_pos (L : HAggr p ext F) (hx : ∀ args h, ext (F 45) args h = extV .add64 args h) {l : List Row} {c k : Int} {ags : List Ag} {H : HpD} (hl : Fine l) (hk : ∀ r, r ∈ l → (atV r c).kind = k) (ha : ∀ l', (∀ r, r ∈ l' → r ∈ l) → ∀ a, a ∈ ags → AgOk l' a) (hb : ags.length < 900) (hc : ¬ c < 0) :
    WcD p ext (F 32) [rowsD l, .lit (.int .i64 c), agsD ags] H fun d H' => GrpR c ags l d ∧ Sub H H' :=
  WcD.weak ((groups_own L hx hl hk ha hb hc).mono fun _ _ ⟨d2, H2, w, h⟩ => ⟨d2, H2, w, h⟩)
end Go.Lib
end

section
set_option maxRecDepth 10000
namespace Go.Lib
open Go.Vm Go.Dv Go.Srt
def cs2 : List Ag := [⟨1, 0⟩, ⟨2, 0⟩]
def Low (l : List Row) : Prop := ∀ r, r ∈ l → 0 ≤ (atV r 0).n ∧ (atV r 0).n ≤ 1000
theorem Low.sum : ∀ {l : List Row}, Low l → 0 ≤ sumT 0 l ∧ sumT 0 l ≤ 1000 * (l.length : Int)
  | [], _ => by simp [sumT]
  | r :: l, h => by
    have ih := Low.sum (l := l) fun r hr => h r (by simp [hr])
    have h0 := h r (by simp)
    have : sumT 0 (r :: l) = term 0 r + sumT 0 l := by simp [sumT]
    rw [this, List.length_cons]
    unfold term
    split <;> omega
theorem Low.in {l : List Row} (h : Low l) (hl : l.length < 1000000) : In64 (sumT 0 l) := by
  have := h.sum
  unfold In64; omega
def grow (x : Vl × Nat × Int) : Row := [x.1, numV x.2.1, numV x.2.2]
structure GOk (c : Int) (l : List Row) (T : List (Vl × Nat × Int)) : Prop where
  ones : ∀ x, x ∈ T → 1 ≤ x.2.1
  pos : ∀ x, x ∈ T → 0 ≤ x.2.2
  cnt : (T.map fun x => x.2.1).sum = l.length
  sum : (T.map fun x => x.2.2).sum = sumT 0 l
  up : ∀ i a b, T[i]? = some a → T[i + 1]? = some b → cmpV a.1 b.1 < 0
  hd : ∀ a, T[0]? = some a → ∃ r, l[0]? = some r ∧ a.1 = atV r c
def cS (T : List (Vl × Nat × Int)) (i : Nat) : Nat := ((T.take i).map fun x => x.2.1).sum
def sS (T : List (Vl × Nat × Int)) (i : Nat) : Int := ((T.take i).map fun x => x.2.2).sum
theorem sum_pos : ∀ {T : List (Vl × Nat × Int)}, (∀ x, x ∈ T → 0 ≤ x.2.2) → 0 ≤ (T.map fun x => x.2.2).sum
  | [], _ => by simp
  | x :: T, h => by
    have := sum_pos (T := T) fun y hy => h y (by simp [hy])
    have := h x (by simp)
    simp only [List.map_cons, List.sum_cons]; omega
theorem GOk.le {c : Int} {l : List Row} {T : List (Vl × Nat × Int)} (ok : GOk c l T) (i : Nat) : cS T i ≤ l.length ∧ 0 ≤ sS T i ∧ sS T i ≤ sumT 0 l := by
  have e : T = T.take i ++ T.drop i := (List.take_append_drop i T).symm
  have h1 := ok.cnt
  have h2 := ok.sum
  rw [e, List.map_append, List.sum_append] at h1 h2
  have h3 := sum_pos (T := T.drop i) fun x hx => ok.pos x (List.mem_of_mem_drop hx)
  have h4 := sum_pos (T := T.take i) fun x hx => ok.pos x (List.mem_of_mem_take hx)
  unfold cS sS
  omega
theorem len_sum : ∀ {T : List (Vl × Nat × Int)}, (∀ x, x ∈ T → 1 ≤ x.2.1) → T.length ≤ (T.map fun x => x.2.1).sum
  | [], _ => by simp
  | x :: T, h => by
    have := len_sum (T := T) fun y hy => h y (by simp [hy])
    have := h x (by simp)
    simp only [List.map_cons, List.sum_cons, List.length_cons]; omega
theorem GOk.len {c : Int} {l : List Row} {T : List (Vl × Nat × Int)} (ok : GOk c l T) : T.length ≤ l.length := ok.cnt ▸ len_sum ok.ones
theorem GOk.all {c : Int} {l : List Row} {T : List (Vl × Nat × Int)} (ok : GOk c l T) : cS T T.length = l.length ∧ sS T T.length = sumT 0 l := by
  unfold cS sS
  rw [List.take_length]
  exact ⟨ok.cnt, ok.sum⟩
end Go.Lib
end

section
set_option maxRecDepth 10000
namespace Go.Lib
open Go.Vm Go.Dv Go.Srt
structure Vl.Good (v : Vl) : Prop where
  nul : v.null = true → v.n = 0 ∧ v.bytes = []
  kd : (v.kind = 1 ∧ v.bytes = []) ∨ (v.kind = 2 ∧ v.n = 0)
  int : In64 v.n
theorem cmpV_zero {a b : Vl} (ha : a.Good) (hb : b.Good) (hk : a.kind = b.kind) (h : cmpV a b = 0) : a = b := by
  rw [cmpV_null] at h
  rw [vl_ext]
  cases ha0 : a.null <;> cases hb0 : b.null <;> simp [ha0, hb0] at h ⊢
  · rcases ha.kd with ⟨k1, b1⟩ | ⟨k1, n1⟩ <;> rcases hb.kd with ⟨k2, b2⟩ | ⟨k2, n2⟩
    · simp [k1, cmpI_eq] at h
      exact ⟨hk, h, by rw [b1, b2]⟩
    · omega
    · omega
    · simp [k1, cmpB_eq] at h
      exact ⟨hk, by rw [n1, n2], h⟩
  · obtain ⟨h1, h2⟩ := ha.nul ha0
    obtain ⟨h3, h4⟩ := hb.nul hb0
    exact ⟨hk, by rw [h1, h3], by rw [h2, h4]⟩
theorem cmpV_self {a : Vl} : cmpV a a = 0 := by
  have := (cmpV_ord (k := a.kind)).sym a a rfl rfl; omega
structure GoodR (ks : List Int) (r : Row) : Prop where
  kin : Kin ks r
  good : ∀ v, v ∈ r → v.Good
theorem cmpRow_zero : ∀ {ks : List Int} {a b : Row}, GoodR ks a → GoodR ks b → cmpRow cmpV a b = 0 → a = b
  | [], a, b, ha, hb, _ => by
    have h1 := ha.kin; have h2 := hb.kin
    simp only [Kin, List.map_eq_nil_iff] at h1 h2
    rw [h1, h2]
  | k :: ks, a, b, ha, hb, h => by
    have h1 := ha.kin; have h2 := hb.kin
    cases a with
    | nil => simp [Kin] at h1
    | cons x a => cases b with
      | nil => simp [Kin] at h2
      | cons y b =>
        simp only [Kin, List.map_cons, List.cons.injEq] at h1 h2
        simp only [cmpRow] at h
        by_cases e : cmpV x y = 0
        · simp [e] at h
          rw [cmpV_zero (ha.good x (by simp)) (hb.good y (by simp)) (by rw [h1.1, h2.1]) e, cmpRow_zero (ks := ks) ⟨h1.2, fun v hv => ha.good v (by simp [hv])⟩ ⟨h2.2, fun v hv => hb.good v (by simp [hv])⟩ h]
        · simp [e] at h
section
variable {α : Type} {G : α → Prop} {cmp : α → α → Int}
def Rise (cmp : α → α → Int) (l : List α) : Prop := l.Pairwise fun x y => cmp x y ≤ 0
theorem Ord3.self (o : Ord3 G cmp) {x : α} (hx : G x) : cmp x x = 0 := by
  have := o.sym x x hx hx; omega
theorem Srt.rise (o : Ord3 G cmp) {l : List α} (hG : ∀ x, x ∈ l → G x) (h : Srt cmp l 0 l.length) : Rise cmp l := by
  rw [Rise, List.pairwise_iff_getElem]
  intro i j hi hj hij
  have := h i j l[i] l[j] (by omega) hij hj (by simp) (by simp)
  have := o.sym l[i] l[j] (hG _ (by simp)) (hG _ (by simp))
  omega
theorem rise_uniq (o : Ord3 G cmp) (hz : ∀ x y, G x → G y → cmp x y = 0 → x = y) {l l' : List α} (hp : l.Perm l') (hG : ∀ x, x ∈ l → G x) (h1 : Rise cmp l) (h2 : Rise cmp l') : l = l' := by
  refine List.Perm.eq_of_pairwise (le := fun x y => cmp x y ≤ 0) (fun a b ha hb h3 h4 => ?_) h1 h2 hp
  have hb' := hG b (hp.mem_iff.2 hb)
  have := o.sym a b (hG a ha) hb'
  exact hz a b (hG a ha) hb' (by omega)
def insL (cmp : α → α → Int) (x : α) : List α → List α
  | [] => [x]
  | y :: l => if cmp y x ≤ 0 then y :: insL cmp x l else x :: y :: l
def sortL (cmp : α → α → Int) (l : List α) : List α := l.foldr (insL cmp) []
theorem insL_perm {x : α} : ∀ {l : List α}, (insL cmp x l).Perm (x :: l)
  | [] => .refl _
  | y :: l => by
    unfold insL
    split
    · exact (insL_perm.cons y).trans (.swap ..)
    · exact .refl _
theorem sortL_perm : ∀ {l : List α}, (sortL cmp l).Perm l
  | [] => .refl _
  | x :: _l => insL_perm.trans (sortL_perm.cons x)
theorem insL_rise (o : Ord3 G cmp) {x : α} (hx : G x) : ∀ {l : List α}, (∀ y, y ∈ l → G y) → Rise cmp l → Rise cmp (insL cmp x l)
  | [], _, _ => by simp [insL, Rise]
  | y :: l, hG, h => by
    have hy := hG y (by simp)
    have h' := List.pairwise_cons.1 h
    unfold insL
    split
    · rename_i e
      refine List.pairwise_cons.2 ⟨fun z hz => ?_, insL_rise o hx (fun z hz => hG z (by simp [hz])) h'.2⟩
      rcases List.mem_cons.1 (insL_perm.mem_iff.1 hz) with rfl | hz
      · exact e
      · exact h'.1 z hz
    · rename_i e
      have := o.sym y x hy hx
      refine List.pairwise_cons.2 ⟨fun z hz => ?_, h⟩
      rcases List.mem_cons.1 hz with rfl | hz
      · omega
      · exact o.tr x y z hx hy (hG z (by simp [hz])) (by omega) (h'.1 z hz)
theorem sortL_rise (o : Ord3 G cmp) : ∀ {l : List α}, (∀ y, y ∈ l → G y) → Rise cmp (sortL cmp l)
  | [], _ => by simp [sortL, Rise]
  | x :: l, h => insL_rise o (h x (by simp)) (fun y hy => h y (by simp [sortL_perm.mem_iff.1 hy])) (sortL_rise o fun y hy => h y (by simp [hy]))
theorem rise_sort (o : Ord3 G cmp) (hz : ∀ x y, G x → G y → cmp x y = 0 → x = y) {l l' : List α} (hG : ∀ x, x ∈ l → G x) (hp : l'.Perm l) (h : Rise cmp l') : l' = sortL cmp l :=
  rise_uniq o hz (hp.trans sortL_perm.symm) (fun x hx => hG x (hp.mem_iff.1 hx)) h (sortL_rise o hG)
theorem srt_sort (o : Ord3 G cmp) (hz : ∀ x y, G x → G y → cmp x y = 0 → x = y) {l l' : List α} (hG : ∀ x, x ∈ l → G x) (hp : l'.Perm l) (h : Srt cmp l' 0 l.length) : l' = sortL cmp l :=
  rise_sort o hz hG hp (Srt.rise o (fun x hx => hG x (hp.mem_iff.1 hx)) (by rw [hp.length_eq]; exact h))
theorem tw_filter {p : α → Bool} : ∀ {t : List α}, t.Pairwise (fun x y => p y = true → p x = true) → t.takeWhile p = t.filter p ∧ t.dropWhile p = t.filter (fun x => !p x)
  | [], _ => by simp
  | x :: t, h => by
    have h' := List.pairwise_cons.1 h
    have ih := tw_filter h'.2
    cases hp : p x with
    | true => simp [hp, ih.1, ih.2]
    | false =>
      have hn : ∀ y, y ∈ t → p y = false := fun y hy => by
        cases hy2 : p y with
        | false => rfl
        | true => have := h'.1 y hy hy2; rw [hp] at this; cases this
      have h1 : t.filter p = [] := List.filter_eq_nil_iff.2 fun y hy => by simp [hn y hy]
      have h2 : t.filter (fun x => !p x) = t := List.filter_eq_self.2 fun y hy => by simp [hn y hy]
      simp [hp, h1, h2]
theorem take_tw {p : α → Bool} {t : List α} : t.take (t.takeWhile p).length = t.takeWhile p := by
  rw [← List.prefix_iff_eq_take.1 (List.takeWhile_prefix p)]
theorem drop_tw {p : α → Bool} : ∀ {t : List α}, t.drop (t.takeWhile p).length = t.dropWhile p
  | [] => rfl
  | x :: t => by
    have ih := drop_tw (p := p) (t := t)
    cases h : p x <;> simp [h, ih]
end
def IsEnd (sg : Int) (L : List Vl) (o : Vl) : Prop :=
  (L = [] ∧ o = nullV) ∨ (o ∈ L ∧ ∀ v, v ∈ L → v.null = true) ∨ (o ∈ L ∧ o.null = false ∧ ∀ v, v ∈ L → v.null = false → cmpV v o * sg ≤ 0)
theorem null_eq {v w : Vl} (hv : v.Good) (hw : w.Good) (hk : v.kind = w.kind) (h1 : v.null = true) (h2 : w.null = true) : v = w := by
  obtain ⟨a, b⟩ := hv.nul h1
  obtain ⟨c, d⟩ := hw.nul h2
  exact vl_ext.2 ⟨by rw [h1, h2], hk, by rw [a, c], by rw [b, d]⟩
theorem null_set {v : Vl} (hv : v.Good) (h : v.null = true) : setKind nullV v.kind = v := by
  obtain ⟨a, b⟩ := hv.nul h
  exact vl_ext.2 ⟨by simp [setKind, nullV, h], rfl, by simp [setKind, nullV, a], by simp [setKind, nullV, b]⟩
theorem set_self {o : Vl} {k : Int} (h : o.kind = k) : setKind o k = o := by subst h; rfl
def GoodL (k : Int) (L : List Vl) : Prop := ∀ v, v ∈ L → v.kind = k ∧ v.Good
theorem IsEnd.step {sg k : Int} (hsg : sg = 1 ∨ sg = -1) {L : List Vl} {o v : Vl} (hL : GoodL k (L ++ [v])) (h : IsEnd sg L o) : IsEnd sg (L ++ [v]) (endS sg o v) := by
  obtain ⟨hvk, hv⟩ := hL v (by simp)
  have hm : ∀ x, x ∈ L → x.kind = k ∧ x.Good := fun x hx => hL x (by simp [hx])
  unfold endS
  by_cases hn : v.null = true
  · rw [if_pos hn]
    rcases h with ⟨rfl, rfl⟩ | ⟨ho, ha⟩ | ⟨ho, hon, ha⟩
    · rw [null_set hv hn]
      exact .inr (.inl ⟨by simp, fun w hw => by simp at hw; rw [hw, hn]⟩)
    · rw [set_self (by rw [(hm o ho).1, hvk])]
      exact .inr (.inl ⟨by simp [ho], fun w hw => by
        rcases List.mem_append.1 hw with hw | hw
        · exact ha w hw
        · simp at hw; rw [hw, hn]⟩)
    · rw [set_self (by rw [(hm o ho).1, hvk])]
      exact .inr (.inr ⟨by simp [ho], hon, fun w hw hwn => by
        rcases List.mem_append.1 hw with hw | hw
        · exact ha w hw hwn
        · simp at hw; rw [hw, hn] at hwn; cases hwn⟩)
  · rw [if_neg hn]
    have hn' : v.null = false := by simpa using hn
    rcases h with ⟨rfl, rfl⟩ | ⟨ho, ha⟩ | ⟨ho, hon, ha⟩
    · rw [if_pos (.inl rfl)]
      exact .inr (.inr ⟨by simp, hn', fun w hw _ => by simp at hw; rw [hw, cmpV_self]; omega⟩)
    · rw [if_pos (.inl (ha o ho))]
      refine .inr (.inr ⟨by simp, hn', fun w hw hwn => ?_⟩)
      rcases List.mem_append.1 hw with hw | hw
      · rw [ha w hw] at hwn; cases hwn
      · simp at hw; rw [hw, cmpV_self]; omega
    · have oo := cmpV_ord (k := k)
      have s1 := oo.sym v o hvk (hm o ho).1
      split
      · rename_i e
        have e : 0 < cmpV v o * sg := by
          rcases e with e | e
          · rw [hon] at e; cases e
          · exact e
        refine .inr (.inr ⟨by simp, hn', fun w hw hwn => ?_⟩)
        rcases List.mem_append.1 hw with hw | hw
        · have h1 := ha w hw hwn
          have hwk := (hm w hw).1
          have s2 := oo.sym w o hwk (hm o ho).1
          have s3 := oo.sym w v hwk hvk
          have t1 := oo.tr w o v hwk (hm o ho).1 hvk
          have t2 := oo.tr v o w hvk (hm o ho).1 hwk
          rcases hsg with rfl | rfl <;> omega
        · simp at hw; rw [hw, cmpV_self]; omega
      · rename_i e
        have e : ¬ 0 < cmpV v o * sg := fun h => e (.inr h)
        refine .inr (.inr ⟨by simp [ho], hon, fun w hw hwn => ?_⟩)
        rcases List.mem_append.1 hw with hw | hw
        · exact ha w hw hwn
        · simp at hw; subst hw; omega
theorem IsEnd.fold {sg k : Int} (hsg : sg = 1 ∨ sg = -1) : ∀ {M L : List Vl} {o : Vl}, GoodL k (L ++ M) → IsEnd sg L o → IsEnd sg (L ++ M) (M.foldl (endS sg) o)
  | [], L, o, _, h => by simpa using h
  | v :: M, L, o, hL, h => by
    have := IsEnd.fold hsg (M := M) (L := L ++ [v]) (o := endS sg o v) (by simpa using hL) (h.step hsg fun x hx => hL x (by simp at hx ⊢; rcases hx with hx | hx <;> simp [hx]))
    simpa using this
theorem IsEnd.uniq {sg k : Int} (hsg : sg = 1 ∨ sg = -1) {L : List Vl} {o o' : Vl} (hL : GoodL k L) (h : IsEnd sg L o) (h' : IsEnd sg L o') : o = o' := by
  rcases h with ⟨rfl, rfl⟩ | ⟨ho, ha⟩ | ⟨ho, hon, ha⟩ <;> rcases h' with ⟨e, rfl⟩ | ⟨ho', ha'⟩ | ⟨ho', hon', ha'⟩
  · rfl
  · simp at ho'
  · simp at ho'
  · subst e; simp at ho
  · exact null_eq (hL o ho).2 (hL o' ho').2 (by rw [(hL o ho).1, (hL o' ho').1]) (ha o ho) (ha' o' ho')
  · rw [ha o' ho'] at hon'; cases hon'
  · subst e; simp at ho
  · rw [ha' o ho] at hon; cases hon
  · have h1 := ha o' ho' hon'
    have h2 := ha' o ho hon
    have s := (cmpV_ord (k := k)).sym o o' (hL o ho).1 (hL o' ho').1
    exact cmpV_zero (hL o ho).2 (hL o' ho').2 (by rw [(hL o ho).1, (hL o' ho').1]) (by rcases hsg with rfl | rfl <;> omega)
theorem IsEnd.perm {sg : Int} {L L' : List Vl} {o : Vl} (hp : L.Perm L') (h : IsEnd sg L o) : IsEnd sg L' o := by
  rcases h with ⟨rfl, rfl⟩ | ⟨ho, ha⟩ | ⟨ho, hon, ha⟩
  · exact .inl ⟨hp.nil_eq.symm, rfl⟩
  · exact .inr (.inl ⟨hp.mem_iff.1 ho, fun v hv => ha v (hp.mem_iff.2 hv)⟩)
  · exact .inr (.inr ⟨hp.mem_iff.1 ho, hon, fun v hv => ha v (hp.mem_iff.2 hv)⟩)
def GoodRs (ks : List Int) (l : List Row) : Prop := ∀ r, r ∈ l → GoodR ks r
def InK (ks : List Int) (c : Int) : Prop := 0 ≤ c ∧ c < ks.length
theorem GoodRs.perm {ks : List Int} {l l' : List Row} (hp : l.Perm l') (h : GoodRs ks l) : GoodRs ks l' := fun r hr => h r (hp.mem_iff.2 hr)
theorem atV_mem {r : Row} {c : Int} (h0 : 0 ≤ c) (h : c < r.length) : atV r c ∈ r ∧ r[c.toNat]? = some (atV r c) := by
  have hl : c.toNat < r.length := by omega
  rw [atV, if_neg (by omega)]
  simp [hl]
theorem GoodR.at_ {ks : List Int} {r : Row} {c : Int} (h : GoodR ks r) (hc : InK ks c) : (atV r c).kind = (ks[c.toNat]?).getD 0 ∧ (atV r c).Good := by
  have hk := h.kin
  unfold Kin at hk
  have hl : r.length = ks.length := by rw [← hk]; simp
  obtain ⟨h1, h2⟩ := atV_mem (r := r) hc.1 (by have := hc.2; omega)
  refine ⟨?_, h.good _ h1⟩
  rw [← hk, List.getElem?_map, h2]; rfl
theorem GoodRs.col {ks : List Int} {l : List Row} {c : Int} (h : GoodRs ks l) (hc : InK ks c) : GoodL ((ks[c.toNat]?).getD 0) (l.map fun r => atV r c) := by
  intro v hv
  obtain ⟨r, hr, rfl⟩ := List.mem_map.1 hv
  exact (h r hr).at_ hc
theorem endF_is {sg c : Int} (hsg : sg = 1 ∨ sg = -1) {ks : List Int} {l : List Row} (h : GoodRs ks l) (hc : InK ks c) : IsEnd sg (l.map fun r => atV r c) (endF c sg l) := by
  have := IsEnd.fold (sg := sg) (k := (ks[c.toNat]?).getD 0) hsg (M := l.map fun r => atV r c) (L := []) (o := nullV) (by simpa using h.col hc) (.inl ⟨rfl, rfl⟩)
  simpa [endF] using this
theorem endF_perm {sg c : Int} (hsg : sg = 1 ∨ sg = -1) {ks : List Int} {l l' : List Row} (hp : l.Perm l') (h : GoodRs ks l) (hc : InK ks c) : endF c sg l = endF c sg l' :=
  IsEnd.uniq hsg ((h.perm hp).col hc) ((endF_is hsg h hc).perm (hp.map _)) (endF_is hsg (h.perm hp) hc)
theorem sumT_permC {c : Int} {a b : List Row} (h : a.Perm b) : sumT c a = sumT c b := by
  unfold sumT
  induction h with
  | nil => rfl
  | cons x _ ih => simp [ih]
  | swap x y l => simp; omega
  | trans _ _ h1 h2 => exact h1.trans h2
theorem oneF_perm {ks : List Int} {l l' : List Row} {a : Ag} (hp : l.Perm l') (h : GoodRs ks l) (hc : InK ks a.col) : oneF l a = oneF l' a := by
  unfold oneF sumV
  rw [hp.length_eq, sumT_permC hp, endF_perm (.inl rfl) hp h hc, endF_perm (.inr rfl) hp h hc]
theorem oks_perm {ks : List Int} {l l' : List Row} {ags : List Ag} (hp : l.Perm l') (h : GoodRs ks l) (hc : ∀ a, a ∈ ags → InK ks a.col) : oks l ags = oks l' ags := by
  unfold oks
  rw [Bool.eq_iff_iff, List.all_eq_true, List.all_eq_true]
  constructor <;> intro k a ha
  · rw [← oneF_perm hp h (hc a ha)]; exact k a ha
  · rw [oneF_perm hp h (hc a ha)]; exact k a ha
theorem vals_perm {ks : List Int} {l l' : List Row} {ags : List Ag} (hp : l.Perm l') (h : GoodRs ks l) (hc : ∀ a, a ∈ ags → InK ks a.col) : vals l ags = vals l' ags := by
  unfold vals
  exact List.map_congr_left fun a ha => by rw [oneF_perm hp h (hc a ha)]
theorem cmpC_ord {c : Int} {ks : List Int} (hc : InK ks c) : Ord3 (GoodR ks) (cmpC c) :=
  ⟨fun _ _ hx hy => (cmpV_ord (k := (ks[c.toNat]?).getD 0)).sym _ _ (hx.at_ hc).1 (hy.at_ hc).1, fun _ _ _ hx hy hz => (cmpV_ord (k := (ks[c.toNat]?).getD 0)).tr _ _ _ (hx.at_ hc).1 (hy.at_ hc).1 (hz.at_ hc).1⟩
theorem cmpC_zero {c : Int} {ks : List Int} (hc : InK ks c) {a b : Row} (ha : GoodR ks a) (hb : GoodR ks b) (h : cmpC c a b = 0) : atV a c = atV b c :=
  cmpV_zero (ha.at_ hc).2 (hb.at_ hc).2 (by rw [(ha.at_ hc).1, (hb.at_ hc).1]) h
theorem first_group {c : Int} {ks : List Int} (hc : InK ks c) {r : Row} {t : List Row} (hg : GoodRs ks (r :: t)) (h : Rise (cmpC c) (r :: t)) :
    (r :: t).take (cnt c r t) = (r :: t).filter (fun x => decide (cmpC c x r = 0)) ∧ (r :: t).drop (cnt c r t) = (r :: t).filter (fun x => !decide (cmpC c x r = 0)) := by
  have o := cmpC_ord hc
  have h' := List.pairwise_cons.1 h
  have hr := hg r (by simp)
  have hpw : t.Pairwise (fun x y => decide (cmpC c y r = 0) = true → decide (cmpC c x r = 0) = true) := by
    refine List.Pairwise.imp_of_mem ?_ h'.2
    intro x y hx hy hxy e
    have hx' := hg x (by simp [hx])
    have hy' := hg y (by simp [hy])
    have e : cmpC c y r = 0 := by simpa using e
    have h1 := h'.1 x hx
    have h2 := o.tr x y r hx' hy' hr hxy (by omega)
    have := o.sym x r hx' hr
    simp; omega
  obtain ⟨h1, h2⟩ := tw_filter hpw
  have hs : cmpC c r r = 0 := o.self hr
  have e : cnt c r t = (t.takeWhile fun x => decide (cmpC c x r = 0)).length + 1 := Nat.add_comm ..
  rw [e, List.take_succ_cons, List.drop_succ_cons, take_tw, drop_tw, h1, h2]
  simp [hs]
theorem runG_perm {c : Int} {ks : List Int} {ags : List Ag} (hc : InK ks c) (ha : ∀ a, a ∈ ags → InK ks a.col) : ∀ (w : Nat) (l1 l2 : List Row), l1.length ≤ w → l1.Perm l2 → GoodRs ks l1 → Rise (cmpC c) l1 → Rise (cmpC c) l2 → runG c ags w l1 = runG c ags w l2
  | w, [], l2, _, hp, _, _, _ => by rw [hp.nil_eq]
  | 0, _ :: _, _, h, _, _, _, _ => by simp at h
  | w + 1, r1 :: t1, [], _, hp, _, _, _ => by have := hp.length_eq; simp at this
  | w + 1, r1 :: t1, r2 :: t2, hw, hp, hg, h1, h2 => by
    have o := cmpC_ord hc
    have hg2 := hg.perm hp
    have k1 := hg r1 (by simp)
    have k2 := hg2 r2 (by simp)
    have le1 : cmpC c r1 r2 ≤ 0 := by
      have : r2 ∈ r1 :: t1 := hp.mem_iff.2 (by simp)
      rcases List.mem_cons.1 this with e | e
      · rw [e, o.self k1]; omega
      · exact (List.pairwise_cons.1 h1).1 r2 e
    have le2 : cmpC c r2 r1 ≤ 0 := by
      have : r1 ∈ r2 :: t2 := hp.mem_iff.1 (by simp)
      rcases List.mem_cons.1 this with e | e
      · rw [e, o.self k2]; omega
      · exact (List.pairwise_cons.1 h2).1 r1 e
    have s := o.sym r1 r2 k1 k2
    have e0 := cmpC_zero hc k1 k2 (by omega)
    obtain ⟨a1, b1⟩ := first_group hc hg h1
    obtain ⟨a2, b2⟩ := first_group hc hg2 h2
    have ef : ∀ x, cmpC c x r1 = cmpC c x r2 := fun x => by unfold cmpC; rw [e0]
    simp only [ef] at a1 b1
    have pt : ((r1 :: t1).take (cnt c r1 t1)).Perm ((r2 :: t2).take (cnt c r2 t2)) := by rw [a1, a2]; exact hp.filter _
    have pd : ((r1 :: t1).drop (cnt c r1 t1)).Perm ((r2 :: t2).drop (cnt c r2 t2)) := by rw [b1, b2]; exact hp.filter _
    have hgt : GoodRs ks ((r1 :: t1).take (cnt c r1 t1)) := fun x hx => hg x (List.mem_of_mem_take hx)
    have hc1 : 1 ≤ cnt c r1 t1 := by unfold cnt; omega
    have ih := runG_perm hc ha w _ _ (by simp only [List.length_drop, List.length_cons]; simp at hw; omega) pd (fun x hx => hg x (List.mem_of_mem_drop hx)) (h1.drop) (h2.drop)
    unfold runG
    rw [oks_perm pt hgt ha, vals_perm pt hgt ha, ih, e0]
def grpF (c : Int) (ags : List Ag) (l : List Row) : List Row × Bool := runG c ags l.length (sortL (cmpC c) l)
theorem grp_rise {c : Int} {ks : List Int} {ags : List Ag} (hc : InK ks c) (ha : ∀ a, a ∈ ags → InK ks a.col) {l l' : List Row} (hg : GoodRs ks l) (hp : l'.Perm l) (h : Rise (cmpC c) l') : runG c ags l'.length l' = grpF c ags l := by
  unfold grpF
  rw [← hp.length_eq]
  exact runG_perm hc ha _ _ _ (Nat.le_refl _) (hp.trans sortL_perm.symm) (hg.perm hp.symm) h (sortL_rise (cmpC_ord hc) hg)
theorem grp_srt {c : Int} {ks : List Int} {ags : List Ag} (hc : InK ks c) (ha : ∀ a, a ∈ ags → InK ks a.col) {l l' : List Row} (hg : GoodRs ks l) (hp : l'.Perm l) (h : Srt (cmpC c) l' 0 l.length) : runG c ags l'.length l' = grpF c ags l :=
  grp_rise hc ha hg hp (Srt.rise (cmpC_ord hc) (hg.perm hp.symm) (by rw [hp.length_eq]; exact h))
def grpsF (c : Int) (ags : List Ag) (l : List Row) : List Row × Bool := if c < 0 then (if oks l ags then [vals l ags] else [], oks l ags) else grpF c ags l
end Go.Lib
end

section
namespace Go.Lib
open Go.Vm Go.Dv
set_option maxRecDepth 100000
abbrev K22 (F : Nat → Nat) : KC := .seq (.region [⟨some 2,.a (.box (.tmp 0)),none⟩,⟨some 4,.p (.mov (.val (.nilslice))),none⟩] [2] [1,2])
 (.seq (.region [⟨some 5,.p (.mov (.val (.nilslice))),none⟩] [] [1,2,5])
 (.seq (.seq (.region [⟨some 6,.p (.mov (.val (.int .i64 (.ofNat 0)))),none⟩] [] [1,2,5,6])
 (.block 0 (.loop (.seq (.seq (.region [⟨some 8,.p (.mov (.tmp 6)),none⟩,⟨some 9,.p (.mov (.tmp 1)),none⟩,⟨some 10,.p (.lenb (.tmp 9)),none⟩,⟨some 11,.p (.bin .lss (.tmp 8) (.tmp 10)),none⟩,⟨some 12,.p (.mov (.tmp 11)),none⟩,⟨some 13,.p (.mov (.tmp 6)),(some (12,true))⟩,⟨some 14,.p (.bin .lss (.tmp 13) (.val (.int .i64 (.ofNat 40)))),(some (12,true))⟩,⟨some 15,.p (.pick (.tmp 12) (.tmp 14) (.val (.bool false))),none⟩] [] [1,2,5,6,15])
 (.cond (.tmp 15) (.skip)
 (.exit 0)))
 (.seq (.block 1 (.seq (.dregion [⟨⟨some 18,.loadn 1 (.tmp 2),none⟩,0,5⟩,⟨⟨some 19,.p (.mov (.tmp 1)),none⟩,0,5⟩,⟨⟨some 20,.p (.mov (.tmp 6)),none⟩,0,5⟩,⟨⟨some 21,.p (.iaddr 1 (.tmp 19) (.tmp 20)),none⟩,0,5⟩,⟨⟨some 22,.load1 (.tmp 21),none⟩,0,5⟩,⟨⟨some 23,.e (.call (F 24) [(.tmp 18),(.tmp 22)]),none⟩,0,7⟩,⟨⟨some 7,.p (.mov (.tmp 23)),none⟩,6,7⟩] [1,2,5,6,7])
 (.seq (.region [⟨some 24,.p (.mov (.tmp 7)),none⟩,⟨some 25,.p (.mov (.tmp 6)),none⟩,⟨some 26,.p (.bin .mul (.tmp 25) (.val (.int .i64 (.ofNat 3)))),none⟩,⟨some 27,.p (.mov (.tmp 1)),none⟩,⟨some 28,.p (.mov (.tmp 6)),none⟩,⟨some 29,.p (.iaddr 1 (.tmp 27) (.tmp 28)),none⟩,⟨some 30,.load1 (.tmp 29),none⟩,⟨some 31,.p (.bin .and (.tmp 30) (.val (.int .i64 (.ofNat 1)))),none⟩,⟨some 32,.p (.bin .add (.tmp 26) (.tmp 31)),none⟩,⟨some 33,.p (.iaddr 4 (.tmp 24) (.val (.int .i64 (.ofNat 0)))),none⟩,⟨some 34,.p (.faddr 2 (.tmp 33)),none⟩,⟨none,.e (.store 1 (.tmp 34) (.tmp 32)),none⟩] [] [1,2,5,6,7])
 (.region [⟨some 35,.p (.mov (.tmp 5)),none⟩,⟨some 36,.p (.mov (.tmp 7)),none⟩,⟨some 37,.a (.bslice [.nilslice] 1 1 [(0,1,(.tmp 36))]),none⟩,⟨some 38,.e (.append 1 24 (.tmp 35) (.tmp 37)),none⟩,⟨some 5,.p (.mov (.tmp 38)),none⟩] [37] [1,2,5,6]))))
 (.region [⟨some 16,.p (.mov (.tmp 6)),none⟩,⟨some 17,.p (.bin .add (.tmp 16) (.val (.int .i64 (.ofNat 1)))),none⟩,⟨some 6,.p (.mov (.tmp 17)),none⟩] [] [1,2,5,6]))))))
 (.seq (.region [⟨some 39,.p (.mov (.tmp 5)),none⟩,⟨some 4,.p (.mov (.tmp 39)),none⟩] [] [4])
 (.ret))))
def M22 (F : Nat → Nat) : Fun := ⟨40,2,(K22 F).erase,[.tmp 4]⟩
theorem ok22 {F : Nat → Nat} : (K22 F).ok = true := rfl
abbrev K23 (_F : Nat → Nat) : KC := .seq (.region [⟨some 2,.a (.new [.nilslice]),none⟩] [] [0,2])
 (.seq (.region [⟨some 6,.p (.build [.str [],.int .i64 (.ofNat 0),.bool false] [(0,1,(.val (.str [107,101,121]))),(1,1,(.val (.int .i64 (.ofNat 1))))]),none⟩,⟨some 7,.a (.bslice [.str [],.int .i64 (.ofNat 0),.bool false] 3 1 [(0,3,(.tmp 6))]),none⟩,⟨some 8,.p (.build [.nilslice] [(0,1,(.tmp 7))]),none⟩,⟨some 3,.a (.new [.nilslice]),none⟩,⟨none,.e (.store 1 (.tmp 3) (.tmp 8)),none⟩] [] [0,2,3])
 (.seq (.region [⟨some 9,.a (.bslice [.str [],.str [],.str [],.str [],.str []] 1 5 [(0,1,(.val (.str [97]))),(1,1,(.val (.str [98,98]))),(2,1,(.val (.str [99,99,99]))),(3,1,(.val (.str [110,117,108,108]))),(4,1,(.val (.str [97,110,100])))]),none⟩,⟨some 4,.p (.mov (.tmp 9)),none⟩] [9] [0,2,3,4])
 (.seq (.seq (.region [⟨some 5,.p (.mov (.val (.int .i64 (.ofNat 0)))),none⟩] [] [0,2,3,4,5])
 (.block 0 (.loop (.seq (.seq (.region [⟨some 10,.p (.mov (.tmp 5)),none⟩,⟨some 11,.p (.mov (.tmp 0)),none⟩,⟨some 12,.p (.bin .and (.tmp 11) (.val (.int .i64 (.ofNat 255)))),none⟩,⟨some 13,.p (.bin .rem (.tmp 12) (.val (.int .i64 (.ofNat 6)))),none⟩,⟨some 14,.p (.bin .lss (.tmp 10) (.tmp 13)),none⟩,⟨some 15,.p (.mov (.tmp 14)),none⟩,⟨some 16,.p (.mov (.tmp 5)),(some (15,true))⟩,⟨some 17,.p (.bin .lss (.tmp 16) (.val (.int .i64 (.ofNat 5)))),(some (15,true))⟩,⟨some 18,.p (.pick (.tmp 15) (.tmp 17) (.val (.bool false))),none⟩] [] [0,2,3,4,5,18])
 (.cond (.tmp 18) (.skip)
 (.exit 0)))
 (.seq (.block 1 (.dregion [⟨⟨some 21,.p (.faddr 0 (.tmp 3)),none⟩,0,24⟩,⟨⟨some 22,.load1 (.tmp 21),none⟩,0,24⟩,⟨⟨some 23,.p (.mov (.tmp 4)),none⟩,0,24⟩,⟨⟨some 24,.p (.mov (.tmp 5)),none⟩,0,24⟩,⟨⟨some 25,.p (.iaddr 1 (.tmp 23) (.tmp 24)),none⟩,0,24⟩,⟨⟨some 26,.load1 (.tmp 25),none⟩,0,24⟩,⟨⟨some 27,.p (.mov (.tmp 0)),none⟩,0,24⟩,⟨⟨some 28,.p (.mov (.tmp 5)),none⟩,0,24⟩,⟨⟨some 29,.p (.bin .mul (.val (.int .i64 (.ofNat 2))) (.tmp 28)),none⟩,0,24⟩,⟨⟨some 30,.p (.bin .add (.val (.int .i64 (.ofNat 8))) (.tmp 29)),none⟩,0,24⟩,⟨⟨some 31,.p (.conv (.int .u64) (.tmp 30)),none⟩,0,24⟩,⟨⟨some 32,.p (.bin .shr (.tmp 27) (.tmp 31)),none⟩,0,24⟩,⟨⟨some 33,.p (.bin .and (.tmp 32) (.val (.int .i64 (.ofNat 1)))),none⟩,0,24⟩,⟨⟨some 34,.p (.bin .add (.tmp 33) (.val (.int .i64 (.ofNat 1)))),none⟩,0,24⟩,⟨⟨some 35,.p (.mov (.tmp 0)),none⟩,0,24⟩,⟨⟨some 36,.p (.mov (.tmp 5)),none⟩,0,24⟩,⟨⟨some 37,.p (.bin .mul (.val (.int .i64 (.ofNat 2))) (.tmp 36)),none⟩,0,24⟩,⟨⟨some 38,.p (.bin .add (.val (.int .i64 (.ofNat 9))) (.tmp 37)),none⟩,0,24⟩,⟨⟨some 39,.p (.conv (.int .u64) (.tmp 38)),none⟩,0,24⟩,⟨⟨some 40,.p (.bin .shr (.tmp 35) (.tmp 39)),none⟩,0,24⟩,⟨⟨some 41,.p (.bin .and (.tmp 40) (.val (.int .i64 (.ofNat 1)))),none⟩,0,24⟩,⟨⟨some 42,.p (.bin .eql (.tmp 41) (.val (.int .i64 (.ofNat 1)))),none⟩,0,24⟩,⟨⟨some 43,.p (.build [.str [],.int .i64 (.ofNat 0),.bool false] [(0,1,(.tmp 26)),(1,1,(.tmp 34)),(2,1,(.tmp 42))]),none⟩,0,24⟩,⟨⟨some 44,.a (.bslice [.str [],.int .i64 (.ofNat 0),.bool false] 3 1 [(0,3,(.tmp 43))]),none⟩,0,24⟩,⟨⟨some 45,.e (.append 3 32 (.tmp 22) (.tmp 44)),none⟩,0,26⟩,⟨⟨some 46,.p (.faddr 0 (.tmp 3)),none⟩,25,26⟩,⟨⟨none,.e (.store 1 (.tmp 46) (.tmp 45)),none⟩,25,27⟩] [0,2,3,4,5]))
 (.region [⟨some 19,.p (.mov (.tmp 5)),none⟩,⟨some 20,.p (.bin .add (.tmp 19) (.val (.int .i64 (.ofNat 1)))),none⟩,⟨some 5,.p (.mov (.tmp 20)),none⟩] [] [0,2,3,4,5]))))))
 (.seq (.region [⟨some 47,.loadn 1 (.tmp 3),none⟩,⟨none,.e (.store 1 (.tmp 2) (.tmp 47)),none⟩] [] [2])
 (.ret)))))
def M23 (F : Nat → Nat) : Fun := ⟨48,1,(K23 F).erase,[.celln 1 2]⟩
theorem ok23 {F : Nat → Nat} : (K23 F).ok = true := rfl
abbrev K24 (F : Nat → Nat) : KC := .seq (.region [⟨some 2,.a (.box (.tmp 0)),none⟩,⟨some 4,.p (.mov (.val (.nilslice))),none⟩] [2] [1,2])
 (.seq (.region [⟨some 5,.p (.mov (.val (.nilslice))),none⟩] [] [1,2,5])
 (.seq (.seq (.region [⟨some 8,.p (.faddr 0 (.tmp 2)),none⟩,⟨some 9,.load1 (.tmp 8),none⟩,⟨some 10,.p (.lenb (.tmp 9)),none⟩,⟨some 11,.p (.mov (.val (.int .i64 (.ofNat 0)))),none⟩] [] [1,5,9,10,11])
 (.block 0 (.loop (.seq (.region [⟨some 12,.p (.bin .lss (.tmp 11) (.tmp 10)),none⟩] [] [1,5,9,10,11,12])
 (.seq (.cond (.tmp 12) (.skip)
 (.exit 0))
 (.seq (.block 1 (.seq (.region [⟨some 13,.p (.mov (.tmp 11)),none⟩,⟨some 14,.p (.iaddr 3 (.tmp 9) (.tmp 11)),none⟩,⟨some 15,.loadn 3 (.tmp 14),none⟩,⟨some 7,.a (.new [.str [],.int .i64 (.ofNat 0),.bool false]),none⟩,⟨some 6,.p (.mov (.tmp 13)),none⟩,⟨none,.e (.store 3 (.tmp 7) (.tmp 15)),none⟩] [] [1,5,6,7,9,10,11])
 (.seq (.seq (.region [⟨some 16,.p (.mov (.tmp 6)),none⟩,⟨some 17,.p (.bin .eql (.tmp 16) (.val (.int .i64 (.ofNat 0)))),none⟩] [] [1,5,6,7,9,10,11,17])
 (.cond (.tmp 17) (.seq (.region [⟨some 18,.p (.mov (.tmp 5)),none⟩,⟨some 19,.p (.mov (.tmp 1)),none⟩,⟨some 20,.p (.bin .and (.tmp 19) (.val (.int .i64 (.ofNat 15)))),none⟩,⟨some 21,.p (.build [.bool false,.int .i64 (.ofNat 0),.int .i64 (.ofNat 0),.nilslice] [(1,1,(.val (.int .i64 (.ofNat 1)))),(2,1,(.tmp 20))]),none⟩,⟨some 22,.a (.bslice [.bool false,.int .i64 (.ofNat 0),.int .i64 (.ofNat 0),.nilslice] 4 1 [(0,4,(.tmp 21))]),none⟩,⟨some 23,.e (.append 4 48 (.tmp 18) (.tmp 22)),none⟩,⟨some 5,.p (.mov (.tmp 23)),none⟩] [22] [1,5,9,10,11])
 (.exit 1))
 (.skip)))
 (.region [⟨some 24,.p (.mov (.tmp 5)),none⟩,⟨some 25,.loadn 3 (.tmp 7),none⟩,⟨some 26,.p (.mov (.tmp 1)),none⟩,⟨some 27,.p (.mov (.tmp 6)),none⟩,⟨some 28,.p (.bin .mul (.val (.int .i64 (.ofNat 3))) (.tmp 27)),none⟩,⟨some 29,.p (.conv (.int .u64) (.tmp 28)),none⟩,⟨some 30,.p (.bin .shr (.tmp 26) (.tmp 29)),none⟩,⟨some 31,.p (.mov (.tmp 1)),none⟩,⟨some 32,.p (.bin .shr (.tmp 31) (.val (.int .u64 (.ofNat 17)))),none⟩,⟨some 33,.p (.bin .xor (.tmp 30) (.tmp 32)),none⟩,⟨some 34,.e (.call (F 25) [(.tmp 25),(.tmp 33)]),none⟩,⟨some 35,.a (.bslice [.bool false,.int .i64 (.ofNat 0),.int .i64 (.ofNat 0),.nilslice] 4 1 [(0,4,(.tmp 34))]),none⟩,⟨some 36,.e (.append 4 48 (.tmp 24) (.tmp 35)),none⟩,⟨some 5,.p (.mov (.tmp 36)),none⟩] [35] [1,5,9,10,11]))))
 (.region [⟨some 37,.p (.bin .add (.tmp 11) (.val (.int .i64 (.ofNat 1)))),none⟩,⟨some 11,.p (.mov (.tmp 37)),none⟩] [] [1,5,9,10,11])))))))
 (.seq (.region [⟨some 38,.p (.mov (.tmp 5)),none⟩,⟨some 4,.p (.mov (.tmp 38)),none⟩] [] [4])
 (.ret))))
def M24 (F : Nat → Nat) : Fun := ⟨39,2,(K24 F).erase,[.tmp 4]⟩
theorem ok24 {F : Nat → Nat} : (K24 F).ok = true := rfl
abbrev K25 (_F : Nat → Nat) : KC := .seq (.region [⟨some 2,.a (.box (.tmp 0)),none⟩,⟨some 4,.a (.new [.bool false,.int .i64 (.ofNat 0),.int .i64 (.ofNat 0),.nilslice]),none⟩] [2] [1,2,4])
 (.seq (.seq (.region [⟨some 6,.p (.faddr 2 (.tmp 2)),none⟩,⟨some 7,.load1 (.tmp 6),none⟩,⟨some 8,.p (.mov (.tmp 7)),none⟩,⟨some 9,.p (.mov (.tmp 1)),(some (8,true))⟩,⟨some 10,.p (.bin .and (.tmp 9) (.val (.int .i64 (.ofNat 7)))),(some (8,true))⟩,⟨some 11,.p (.bin .eql (.tmp 10) (.val (.int .i64 (.ofNat 0)))),(some (8,true))⟩,⟨some 12,.p (.pick (.tmp 8) (.tmp 11) (.val (.bool false))),none⟩] [] [1,2,4,12])
 (.cond (.tmp 12) (.seq (.region [⟨some 13,.p (.faddr 1 (.tmp 2)),none⟩,⟨some 14,.load1 (.tmp 13),none⟩,⟨some 15,.p (.build [.bool false,.int .i64 (.ofNat 0),.int .i64 (.ofNat 0),.nilslice] [(1,1,(.tmp 14)),(0,1,(.val (.bool true)))]),none⟩,⟨none,.e (.store 4 (.tmp 4) (.tmp 15)),none⟩] [] [4])
 (.ret))
 (.skip)))
 (.seq (.region [⟨some 16,.p (.faddr 1 (.tmp 2)),none⟩,⟨some 17,.load1 (.tmp 16),none⟩,⟨some 18,.p (.build [.bool false,.int .i64 (.ofNat 0),.int .i64 (.ofNat 0),.nilslice] [(1,1,(.tmp 17))]),none⟩,⟨some 5,.a (.new [.bool false,.int .i64 (.ofNat 0),.int .i64 (.ofNat 0),.nilslice]),none⟩,⟨none,.e (.store 4 (.tmp 5) (.tmp 18)),none⟩] [] [1,2,4,5])
 (.seq (.seq (.region [⟨some 19,.p (.faddr 1 (.tmp 2)),none⟩,⟨some 20,.load1 (.tmp 19),none⟩,⟨some 21,.p (.bin .eql (.tmp 20) (.val (.int .i64 (.ofNat 1)))),none⟩] [] [1,4,5,21])
 (.cond (.tmp 21) (.seq (.region [⟨some 22,.p (.mov (.tmp 1)),none⟩,⟨some 23,.p (.bin .shr (.tmp 22) (.val (.int .u64 (.ofNat 3)))),none⟩,⟨some 24,.p (.bin .and (.tmp 23) (.val (.int .i64 (.ofNat 7)))),none⟩,⟨some 25,.p (.faddr 2 (.tmp 5)),none⟩,⟨none,.e (.store 1 (.tmp 25) (.tmp 24)),none⟩] [] [1,4,5])
 (.seq (.seq (.region [⟨some 26,.p (.mov (.tmp 1)),none⟩,⟨some 27,.p (.bin .shr (.tmp 26) (.val (.int .u64 (.ofNat 6)))),none⟩,⟨some 28,.p (.bin .and (.tmp 27) (.val (.int .i64 (.ofNat 15)))),none⟩] [] [1,4,5,28])
 (.block 0 (.seq (.region [⟨some 30,.p (.bin .eql (.tmp 28) (.val (.int .i64 (.ofNat 0)))),none⟩,⟨some 29,.p (.mov (.tmp 30)),none⟩] [] [1,4,5,28,29])
 (.cond (.tmp 29) (.region [⟨some 31,.p (.mov (.tmp 1)),none⟩,⟨some 32,.p (.bin .mul (.tmp 31) (.val (.int .i64 (.ofNat 712544676207699905)))),none⟩,⟨some 33,.p (.faddr 2 (.tmp 5)),none⟩,⟨none,.e (.store 1 (.tmp 33) (.tmp 32)),none⟩] [] [4,5])
 (.seq (.region [⟨some 35,.p (.bin .eql (.tmp 28) (.val (.int .i64 (.ofNat 1)))),none⟩,⟨some 34,.p (.mov (.tmp 35)),none⟩] [] [4,5,28,34])
 (.cond (.tmp 34) (.region [⟨some 36,.p (.faddr 2 (.tmp 5)),none⟩,⟨some 37,.load1 (.tmp 36),none⟩,⟨some 38,.p (.neg (.tmp 37)),none⟩,⟨some 39,.p (.faddr 2 (.tmp 5)),none⟩,⟨none,.e (.store 1 (.tmp 39) (.tmp 38)),none⟩] [] [4,5])
 (.seq (.region [⟨some 41,.p (.bin .eql (.tmp 28) (.val (.int .i64 (.ofNat 2)))),none⟩,⟨some 40,.p (.mov (.tmp 41)),none⟩] [] [4,5,40])
 (.cond (.tmp 40) (.region [⟨some 42,.p (.faddr 2 (.tmp 5)),none⟩,⟨some 43,.load1 (.tmp 42),none⟩,⟨some 44,.p (.bin .sub (.val (.int .i64 (.ofNat 9223372036854775807))) (.tmp 43)),none⟩,⟨some 45,.p (.faddr 2 (.tmp 5)),none⟩,⟨none,.e (.store 1 (.tmp 45) (.tmp 44)),none⟩] [] [4,5])
 (.skip)))))))))
 (.seq (.region [⟨some 46,.loadn 4 (.tmp 5),none⟩,⟨none,.e (.store 4 (.tmp 4) (.tmp 46)),none⟩] [] [4])
 (.ret))))
 (.skip)))
 (.seq (.region [⟨some 47,.a (.bslice [.int .u8 (.ofNat 0),.int .u8 (.ofNat 0),.int .u8 (.ofNat 0),.int .u8 (.ofNat 0),.int .u8 (.ofNat 0),.int .u8 (.ofNat 0),.int .u8 (.ofNat 0),.int .u8 (.ofNat 0)] 1 8 [(0,1,(.val (.int .u8 (.ofNat 97)))),(1,1,(.val (.int .u8 (.ofNat 98)))),(2,1,(.val (.int .u8 (.ofNat 99)))),(3,1,(.val (.int .u8 (.ofNat 97)))),(4,1,(.val (.int .u8 (.ofNat 98)))),(5,1,(.val (.int .u8 (.ofNat 99)))),(6,1,(.val (.int .u8 (.ofNat 97)))),(7,1,(.val (.int .u8 (.ofNat 98))))]),none⟩,⟨some 48,.e (.mark (.tmp 47)),none⟩,⟨some 49,.p (.mov (.tmp 1)),none⟩,⟨some 50,.p (.bin .shr (.tmp 49) (.val (.int .u64 (.ofNat 3)))),none⟩,⟨some 51,.p (.bin .and (.tmp 50) (.val (.int .i64 (.ofNat 3)))),none⟩,⟨some 52,.p (.mov (.tmp 1)),none⟩,⟨some 53,.p (.bin .shr (.tmp 52) (.val (.int .u64 (.ofNat 3)))),none⟩,⟨some 54,.p (.bin .and (.tmp 53) (.val (.int .i64 (.ofNat 3)))),none⟩,⟨some 55,.p (.mov (.tmp 1)),none⟩,⟨some 56,.p (.bin .shr (.tmp 55) (.val (.int .u64 (.ofNat 5)))),none⟩,⟨some 57,.p (.bin .and (.tmp 56) (.val (.int .i64 (.ofNat 3)))),none⟩,⟨some 58,.p (.bin .add (.tmp 54) (.tmp 57)),none⟩,⟨some 59,.p (.slc 1 (.tmp 48) (some (.tmp 51)) (some (.tmp 58)) none),none⟩,⟨some 60,.p (.faddr 3 (.tmp 5)),none⟩,⟨none,.e (.store 1 (.tmp 60) (.tmp 59)),none⟩] [] [4,5])
 (.seq (.region [⟨some 61,.loadn 4 (.tmp 5),none⟩,⟨none,.e (.store 4 (.tmp 4) (.tmp 61)),none⟩] [] [4])
 (.ret))))))
def M25 (F : Nat → Nat) : Fun := ⟨62,2,(K25 F).erase,[.celln 4 4]⟩
theorem ok25 {F : Nat → Nat} : (K25 F).ok = true := rfl
end Go.Lib
end

section
set_option maxRecDepth 10000
namespace Go.Lib
open Go.Vm Go.Dv
variable {p : Prog} {ext : Ext} {F : Nat → Nat}
structure HLaw6 (p : Prog) (ext : Ext) (F : Nat → Nat) : Prop where
  h22 : Has p ext F 22 M22
  h23 : Has p ext F 23 M23
  h24 : Has p ext F 24 M24
  h25 : Has p ext F 25 M25
structure Cl where
  name : List Nat
  kind : Int
  null : Bool
def Cl.c (c : Cl) : List D := [.lit (.str c.name), .lit (.int .i64 c.kind), .lit (.bool c.null)]
abbrev Sch := List Cl
def schE (s : Sch) : List (List D) := s.map Cl.c
def schR (s : Sch) : D := .row 3 .p (schE s)
def schD (s : Sch) : D := .agg [schR s]
theorem cl_unders {n : Nat} {c : Cl} : D.unders n c.c := by simp [Cl.c]
theorem sch_underss {n : Nat} {s : Sch} : D.underss n (schE s) := underss_map (fun _ => cl_unders) _
theorem schR_under {n : Nat} {s : Sch} : (schR s).under n := sch_underss
theorem schD_under {n : Nat} {s : Sch} : (schD s).under n := by simp [schD, schR_under]
theorem sch_len {s : Sch} : (schE s).length = s.length := by simp [schE]
theorem lenb_sch {s : Sch} : lenbD (schR s) = some (.lit (.int .i64 (s.length : Int))) := by simp [schR, sch_len]
theorem at_sch {s : Sch} {n : Nat} : atO 3 (schR s) (some n) = elemD (s[n]?.map Cl.c) := by simp [schR, schE]
theorem cl_0 {v : Cl} : v.c[0]? = some (.lit (.str v.name)) := rfl
theorem cl_1 {v : Cl} : v.c[1]? = some (.lit (.int .i64 v.kind)) := rfl
theorem cl_2 {v : Cl} : v.c[2]? = some (.lit (.bool v.null)) := rfl
theorem cl_len {v : Cl} : v.c.length = 3 := rfl
theorem cl_take {v : Cl} : v.c.take 3 = v.c := rfl
theorem cl_drop {v : Cl} : v.c.drop 3 = [] := rfl
theorem cl_flats {v : Cl} : flatsD v.c = true := rfl
theorem cellsD_schR {s : Sch} : cellsD (schR s) = some [schR s] := rfl
theorem flatD_schR {s : Sch} : flatD (schR s) = true := rfl
theorem cellsD_schD {s : Sch} : cellsD (schD s) = some [schR s] := rfl
attribute [simp] cl_unders sch_underss schR_under schD_under sch_len lenb_sch at_sch cl_0 cl_1 cl_2 cl_len cl_take cl_drop cl_flats cellsD_schR flatD_schR cellsD_schD
def andI (a m : Int) : Int := wr .i64 (.ofNat (Nat.land (toU .i64 a) (toU .i64 m)))
theorem bin_andI {tab : Tab} {a b : Int} : binV tab .and (.int .i64 a) (.int .i64 b) = some (.int .i64 (andI a b)) := bin_and
def xorI (a b : Int) : Int := wr .i64 (.ofNat (Nat.xor (toU .i64 a) (toU .i64 b)))
theorem bin_xorI {tab : Tab} {a b : Int} : binV tab .xor (.int .i64 a) (.int .i64 b) = some (.int .i64 (xorI a b)) := bin_xor
theorem andI_small {a : Int} {m : Nat} (hm : m < 65536) : ∃ q : Nat, andI a (m : Int) = q ∧ q ≤ m := and_range hm
attribute [-simp] bin_and bin_xor
attribute [simp] bin_andI bin_xorI
def abc : List By := [97, 98, 99, 97, 98, 99, 97, 98]
def valF (c : Cl) (n : Int) : Vl :=
  if c.null = true ∧ andI n 7 = 0 then ⟨true, c.kind, 0, [], by simp⟩ else
  if c.kind = 1 then
    ⟨false, c.kind, if andI (shrI .i64 n 6) 15 = 0 then wr .i64 (n * 712544676207699905) else if andI (shrI .i64 n 6) 15 = 1 then wr .i64 (-andI (shrI .i64 n 3) 7) else if andI (shrI .i64 n 6) 15 = 2 then wr .i64 (9223372036854775807 - andI (shrI .i64 n 3) 7) else andI (shrI .i64 n 3) 7, [], by simp⟩
  else ⟨false, c.kind, 0, (abc.drop (andI (shrI .i64 n 3) 3).toNat).take (andI (shrI .i64 n 5) 3).toNat, by
    have : ((abc.drop (andI (shrI .i64 n 3) 3).toNat).take (andI (shrI .i64 n 5) 3).toNat).length ≤ 8 := by
      rw [List.length_take, List.length_drop]; simp [abc]; omega
    omega⟩
theorem by_flat_map (b : List By) : (byE b).flatten = b.map fun c => D.lit (.int .u8 (c.val : Int)) := by
  induction b with
  | nil => rfl
  | cons c b ih => simp only [byE, List.map_cons, List.flatten_cons, List.singleton_append] at ih ⊢; rw [ih]
theorem law6_value (L : HLaw6 p ext F) {c : Cl} {n : Int} : FnD p ext (F 25) [.agg c.c, .lit (.int .i64 n)] (.agg (valF c n).c) := by
  refine fn_of L.h25 (M := M25) rfl ok25 rfl fun H => sem_run 9000 _ ?_
  simp
  by_cases h1 : c.null = true ∧ andI n 7 = 0
  · simp [h1.1, h1.2]
    refine sem_ret ?_
    simp [M25]
    exact .le (by repeat (first | exact Sub.refl | apply Sub.new | refine Sub.put ?_ (by first | omega | (simp only [put_next, new_next]; omega)))) (by simp [valF, h1.1, h1.2, Vl.c, D.le, byD, byE]) (by simp)
  · have h2 : c.null = false ∨ (c.null = true ∧ ¬ andI n 7 = 0) := by
      cases h3 : c.null
      · exact .inl rfl
      · exact .inr ⟨rfl, fun h4 => h1 ⟨h3, h4⟩⟩
    by_cases h5 : c.kind = 1
    · by_cases k0 : andI (shrI .i64 n 6) 15 = 0
      · rcases h2 with h2 | h2
        all_goals
          simp [h2, h5, k0]
          refine sem_ret ?_
          simp [M25]
          exact .le (by repeat (first | exact Sub.refl | apply Sub.new | refine Sub.put ?_ (by first | omega | (simp only [put_next, new_next]; omega)))) (by simp [valF, h2, h5, k0, Vl.c, D.le, byD, byE]) (by simp)
      · by_cases k1 : andI (shrI .i64 n 6) 15 = 1
        · rcases h2 with h2 | h2
          all_goals
            simp [h2, h5, k1]
            refine sem_ret ?_
            simp [M25]
            exact .le (by repeat (first | exact Sub.refl | apply Sub.new | refine Sub.put ?_ (by first | omega | (simp only [put_next, new_next]; omega)))) (by simp [valF, h2, h5, k1, Vl.c, D.le, byD, byE]) (by simp)
        · by_cases k2 : andI (shrI .i64 n 6) 15 = 2
          · rcases h2 with h2 | h2
            all_goals
              simp [h2, h5, k2]
              refine sem_ret ?_
              simp [M25]
              exact .le (by repeat (first | exact Sub.refl | apply Sub.new | refine Sub.put ?_ (by first | omega | (simp only [put_next, new_next]; omega)))) (by simp [valF, h2, h5, k2, Vl.c, D.le, byD, byE]) (by simp)
          · rcases h2 with h2 | h2
            all_goals
              simp [h2, h5, k0, k1, k2]
              refine sem_ret ?_
              simp [M25]
              exact .le (by repeat (first | exact Sub.refl | apply Sub.new | refine Sub.put ?_ (by first | omega | (simp only [put_next, new_next]; omega)))) (by simp [valF, h2, h5, k0, k1, k2, Vl.c, D.le, byD, byE]) (by simp)
    · obtain ⟨i, hi, hi3⟩ := andI_small (a := shrI .i64 n 3) (m := 3) (by simp)
      obtain ⟨j, hj, hj3⟩ := andI_small (a := shrI .i64 n 5) (m := 3) (by simp)
      have hi' : andI (shrI .i64 n 3) 3 = i := hi
      have hj' : andI (shrI .i64 n 5) 3 = j := hj
      have hw : wr .i64 ((i : Int) + (j : Int)) = (i : Int) + (j : Int) := by rw [wr_of] <;> omega
      have ht : ((i : Int) + (j : Int)).toNat = i + j := by omega
      have hn : (0 : Int) ≤ (i : Int) + (j : Int) := by omega
      have hl : i + j ≤ 8 := by omega
      rcases h2 with h2 | h2
      all_goals
        simp [h2, h5, hi', hj', markD, slcD, slcV, needH, boundM, boundH, boundL, sliceO, hw, ht, hn, hl]
        refine sem_ret ?_
        simp [M25]
        refine ⟨_, (WeakV.part (pre := [.lit (.bool false), .lit (.int .i64 c.kind), .lit (.int .i64 0)]) (el := byE ((abc.drop i).take j)) (sz := 1) (cs := (byE abc).flatten) (ro := false) (by simp [put_blk, new_blk, abc, byE]; decide) by_one (by simp [abc]; omega) ?_ (by omega)).trans (.le ?_), (by repeat (first | exact Sub.refl | apply Sub.new | refine Sub.put ?_ (by first | omega | (simp only [put_next, new_next]; omega)))), by simp⟩
        · rw [by_flat_map, by_flat_map, Nat.mul_one, List.map_take, List.map_drop]
        · simp [valF, h2, h5, hi', hj', Vl.c, byD, D.le]
theorem wr_u64 {n : Int} (h0 : 0 ≤ n) (h1 : n < 18446744073709551616) : wr .u64 n = n := by
  obtain ⟨m, rfl⟩ : ∃ m : Nat, n = m := ⟨n.toNat, by omega⟩
  show cond (Nat.blt m 18446744073709551616) _ _ = _
  rw [show Nat.blt m 18446744073709551616 = true from nblt.2 (by omega)]
  rfl
def cellF (n : Int) (i : Nat) (c : Cl) : Vl := if i = 0 then ⟨false, 1, andI n 15, [], by simp⟩ else valF c (xorI (shrI .i64 n (3 * i)) (shrI .i64 n 17))
def rowF (s : Sch) (n : Int) : Row := s.mapIdx (cellF n)
theorem rowF_len {s : Sch} {n : Int} : (rowF s n).length = s.length := by simp [rowF]
theorem rowF_get {s : Sch} {n : Int} {i : Nat} : (rowF s n)[i]? = s[i]?.map (cellF n i) := by simp [rowF]
def Row6I (H0 : HpD) (s : Sch) (n : Int) (k : Nat) (fr : FrD) (H : HpD) : Prop :=
  ∃ (i : Nat) (t : D), k = s.length - i ∧ i ≤ s.length ∧ fr = [(1, .lit (.int .i64 n)), (5, t), (9, schR s), (10, .lit (.int .i64 (s.length : Int))), (11, .lit (.int .i64 (i : Int)))] ∧ Gr H0 H 4 t (rowE ((rowF s n).take i))
theorem law6_row_own (L : HLaw6 p ext F) {s : Sch} {n : Int} {H : HpD} (hs : s.length < 1000) : WcD p ext (F 24) [schD s, .lit (.int .i64 n)] H (fun d H' => Gr H H' 4 d (rowE (rowF s n))) := by
  refine wc_of L.h24 (M := M24) rfl ok24 rfl (sem_run 9000 _ ?_)
  simp [schD]
  refine sem_loop (Row6I H s n) ?_ (k := s.length) ⟨0, .lit .nilslice, by simp, by simp, rfl, by simpa [rowE] using Gr.start⟩
  rintro k fr H' ⟨i, t, rfl, hi, rfl, g⟩
  refine sem_run 9000 _ ?_
  simp
  by_cases c : i < s.length
  · have hx : (rowF s n)[i]? = some (cellF n i s[i]) := by rw [rowF_get]; simp [c]
    have hw : wr .i64 ((i : Int) + 1) = ((i + 1 : Nat) : Int) := by rw [wr_of] <;> omega
    have h1 : wr .i64 (3 * (i : Int)) = 3 * (i : Int) := by rw [wr_of] <;> omega
    have h2 : wr .u64 (3 * (i : Int)) = 3 * (i : Int) := wr_u64 (by omega) (by omega)
    have h3 : (0 : Int) ≤ 3 * (i : Int) := by omega
    have h4 : (3 * (i : Int)).toNat = 3 * i := by omega
    have hl : (rowE ((rowF s n).take i)).length ≤ i := by simp; omega
    by_cases c0 : i = 0
    · subst c0
      simp [c]
      refine sem_push_le (cellF n 0 s[0]).c (g.mono (by repeat (first | exact Sub.refl | apply Sub.new | refine Sub.put ?_ (by first | omega | (simp only [put_next, new_next]; omega))))) (by simp [cellF, Vl.c, byD, byE, D.le]) rfl rfl (roomyD (by omega) (by omega)) fun s' H1 g1 _ _ => ?_
      simp
      refine sem_ok ?_
      rw [rowE_snoc hx] at g1
      exact ⟨_, by omega, 1, s', rfl, by omega, by simp [wr_of], g1⟩
    · simp [c, c0, h1, h2, h3, h4]
      refine sem_fn (law6_value L) (by first | exact D.les_refl _ | simp) (sem_run 9000 _ ?_)
      simp
      refine sem_push_le (cellF n i s[i]).c (g.mono (by repeat (first | exact Sub.refl | apply Sub.new | refine Sub.put ?_ (by first | omega | (simp only [put_next, new_next]; omega))))) (by simp [cellF, c0]) rfl rfl (roomyD (by omega) (by omega)) fun s' H1 g1 _ _ => ?_
      simp
      refine sem_ok ?_
      rw [rowE_snoc hx] at g1
      exact ⟨_, by omega, i + 1, s', rfl, by omega, by rw [hw], g1⟩
  · simp [c]
    refine sem_exit (sem_run 9000 _ ?_)
    have : i = s.length := by omega
    subst this
    have hf : (rowF s n).take s.length = rowF s n := by rw [List.take_of_length_le]; rw [rowF_len]; exact Nat.le_refl _
    rw [hf] at g
    simp
    refine sem_ret ?_
    simp [M24]
    exact g
theorem law6_row (L : HLaw6 p ext F) {s : Sch} {n : Int} (hs : s.length < 1000) : FnD p ext (F 24) [schD s, .lit (.int .i64 n)] (rowD (rowF s n)) :=
  own_fn (fun _ => law6_row_own L hs) fun _ => row_underss
def row9F (s : Sch) (i : Nat) (x : Int) : Row := match rowF s x with
  | [] => []
  | v :: r => ⟨v.null, v.kind, 3 * (i : Int) + andI x 1, v.bytes, v.small⟩ :: r
def rows9F (s : Sch) (l : List Int) : List Row := (l.take 40).mapIdx (row9F s)
theorem rows9F_len {s : Sch} {l : List Int} : (rows9F s l).length ≤ 40 := by simp [rows9F]; omega
theorem rows9F_get {s : Sch} {l : List Int} {i : Nat} : (rows9F s l)[i]? = (l.take 40)[i]?.map (row9F s i) := by simp [rows9F]
def intsD (m : Md) (l : List Int) : D := .row 1 m (l.map fun n => [.lit (.int .i64 n)])
theorem lenb_ints {m : Md} {l : List Int} : lenbD (intsD m l) = some (.lit (.int .i64 (l.length : Int))) := by simp [intsD]
theorem at_ints {m : Md} {l : List Int} {n : Nat} : atO 1 (intsD m l) (some n) = elemD (l[n]?.map fun x => [.lit (.int .i64 x)]) := by simp [intsD]
theorem ints_under {m : Md} {l : List Int} {n : Nat} : (intsD m l).under n := by simp only [intsD, D.under]; exact underss_map (fun _ => by simp) _
theorem cellsD_ints {m : Md} {l : List Int} : cellsD (intsD m l) = some [intsD m l] := rfl
attribute [simp] lenb_ints at_ints ints_under cellsD_ints
def Rows9I (H0 : HpD) (s : Sch) (m : Md) (l : List Int) (k : Nat) (fr : FrD) (H : HpD) : Prop :=
  ∃ (i : Nat) (t : D), k = 41 - i ∧ i ≤ 40 ∧ i ≤ l.length ∧ fr = [(1, intsD m l), (2, .rptr [schR s] 0), (5, t), (6, .lit (.int .i64 (i : Int)))] ∧ Gr H0 H 1 t (rowsE ((rows9F s l).take i))
theorem rows9_own (L : HLaw6 p ext F) {s : Sch} {m : Md} {l : List Int} {H : HpD} (hs : s.length < 1000) (hs0 : 0 < s.length) : WcD p ext (F 22) [schD s, intsD m l] H (fun d H' => Gr H H' 1 d (rowsE (rows9F s l))) := by
  refine wc_of L.h22 (M := M22) rfl ok22 rfl (sem_run 9000 _ ?_)
  simp [schD]
  refine sem_loop (Rows9I H s m l) ?_ (k := 41) ⟨0, .lit .nilslice, by simp, by simp, by simp, rfl, by simpa [rowsE] using Gr.start⟩
  rintro k fr H' ⟨i, t, rfl, hi, hi2, rfl, g⟩
  refine sem_run 9000 _ ?_
  simp
  by_cases c : i < l.length
  · by_cases c2 : i < 40
    · have c2' : (i : Int) < 40 := by omega
      simp [c, c2']
      refine sem_dcall ((law6_row_own L (s := s) (n := l[i]) hs).args (by simp [schD])) fun d H1 g1 => sem_run 17 _ ?_
      have hv : ∃ v r, rowF s l[i] = v :: r := by
        cases h : rowF s l[i] with
        | nil => have := rowF_len (s := s) (n := l[i]); rw [h] at this; simp at this; omega
        | cons v r => exact ⟨v, r, rfl⟩
      obtain ⟨v, r, hv⟩ := hv
      rw [hv] at g1
      obtain ⟨b, ex, el0, rfl, hb1, hb2, hb3, hb4, hb5⟩ := g1.place (by simp)
      have hl3 : 2 + 1 ≤ el0.flatten.length := by rw [hb5]; simp; omega
      simp [c, hb3, hl3, -List.length_flatten]
      obtain ⟨q, hq, hq1⟩ := andI_small (a := l[i]) (m := 1) (by simp)
      have hq' : andI l[i] 1 = q := hq
      have hwx : wr .i64 (wr .i64 ((i : Int) * 3) + andI l[i] 1) = 3 * (i : Int) + andI l[i] 1 := by
        rw [hq', show wr .i64 ((i : Int) * 3) = (i : Int) * 3 from by rw [wr_of] <;> omega, wr_of] <;> omega
      rw [hwx]
      have g2 := g1.set rfl hb1 hb2 hb4 (i := 0) (j := 2) (o := 2) (e := v.c) (x := .lit (.int .i64 (3 * (i : Int) + andI l[i] 1))) (by simp [rowE]) (by omega) (by omega)
      have hrow : (rowE (v :: r)).set 0 (v.c.set 2 (.lit (.int .i64 (3 * (i : Int) + andI l[i] 1)))) = rowE (row9F s i l[i]) := by
        simp [row9F, hv, rowE, Vl.c]
      rw [hrow] at g2
      refine sem_turn_ops g2 7 (by simp) fun H3 s3 k3 n3 => sem_run 9000 _ ?_
      simp
      have hx : (rows9F s l)[i]? = some (row9F s i l[i]) := by rw [rows9F_get, List.getElem?_take, if_pos c2]; simp [c]
      refine sem_push_le [rowD (row9F s i l[i])] (g.mono s3) (by simp [rowD]) rfl rfl (roomyD (by simp; omega) (by simp; omega)) fun s' H4 g4 _ _ => ?_
      simp
      refine sem_ok ?_
      rw [rowsE_snoc hx] at g4
      have hw : wr .i64 ((i : Int) + 1) = ((i + 1 : Nat) : Int) := by rw [wr_of] <;> omega
      exact ⟨_, by omega, i + 1, s', rfl, by omega, by omega, by simp [hw], g4⟩
    · have : i = 40 := by omega
      subst this
      simp [c]
      refine sem_exit (sem_run 9000 _ ?_)
      simp
      refine sem_ret ?_
      simp [M22]
      have : (rows9F s l).take 40 = rows9F s l := List.take_of_length_le rows9F_len
      rw [this] at g
      exact g
  · simp [c]
    refine sem_exit (sem_run 9000 _ ?_)
    simp
    refine sem_ret ?_
    simp [M22]
    have : (rows9F s l).take i = rows9F s l := List.take_of_length_le (by simp [rows9F]; omega)
    rw [this] at g
    exact g
theorem rows9 (L : HLaw6 p ext F) {s : Sch} {m : Md} {l : List Int} (hs : s.length < 1000) (hs0 : 0 < s.length) : FnD p ext (F 22) [schD s, intsD m l] (rowsD (rows9F s l)) :=
  own_fn (fun _ => rows9_own L hs hs0) fun _ => rows_underss
def bitI (n : Int) (k : Nat) : Int := andI (shrI .i64 n k) 1
theorem bitI_01 {n : Int} {k : Nat} : bitI n k = 0 ∨ bitI n k = 1 := by
  obtain ⟨q, hq, h1⟩ := andI_small (a := shrI .i64 n k) (m := 1) (by simp)
  have : bitI n k = q := hq
  omega
def colNames : List (List Nat) := [[97], [98, 98], [99, 99, 99], [110, 117, 108, 108], [97, 110, 100]]
def colF (n : Int) (i : Nat) : Cl := ⟨(colNames[i]?).getD [], bitI n (8 + 2 * i) + 1, decide (bitI n (9 + 2 * i) = 1)⟩
def keyC : Cl := ⟨[107, 101, 121], 1, false⟩
def moreF (n : Int) : Nat := (Int.tmod (andI n 255) 6).toNat
def schF (n : Int) : Sch := keyC :: (List.range (moreF n)).map (colF n)
theorem more_le {n : Int} : moreF n ≤ 5 ∧ Int.tmod (andI n 255) 6 = (moreF n : Int) := by
  obtain ⟨q, hq, h1⟩ := andI_small (a := n) (m := 255) (by simp)
  have hq' : andI n 255 = q := hq
  unfold moreF
  rw [hq']
  have : Int.tmod (q : Int) 6 = ((q % 6 : Nat) : Int) := by
    rw [Int.tmod_eq_emod_of_nonneg (by omega)]; omega
  rw [this]
  omega
theorem schF_len {n : Int} : (schF n).length = moreF n + 1 := by simp [schF]
theorem schF_small {n : Int} : (schF n).length < 1000 ∧ 0 < (schF n).length := by
  have := (more_le (n := n)).1
  rw [schF_len]; omega
def SchI (H0 : HpD) (n : Int) (k : Nat) (fr : FrD) (H : HpD) : Prop :=
  ∃ (i : Nat) (t : D), k = 6 - i ∧ i ≤ moreF n ∧ fr = [(0, .lit (.int .i64 n)), (2, .ptr H0.next 0), (3, .ptr (H0.next + 1 + 1) 0), (4, .row 1 .c (colNames.map fun x => [.lit (.str x)])), (5, .lit (.int .i64 (i : Int)))] ∧
    Gr H0 H 3 t (schE (keyC :: (List.range i).map (colF n))) ∧ H.blk (H0.next + 1 + 1) = .cells [t] false ∧ (∃ d, H.blk H0.next = .cells [d] false) ∧ ¬ t.hasB (H0.next + 1 + 1) ∧ ¬ t.hasB H0.next ∧ H0.next + 1 + 1 < H.next
theorem schema_own (L : HLaw6 p ext F) {n : Int} {H : HpD} : WcD p ext (F 23) [.lit (.int .i64 n)] H (fun d H' => ∃ t, d = .agg [t] ∧ Gr H H' 3 t (schE (schF n))) := by
  refine wc_of L.h23 (M := M23) rfl ok23 rfl (sem_run 9000 _ ?_)
  simp
  have gk : Gr H ((H.new (.cells [.lit .nilslice] false)).new (.cells [D.lit (V.str [107, 101, 121]), D.lit (V.int .i64 1), D.lit (V.bool false)] false)) 3 (.slice (H.next + 1) 0 3 1 1 true) (schE (keyC :: (List.range 0).map (colF n))) :=
    Gr.lit (H := H.new (.cells [.lit .nilslice] false)) Sub.refl.new (by simp [schE, Cl.c]) (by simp [schE, Cl.c, keyC]) (by simp [schE])
  have hin := gk.mono (Sub.put (H1 := _) (b := H.next + 1 + 1) (x := .cells [.slice (H.next + 1) 0 3 1 1 true] false) (Sub.refl.new (x := .cells [.lit .nilslice] false)) (by simp))
  refine sem_loop (SchI H n) ?_ (k := 6) ⟨0, .slice (H.next + 1) 0 3 1 1 true, by simp, by omega, by simp [colNames], hin, by simp, ⟨.lit .nilslice, by simp⟩, by simp [D.hasB], by simp [D.hasB], by simp⟩
  rintro k fr H' ⟨i, t, rfl, hi, rfl, g, h3, ⟨d2, h2⟩, n3, n2, hlt⟩
  refine sem_run 9000 _ ?_
  simp
  obtain ⟨hm, hm2⟩ := more_le (n := n)
  by_cases c : i < moreF n
  · have c' : (i : Int) < Int.tmod (andI n 255) 6 := by omega
    have c5 : (i : Int) < 5 := by omega
    have hw : wr .i64 ((i : Int) + 1) = ((i + 1 : Nat) : Int) := by rw [wr_of] <;> omega
    have w1 : wr .i64 (2 * (i : Int)) = 2 * (i : Int) := by rw [wr_of] <;> omega
    have w2 : wr .i64 (8 + 2 * (i : Int)) = 8 + 2 * (i : Int) := by rw [wr_of] <;> omega
    have w3 : wr .i64 (9 + 2 * (i : Int)) = 9 + 2 * (i : Int) := by rw [wr_of] <;> omega
    have w4 : wr .u64 (8 + 2 * (i : Int)) = 8 + 2 * (i : Int) := wr_u64 (by omega) (by omega)
    have w5 : wr .u64 (9 + 2 * (i : Int)) = 9 + 2 * (i : Int) := wr_u64 (by omega) (by omega)
    have p1 : (0 : Int) ≤ 8 + 2 * (i : Int) := by omega
    have p2 : (0 : Int) ≤ 9 + 2 * (i : Int) := by omega
    have t1 : (8 + 2 * (i : Int)).toNat = 8 + 2 * i := by omega
    have t2 : (9 + 2 * (i : Int)).toNat = 9 + 2 * i := by omega
    obtain ⟨nm, hnm⟩ : ∃ nm, colNames[i]? = some nm := ⟨colNames[i]'(by simp [colNames]; omega), by simp⟩
    simp [c', c5, h3, hlt, w1, w2, w3, w4, w5, p1, p2, t1, t2, hnm]
    have hwb : wr .i64 (andI (shrI .i64 n (8 + 2 * i)) 1 + 1) = bitI n (8 + 2 * i) + 1 := by
      rcases bitI_01 (n := n) (k := 8 + 2 * i) with h | h <;> unfold bitI at h ⊢ <;> rw [h] <;> decide
    rw [hwb, appendD_slice1 (b := H'.next) (cs := [.lit (.str nm), .lit (.int .i64 (bitI n (8 + 2 * i) + 1)), .lit (.bool (decide (bitI n (9 + 2 * i) = 1)))]) (ro := false) (by simp [bitI]; congr) (by simp)]
    refine sem_push_le (colF n i).c (g.mono Sub.refl.new) (by simp [colF, Cl.c, hnm]) rfl rfl (roomyD (by simp [schE]; omega) (by simp [schE]; omega)) fun s' H1 g1 k1 n1 => ?_
    have k3 := k1 (H.next + 1 + 1) (by simp; omega) n3
    have k2 := k1 H.next (by simp; omega) n2
    rw [new_blk, if_neg (by omega), h3] at k3
    rw [new_blk, if_neg (by omega), h2] at k2
    obtain ⟨n1, rfl⟩ := n1
    simp at n1
    simp [k3]
    refine sem_ok ?_
    have hs : schE (keyC :: (List.range i).map (colF n)) ++ [(colF n i).c] = schE (keyC :: (List.range (i+1)).map (colF n)) := by simp [schE, List.range_succ]
    rw [hs] at g1
    refine ⟨_, by omega, i + 1, _, rfl, by omega, by rw [hw], g1.keep (g1.sub.put (by omega)) (by simp) (fun x hx => ?_), by simp, ⟨d2, ?_⟩, ?_, ?_, ?_⟩
    · rw [put_blk, if_neg]
      rintro rfl
      simp [D.hasB] at hx
      omega
    · rw [put_blk, if_neg (by omega), k2]
    · simp [D.hasB]; omega
    · simp [D.hasB]; omega
    · simp; omega
  · have c' : ¬ (i : Int) < Int.tmod (andI n 255) 6 := by omega
    have : i = moreF n := by omega
    subst this
    have hft : flatD t = true := by
      rcases g.at_ with ⟨rfl, _⟩ | ⟨b, ex, el0, rfl, _⟩ <;> rfl
    simp [c']
    refine sem_exit (sem_run 9000 _ ?_)
    simp [h3, h2, hft]
    refine sem_ret ?_
    simp [M23]
    refine g.keep (g.sub.put (Nat.le_refl _)) (by simp) fun x hx => ?_
    rw [put_blk, if_neg]
    rintro rfl
    exact n2 hx
theorem schema (L : HLaw6 p ext F) {n : Int} : FnD p ext (F 23) [.lit (.int .i64 n)] (schD (schF n)) := by
  intro H
  refine WcD.drop ((schema_own L).mono ?_)
  rintro d H' ⟨t, rfl, g⟩
  obtain ⟨H2, w, s, u⟩ := g.finA sch_underss (m := .p) (by simp)
  exact ⟨_, H2, w, s, u, rfl, rfl⟩
end Go.Lib
end

section
set_option maxRecDepth 10000
namespace Go.Lib
open Go.Vm Go.Dv Go.Srt
attribute [-simp] bin_and bin_xor
def keyV (i : Nat) (x : Int) : Vl := ⟨false, 1, 3 * (i : Int) + andI x 1, [], by simp⟩
theorem row9_eq {k0 : Cl} {s : Sch} {i : Nat} {x : Int} : row9F (k0 :: s) i x = keyV i x :: s.mapIdx fun j => cellF x (j + 1) := by
  simp [row9F, rowF, cellF, List.mapIdx_cons, keyV]
theorem valF_kind {c : Cl} {n : Int} : (valF c n).kind = c.kind := by
  unfold valF; split
  · rfl
  · split <;> rfl
theorem rows9_mem {s : Sch} {l : List Int} {r : Row} (h : r ∈ rows9F s l) : ∃ i x, i < 40 ∧ r = row9F s i x := by
  unfold rows9F at h
  rw [List.mem_mapIdx] at h
  obtain ⟨i, hi, rfl⟩ := h
  exact ⟨i, _, by simp at hi; omega, rfl⟩
def ksF (s : Sch) : List Int := s.map Cl.kind
def GoodS (s : Sch) : Prop := ∀ c, c ∈ s → c.kind = 1 ∨ c.kind = 2
theorem in64_wr {n : Int} : In64 (wr .i64 n) := by
  rw [wr_eq]
  have : IntKind.wrap .i64 n = if (decide (n % 18446744073709551616 ≥ 9223372036854775808)) = true then n % 18446744073709551616 - 18446744073709551616 else n % 18446744073709551616 := rfl
  rw [this]
  unfold In64
  by_cases h : n % 18446744073709551616 ≥ 9223372036854775808
  · rw [if_pos (by simpa using h)]; omega
  · rw [if_neg (by simpa using h)]; omega
theorem in64_and {n : Int} {m : Nat} (hm : m < 65536) : In64 (andI n (m : Int)) := by
  obtain ⟨q, hq, h1⟩ := andI_small (a := n) hm
  rw [hq]; unfold In64; omega
theorem valF_good {c : Cl} (hc : c.kind = 1 ∨ c.kind = 2) {n : Int} : (valF c n).Good := by
  unfold valF
  split
  · exact ⟨fun _ => ⟨rfl, rfl⟩, by rcases hc with h | h <;> simp [h], by unfold In64; simp⟩
  · split
    · rename_i h
      refine ⟨fun h2 => by simp at h2, .inl ⟨h, rfl⟩, ?_⟩
      show In64 (if _ then _ else _)
      split
      · exact in64_wr
      · split
        · exact in64_wr
        · split
          · exact in64_wr
          · exact in64_and (m := 7) (by simp)
    · rename_i h
      exact ⟨fun h2 => by simp at h2, .inr ⟨by rcases hc with k | k; exact absurd k h; exact k, rfl⟩, by show In64 0; unfold In64; simp⟩
theorem schF_kinds {n : Int} : GoodS (schF n) := by
  intro c hc
  rcases List.mem_cons.1 hc with rfl | hc
  · exact .inl rfl
  · obtain ⟨i, _, rfl⟩ := List.mem_map.1 hc
    have := bitI_01 (n := n) (k := 8 + 2 * i)
    show bitI n (8 + 2 * i) + 1 = 1 ∨ bitI n (8 + 2 * i) + 1 = 2
    omega
theorem schF_cons {n : Int} : schF n = keyC :: (List.range (moreF n)).map (colF n) := rfl
theorem keyV_good {i : Nat} {x : Int} (hi : i < 1000000) : (keyV i x).Good := by
  obtain ⟨q, hq, h1⟩ := andI_small (a := x) (m := 1) (by simp)
  have hq' : andI x 1 = q := hq
  refine ⟨fun h => by simp [keyV] at h, .inl ⟨rfl, rfl⟩, ?_⟩
  show In64 (3 * (i : Int) + andI x 1)
  rw [hq']; unfold In64; omega
theorem cells_good {s : Sch} (hs : GoodS s) {x : Int} : GoodR (ksF s) (s.mapIdx fun j => cellF x (j + 1)) := by
  refine ⟨?_, fun v hv => ?_⟩
  · unfold Kin ksF
    apply List.ext_getElem
    · simp
    · intro i h1 h2
      simp [cellF, valF_kind]
  · rw [List.mem_mapIdx] at hv
    obtain ⟨i, hi, rfl⟩ := hv
    exact valF_good (hs _ (by simp))
theorem GoodR.cons {k : Int} {ks : List Int} {v : Vl} {r : Row} (h1 : v.kind = k) (h2 : v.Good) (h : GoodR ks r) : GoodR (k :: ks) (v :: r) :=
  ⟨by have := h.kin; unfold Kin at this ⊢; simp [h1, this], fun w hw => by
    rcases List.mem_cons.1 hw with rfl | hw
    · exact h2
    · exact h.good w hw⟩
theorem rows9_good {n : Int} {l : List Int} : GoodRs (ksF (schF n)) (rows9F (schF n) l) := by
  intro r hr
  rw [schF_cons] at hr
  obtain ⟨i, x, hi, rfl⟩ := rows9_mem hr
  rw [row9_eq]
  exact GoodR.cons rfl (keyV_good (by omega)) (cells_good fun c hc => schF_kinds (n := n) c (by rw [schF_cons]; exact List.mem_cons_of_mem _ hc))
theorem ksF_len {s : Sch} : (ksF s).length = s.length := by simp [ksF]
end Go.Lib
end

section
namespace Go.Lib
open Go.Vm Go.Dv
set_option maxRecDepth 100000
abbrev K70 (F : Nat → Nat) : KC := .seq (.region [⟨some 3,.a (.box (.tmp 0)),none⟩,⟨some 5,.a (.box (.tmp 2)),none⟩,⟨some 6,.p (.mov (.val (.nilslice))),none⟩,⟨some 7,.a (.new [.int .i64 (.ofNat 0),.int .i64 (.ofNat 0),.nilslice]),none⟩] [3,5] [1,5,7])
 (.seq (.region [⟨some 14,.p (.mov (.tmp 1)),none⟩,⟨some 15,.e (.call (F 72) [(.tmp 14)]),none⟩,⟨some 1,.p (.mov (.tmp 15)),none⟩] [] [1,5,7])
 (.seq (.region [⟨some 16,.p (.mkfunc (F 73) [] [(.tmp 5)]),none⟩,⟨some 8,.p (.mov (.tmp 16)),none⟩] [] [1,5,7,8])
 (.seq (.region [⟨some 9,.p (.mov (.val (.nilslice))),none⟩] [] [1,5,7,8,9])
 (.seq (.seq (.region [⟨some 17,.p (.mov (.tmp 1)),none⟩,⟨some 18,.p (.lenb (.tmp 17)),none⟩,⟨some 19,.p (.mov (.val (.int .i64 (.ofNat 0)))),none⟩] [] [1,5,7,8,9,17,18,19])
 (.block 0 (.loop (.seq (.region [⟨some 20,.p (.bin .lss (.tmp 19) (.tmp 18)),none⟩] [] [1,5,7,8,9,17,18,19,20])
 (.seq (.cond (.tmp 20) (.skip)
 (.exit 0))
 (.seq (.block 1 (.seq (.region [⟨some 21,.p (.iaddr 1 (.tmp 17) (.tmp 19)),none⟩,⟨some 22,.load1 (.tmp 21),none⟩,⟨some 11,.p (.mov (.tmp 22)),none⟩] [] [1,5,7,8,9,11,17,18,19])
 (.seq (.region [⟨some 23,.p (.mov (.tmp 8)),none⟩,⟨some 24,.p (.mov (.tmp 11)),none⟩,⟨some 25,.e (.callv (.tmp 23) [(.tmp 24)]),none⟩] [] [1,5,7,8,9,11,17,18,19,25])
 (.cond (.tmp 25) (.region [⟨some 26,.p (.mov (.tmp 9)),none⟩,⟨some 27,.p (.mov (.tmp 11)),none⟩,⟨some 28,.a (.bslice [.nilslice] 1 1 [(0,1,(.tmp 27))]),none⟩,⟨some 29,.e (.append 1 24 (.tmp 26) (.tmp 28)),none⟩,⟨some 9,.p (.mov (.tmp 29)),none⟩] [28] [1,5,7,8,9,17,18,19])
 (.skip)))))
 (.region [⟨some 30,.p (.bin .add (.tmp 19) (.val (.int .i64 (.ofNat 1)))),none⟩,⟨some 19,.p (.mov (.tmp 30)),none⟩] [] [1,5,7,8,9,17,18,19])))))))
 (.seq (.seq (.region [⟨some 31,.p (.faddr 0 (.tmp 5)),none⟩,⟨some 32,.load1 (.tmp 31),none⟩] [] [1,5,7,8,9,32])
 (.block 2 (.seq (.region [⟨some 34,.p (.bin .eql (.tmp 32) (.val (.int .i64 (.ofNat 1)))),none⟩,⟨some 33,.p (.mov (.tmp 34)),none⟩] [] [1,5,7,8,9,32,33])
 (.cond (.tmp 33) (.seq (.region [⟨some 35,.p (.mov (.tmp 1)),none⟩,⟨some 36,.p (.faddr 1 (.tmp 5)),none⟩,⟨some 37,.load1 (.tmp 36),none⟩,⟨some 38,.e (.call (F 74) [(.tmp 35),(.tmp 37)]),none⟩,⟨some 39,.p (.ext (.tmp 38) 0),none⟩,⟨some 40,.p (.ext (.tmp 38) 1),none⟩,⟨some 6,.p (.mov (.tmp 39)),none⟩,⟨none,.e (.store 3 (.tmp 7) (.tmp 40)),none⟩] [] [6,7])
 (.ret))
 (.seq (.region [⟨some 42,.p (.bin .eql (.tmp 32) (.val (.int .i64 (.ofNat 2)))),none⟩,⟨some 41,.p (.mov (.tmp 42)),none⟩] [] [1,5,7,8,9,32,41])
 (.cond (.tmp 41) (.seq (.region [⟨some 43,.p (.mov (.tmp 1)),none⟩,⟨some 44,.loadn 14 (.tmp 5),none⟩,⟨some 45,.e (.call (F 75) [(.tmp 43),(.tmp 44)]),none⟩,⟨some 46,.p (.ext (.tmp 45) 0),none⟩,⟨some 47,.p (.ext (.tmp 45) 1),none⟩,⟨some 6,.p (.mov (.tmp 46)),none⟩,⟨none,.e (.store 3 (.tmp 7) (.tmp 47)),none⟩] [] [6,7])
 (.ret))
 (.seq (.region [⟨some 49,.p (.bin .eql (.tmp 32) (.val (.int .i64 (.ofNat 3)))),none⟩,⟨some 48,.p (.mov (.tmp 49)),none⟩] [] [1,5,7,8,9,32,48])
 (.cond (.tmp 48) (.seq (.region [⟨some 50,.p (.mov (.tmp 1)),none⟩,⟨some 51,.p (.mov (.tmp 8)),none⟩,⟨some 52,.e (.call (F 76) [(.tmp 50),(.tmp 51)]),none⟩,⟨some 53,.e (.call (F 39) [(.tmp 52)]),none⟩,⟨some 54,.p (.mov (.tmp 9)),none⟩,⟨some 55,.p (.lenb (.tmp 54)),none⟩,⟨some 56,.p (.build [.int .i64 (.ofNat 0),.int .i64 (.ofNat 0),.nilslice] [(1,1,(.tmp 55))]),none⟩,⟨some 6,.p (.mov (.tmp 53)),none⟩,⟨none,.e (.store 3 (.tmp 7) (.tmp 56)),none⟩] [] [6,7])
 (.ret))
 (.seq (.region [⟨some 58,.p (.bin .eql (.tmp 32) (.val (.int .i64 (.ofNat 4)))),none⟩,⟨some 57,.p (.mov (.tmp 58)),none⟩] [] [1,5,7,9,32,57])
 (.cond (.tmp 57) (.seq (.region [⟨some 59,.p (.mov (.tmp 1)),none⟩,⟨some 60,.p (.mov (.tmp 9)),none⟩,⟨some 61,.p (.faddr 11 (.tmp 5)),none⟩,⟨some 62,.load1 (.tmp 61),none⟩,⟨some 63,.e (.call (F 34) [(.tmp 60),(.tmp 62)]),none⟩,⟨some 64,.p (.build [.int .i64 (.ofNat 0),.int .i64 (.ofNat 0),.nilslice] [(2,1,(.tmp 63))]),none⟩,⟨some 6,.p (.mov (.tmp 59)),none⟩,⟨none,.e (.store 3 (.tmp 7) (.tmp 64)),none⟩] [] [6,7])
 (.ret))
 (.seq (.region [⟨some 66,.p (.bin .eql (.tmp 32) (.val (.int .i64 (.ofNat 5)))),none⟩,⟨some 65,.p (.mov (.tmp 66)),none⟩] [] [1,5,7,9,32,65])
 (.cond (.tmp 65) (.seq (.region [⟨some 68,.p (.mov (.tmp 9)),none⟩,⟨some 69,.p (.faddr 12 (.tmp 5)),none⟩,⟨some 70,.load1 (.tmp 69),none⟩,⟨some 71,.p (.faddr 13 (.tmp 5)),none⟩,⟨some 72,.load1 (.tmp 71),none⟩,⟨some 73,.e (.call (F 32) [(.tmp 68),(.tmp 70),(.tmp 72)]),none⟩,⟨some 67,.p (.mov (.tmp 73)),none⟩,⟨some 74,.p (.ext (.tmp 67) 0),none⟩,⟨some 75,.p (.ext (.tmp 67) 1),none⟩,⟨some 12,.p (.mov (.tmp 74)),none⟩,⟨some 13,.p (.mov (.tmp 75)),none⟩] [] [1,7,12,13])
 (.seq (.seq (.region [⟨some 76,.p (.mov (.tmp 13)),none⟩,⟨some 77,.p (.not (.tmp 76)),none⟩] [] [1,7,12,77])
 (.cond (.tmp 77) (.seq (.region [⟨some 78,.p (.mov (.tmp 1)),none⟩,⟨some 79,.p (.build [.int .i64 (.ofNat 0),.int .i64 (.ofNat 0),.nilslice] [(0,1,(.val (.int .i64 (.ofNat 2))))]),none⟩,⟨some 6,.p (.mov (.tmp 78)),none⟩,⟨none,.e (.store 3 (.tmp 7) (.tmp 79)),none⟩] [] [6,7])
 (.ret))
 (.skip)))
 (.seq (.region [⟨some 80,.p (.mov (.tmp 1)),none⟩,⟨some 81,.p (.mov (.tmp 12)),none⟩,⟨some 82,.p (.build [.int .i64 (.ofNat 0),.int .i64 (.ofNat 0),.nilslice] [(2,1,(.tmp 81))]),none⟩,⟨some 6,.p (.mov (.tmp 80)),none⟩,⟨none,.e (.store 3 (.tmp 7) (.tmp 82)),none⟩] [] [6,7])
 (.ret))))
 (.seq (.region [⟨some 84,.p (.bin .eql (.tmp 32) (.val (.int .i64 (.ofNat 6)))),none⟩,⟨some 83,.p (.mov (.tmp 84)),none⟩] [] [1,7,83])
 (.cond (.tmp 83) (.seq (.region [⟨some 85,.p (.mov (.tmp 1)),none⟩,⟨some 86,.p (.build [.int .i64 (.ofNat 0),.int .i64 (.ofNat 0),.nilslice] [(0,1,(.val (.int .i64 (.ofNat 3))))]),none⟩,⟨some 6,.p (.mov (.tmp 85)),none⟩,⟨none,.e (.store 3 (.tmp 7) (.tmp 86)),none⟩] [] [6,7])
 (.ret))
 (.skip)))))))))))))))
 (.seq (.region [⟨some 87,.p (.mov (.tmp 1)),none⟩,⟨some 88,.p (.build [.int .i64 (.ofNat 0),.int .i64 (.ofNat 0),.nilslice] []),none⟩,⟨some 6,.p (.mov (.tmp 87)),none⟩,⟨none,.e (.store 3 (.tmp 7) (.tmp 88)),none⟩] [] [6,7])
 (.ret)))))))
def M70 (F : Nat → Nat) : Fun := ⟨89,3,(K70 F).erase,[.tmp 6,.celln 3 7]⟩
theorem ok70 {F : Nat → Nat} : (K70 F).ok = true := rfl
abbrev K71 (F : Nat → Nat) : KC := .seq (.region [⟨some 3,.a (.box (.tmp 0)),none⟩,⟨some 6,.p (.mov (.val (.nilslice))),none⟩,⟨some 7,.p (.mov (.val (.nilslice))),none⟩] [3] [1,2,3])
 (.seq (.region [⟨some 14,.p (.mov (.tmp 1)),none⟩,⟨some 15,.e (.call (F 72) [(.tmp 14)]),none⟩,⟨some 1,.p (.mov (.tmp 15)),none⟩] [] [1,2,3])
 (.seq (.region [⟨some 16,.p (.mov (.tmp 1)),none⟩,⟨some 8,.p (.mov (.tmp 16)),none⟩] [] [1,2,3,8])
 (.seq (.region [⟨some 9,.p (.mov (.val (.nilslice))),none⟩] [] [1,2,3,8,9])
 (.seq (.seq (.region [⟨some 17,.p (.mov (.tmp 2)),none⟩,⟨some 18,.p (.lenb (.tmp 17)),none⟩,⟨some 19,.p (.mov (.val (.int .i64 (.ofNat 0)))),none⟩] [] [1,3,8,9,17,18,19])
 (.block 0 (.loop (.seq (.region [⟨some 20,.p (.bin .lss (.tmp 19) (.tmp 18)),none⟩] [] [1,3,8,9,17,18,19,20])
 (.seq (.cond (.tmp 20) (.skip)
 (.exit 0))
 (.seq (.block 1 (.seq (.region [⟨some 21,.p (.iaddr 14 (.tmp 17) (.tmp 19)),none⟩,⟨some 22,.loadn 14 (.tmp 21),none⟩,⟨some 11,.a (.new [.int .i64 (.ofNat 0),.nilslice,.int .i64 (.ofNat 0),.int .i64 (.ofNat 0),.int .i64 (.ofNat 0),.bool false,.int .i64 (.ofNat 0),.int .i64 (.ofNat 0),.nilslice,.nilslice,.nilslice,.nilslice,.int .i64 (.ofNat 0),.nilslice]),none⟩,⟨none,.e (.store 14 (.tmp 11) (.tmp 22)),none⟩] [] [1,3,8,9,11,17,18,19])
 (.seq (.region [⟨some 24,.loadn 1 (.tmp 3),none⟩,⟨some 25,.p (.mov (.tmp 8)),none⟩,⟨some 26,.loadn 14 (.tmp 11),none⟩,⟨some 27,.e (.call (F 70) [(.tmp 24),(.tmp 25),(.tmp 26)]),none⟩,⟨some 23,.p (.mov (.tmp 27)),none⟩,⟨some 28,.p (.ext (.tmp 23) 0),none⟩,⟨some 29,.p (.ext (.tmp 23) 1),none⟩,⟨some 13,.a (.new [.int .i64 (.ofNat 0),.int .i64 (.ofNat 0),.nilslice]),none⟩,⟨some 12,.p (.mov (.tmp 28)),none⟩,⟨none,.e (.store 3 (.tmp 13) (.tmp 29)),none⟩] [] [1,3,9,12,13,17,18,19])
 (.seq (.region [⟨some 30,.p (.mov (.tmp 9)),none⟩,⟨some 31,.loadn 3 (.tmp 13),none⟩,⟨some 32,.a (.bslice [.int .i64 (.ofNat 0),.int .i64 (.ofNat 0),.nilslice] 3 1 [(0,3,(.tmp 31))]),none⟩,⟨some 33,.e (.append 3 40 (.tmp 30) (.tmp 32)),none⟩,⟨some 9,.p (.mov (.tmp 33)),none⟩] [32] [1,3,9,12,13,17,18,19])
 (.seq (.seq (.region [⟨some 34,.p (.faddr 0 (.tmp 13)),none⟩,⟨some 35,.load1 (.tmp 34),none⟩,⟨some 36,.p (.bin .neq (.tmp 35) (.val (.int .i64 (.ofNat 0)))),none⟩] [] [1,3,9,12,17,18,19,36])
 (.cond (.tmp 36) (.seq (.region [⟨some 37,.p (.mov (.tmp 1)),none⟩,⟨some 38,.p (.mov (.tmp 9)),none⟩,⟨some 39,.e (.call (F 77) [(.tmp 38)]),none⟩,⟨some 6,.p (.mov (.tmp 37)),none⟩,⟨some 7,.p (.mov (.tmp 39)),none⟩] [] [6,7])
 (.ret))
 (.skip)))
 (.region [⟨some 40,.p (.mov (.tmp 12)),none⟩,⟨some 8,.p (.mov (.tmp 40)),none⟩] [] [1,3,8,9,17,18,19]))))))
 (.region [⟨some 41,.p (.bin .add (.tmp 19) (.val (.int .i64 (.ofNat 1)))),none⟩,⟨some 19,.p (.mov (.tmp 41)),none⟩] [] [1,3,8,9,17,18,19])))))))
 (.seq (.region [⟨some 42,.p (.mov (.tmp 8)),none⟩,⟨some 43,.p (.mov (.tmp 9)),none⟩,⟨some 44,.e (.call (F 77) [(.tmp 43)]),none⟩,⟨some 6,.p (.mov (.tmp 42)),none⟩,⟨some 7,.p (.mov (.tmp 44)),none⟩] [] [6,7])
 (.ret))))))
def M71 (F : Nat → Nat) : Fun := ⟨45,3,(K71 F).erase,[.tmp 6,.tmp 7]⟩
abbrev K72 (F : Nat → Nat) : KC := .seq (.region [⟨some 2,.p (.mov (.val (.nilslice))),none⟩] [] [0])
 (.seq (.region [⟨some 3,.p (.mov (.val (.nilslice))),none⟩] [] [0,3])
 (.seq (.seq (.region [⟨some 6,.p (.mov (.tmp 0)),none⟩,⟨some 7,.p (.lenb (.tmp 6)),none⟩,⟨some 8,.p (.mov (.val (.int .i64 (.ofNat 0)))),none⟩] [] [3,6,7,8])
 (.block 0 (.loop (.seq (.region [⟨some 9,.p (.bin .lss (.tmp 8) (.tmp 7)),none⟩] [] [3,6,7,8,9])
 (.seq (.cond (.tmp 9) (.skip)
 (.exit 0))
 (.seq (.block 1 (.seq (.region [⟨some 10,.p (.iaddr 1 (.tmp 6) (.tmp 8)),none⟩,⟨some 11,.load1 (.tmp 10),none⟩,⟨some 5,.p (.mov (.tmp 11)),none⟩] [] [3,5,6,7,8])
 (.region [⟨some 12,.p (.mov (.tmp 3)),none⟩,⟨some 13,.p (.mov (.tmp 5)),none⟩,⟨some 14,.e (.call (F 4) [(.tmp 13)]),none⟩,⟨some 15,.a (.bslice [.nilslice] 1 1 [(0,1,(.tmp 14))]),none⟩,⟨some 16,.e (.append 1 24 (.tmp 12) (.tmp 15)),none⟩,⟨some 3,.p (.mov (.tmp 16)),none⟩] [15] [3,6,7,8])))
 (.region [⟨some 17,.p (.bin .add (.tmp 8) (.val (.int .i64 (.ofNat 1)))),none⟩,⟨some 8,.p (.mov (.tmp 17)),none⟩] [] [3,6,7,8])))))))
 (.seq (.region [⟨some 18,.p (.mov (.tmp 3)),none⟩,⟨some 19,.e (.call (F 39) [(.tmp 18)]),none⟩,⟨some 2,.p (.mov (.tmp 19)),none⟩] [] [2])
 (.ret))))
def M72 (F : Nat → Nat) : Fun := ⟨20,1,(K72 F).erase,[.tmp 2]⟩
theorem ok72 {F : Nat → Nat} : (K72 F).ok = true := rfl
abbrev K73 (F : Nat → Nat) : KC := .seq (.region [⟨some 3,.p (.mov (.val (.bool false))),none⟩] [] [0,1])
 (.seq (.region [⟨some 4,.p (.faddr 2 (.tmp 1)),none⟩,⟨some 5,.loadn 8 (.tmp 4),none⟩,⟨some 6,.p (.mov (.tmp 0)),none⟩,⟨some 7,.e (.call (F 65) [(.tmp 5),(.tmp 6)]),none⟩,⟨some 8,.p (.bin .eql (.tmp 7) (.val (.int .i64 (.ofNat 1)))),none⟩,⟨some 3,.p (.mov (.tmp 8)),none⟩] [] [3])
 (.ret))
def M73 (F : Nat → Nat) : Fun := ⟨9,2,(K73 F).erase,[.tmp 3]⟩
theorem ok73 {F : Nat → Nat} : (K73 F).ok = true := rfl
abbrev K74 (F : Nat → Nat) : KC := .seq (.region [⟨some 4,.p (.mov (.val (.nilslice))),none⟩,⟨some 5,.a (.new [.int .i64 (.ofNat 0),.int .i64 (.ofNat 0),.nilslice]),none⟩] [] [0,1,5])
 (.seq (.region [⟨some 9,.p (.mov (.tmp 0)),none⟩,⟨some 10,.p (.mov (.tmp 1)),none⟩,⟨some 11,.e (.call (F 78) [(.tmp 10)]),none⟩,⟨some 12,.e (.call (F 79) [(.tmp 9),(.tmp 11),(.val (.func (F 80) [] []))]),none⟩,⟨some 8,.p (.mov (.tmp 12)),none⟩,⟨some 13,.p (.ext (.tmp 8) 0),none⟩,⟨some 14,.p (.ext (.tmp 8) 1),none⟩,⟨some 6,.p (.mov (.tmp 13)),none⟩,⟨some 7,.p (.mov (.tmp 14)),none⟩] [] [0,1,5,6,7])
 (.seq (.seq (.region [⟨some 15,.p (.mov (.tmp 7)),none⟩] [] [0,1,5,6,15])
 (.cond (.tmp 15) (.seq (.region [⟨some 16,.p (.mov (.tmp 0)),none⟩,⟨some 17,.p (.build [.int .i64 (.ofNat 0),.int .i64 (.ofNat 0),.nilslice] [(0,1,(.val (.int .i64 (.ofNat 1))))]),none⟩,⟨some 4,.p (.mov (.tmp 16)),none⟩,⟨none,.e (.store 3 (.tmp 5) (.tmp 17)),none⟩] [] [4,5])
 (.ret))
 (.skip)))
 (.seq (.region [⟨some 18,.p (.mov (.tmp 0)),none⟩,⟨some 19,.p (.mov (.tmp 6)),none⟩,⟨some 20,.p (.mov (.tmp 1)),none⟩,⟨some 21,.e (.call (F 4) [(.tmp 20)]),none⟩,⟨some 22,.a (.bslice [.nilslice] 1 1 [(0,1,(.tmp 21))]),none⟩,⟨some 23,.e (.call (F 81) [(.tmp 18),(.tmp 19),(.tmp 22)]),none⟩,⟨some 24,.p (.build [.int .i64 (.ofNat 0),.int .i64 (.ofNat 0),.nilslice] [(1,1,(.val (.int .i64 (.ofNat 1))))]),none⟩,⟨some 4,.p (.mov (.tmp 23)),none⟩,⟨none,.e (.store 3 (.tmp 5) (.tmp 24)),none⟩] [22] [4,5])
 (.ret))))
def M74 (F : Nat → Nat) : Fun := ⟨25,2,(K74 F).erase,[.tmp 4,.celln 3 5]⟩
theorem ok74 {F : Nat → Nat} : (K74 F).ok = true := rfl
abbrev K75 (F : Nat → Nat) : KC := .seq (.region [⟨some 3,.a (.box (.tmp 1)),none⟩,⟨some 4,.p (.mov (.val (.nilslice))),none⟩,⟨some 5,.a (.new [.int .i64 (.ofNat 0),.int .i64 (.ofNat 0),.nilslice]),none⟩] [3] [0,3,5])
 (.seq (.region [⟨some 12,.p (.mov (.tmp 0)),none⟩,⟨some 13,.e (.call (F 72) [(.tmp 12)]),none⟩,⟨some 6,.p (.mov (.tmp 13)),none⟩] [] [0,3,5,6])
 (.seq (.region [⟨some 7,.p (.mov (.val (.int .i64 (.ofNat 0)))),none⟩] [] [0,3,5,6,7])
 (.seq (.seq (.region [⟨some 14,.p (.mov (.tmp 0)),none⟩,⟨some 15,.p (.lenb (.tmp 14)),none⟩,⟨some 16,.p (.mov (.val (.int .i64 (.ofNat 0)))),none⟩] [] [0,3,5,6,7,14,15,16])
 (.block 0 (.loop (.seq (.region [⟨some 17,.p (.bin .lss (.tmp 16) (.tmp 15)),none⟩] [] [0,3,5,6,7,14,15,16,17])
 (.seq (.cond (.tmp 17) (.skip)
 (.exit 0))
 (.seq (.block 1 (.seq (.region [⟨some 18,.p (.mov (.tmp 16)),none⟩,⟨some 19,.p (.iaddr 1 (.tmp 14) (.tmp 16)),none⟩,⟨some 20,.load1 (.tmp 19),none⟩,⟨some 8,.p (.mov (.tmp 18)),none⟩,⟨some 9,.p (.mov (.tmp 20)),none⟩] [] [0,3,5,6,7,8,9,14,15,16])
 (.seq (.seq (.region [⟨some 21,.p (.faddr 2 (.tmp 3)),none⟩,⟨some 22,.loadn 8 (.tmp 21),none⟩,⟨some 23,.p (.mov (.tmp 9)),none⟩,⟨some 24,.e (.call (F 65) [(.tmp 22),(.tmp 23)]),none⟩,⟨some 25,.p (.bin .neq (.tmp 24) (.val (.int .i64 (.ofNat 1)))),none⟩] [] [0,3,5,6,7,8,9,14,15,16,25])
 (.cond (.tmp 25) (.exit 1)
 (.skip)))
 (.seq (.region [⟨some 27,.p (.mov (.tmp 9)),none⟩,⟨some 28,.p (.faddr 10 (.tmp 3)),none⟩,⟨some 29,.load1 (.tmp 28),none⟩,⟨some 30,.e (.call (F 35) [(.tmp 27),(.tmp 29)]),none⟩,⟨some 26,.p (.mov (.tmp 30)),none⟩,⟨some 31,.p (.ext (.tmp 26) 0),none⟩,⟨some 32,.p (.ext (.tmp 26) 1),none⟩,⟨some 10,.p (.mov (.tmp 31)),none⟩,⟨some 11,.p (.mov (.tmp 32)),none⟩] [] [0,3,5,6,7,8,10,11,14,15,16])
 (.seq (.seq (.region [⟨some 33,.p (.mov (.tmp 11)),none⟩,⟨some 34,.p (.not (.tmp 33)),none⟩] [] [0,3,5,6,7,8,10,14,15,16,34])
 (.cond (.tmp 34) (.seq (.region [⟨some 35,.p (.mov (.tmp 0)),none⟩,⟨some 36,.p (.build [.int .i64 (.ofNat 0),.int .i64 (.ofNat 0),.nilslice] [(0,1,(.val (.int .i64 (.ofNat 2))))]),none⟩,⟨some 4,.p (.mov (.tmp 35)),none⟩,⟨none,.e (.store 3 (.tmp 5) (.tmp 36)),none⟩] [] [4,5])
 (.ret))
 (.skip)))
 (.seq (.region [⟨some 37,.p (.mov (.tmp 6)),none⟩,⟨some 38,.p (.mov (.tmp 8)),none⟩,⟨some 39,.p (.mov (.tmp 10)),none⟩,⟨some 40,.p (.iaddr 1 (.tmp 37) (.tmp 38)),none⟩,⟨none,.e (.store 1 (.tmp 40) (.tmp 39)),none⟩] [] [0,3,5,6,7,14,15,16])
 (.region [⟨some 41,.p (.mov (.tmp 7)),none⟩,⟨some 42,.p (.bin .add (.tmp 41) (.val (.int .i64 (.ofNat 1)))),none⟩,⟨some 7,.p (.mov (.tmp 42)),none⟩] [] [0,3,5,6,7,14,15,16])))))))
 (.region [⟨some 43,.p (.bin .add (.tmp 16) (.val (.int .i64 (.ofNat 1)))),none⟩,⟨some 16,.p (.mov (.tmp 43)),none⟩] [] [0,3,5,6,7,14,15,16])))))))
 (.seq (.region [⟨some 44,.p (.mov (.tmp 6)),none⟩,⟨some 45,.p (.mov (.tmp 7)),none⟩,⟨some 46,.p (.build [.int .i64 (.ofNat 0),.int .i64 (.ofNat 0),.nilslice] [(1,1,(.tmp 45))]),none⟩,⟨some 4,.p (.mov (.tmp 44)),none⟩,⟨none,.e (.store 3 (.tmp 5) (.tmp 46)),none⟩] [] [4,5])
 (.ret)))))
def M75 (F : Nat → Nat) : Fun := ⟨47,2,(K75 F).erase,[.tmp 4,.celln 3 5]⟩
theorem ok75 {F : Nat → Nat} : (K75 F).ok = true := rfl
abbrev K76 (F : Nat → Nat) : KC := .seq (.region [⟨some 4,.p (.mov (.val (.nilslice))),none⟩] [] [0,1])
 (.seq (.region [⟨some 8,.p (.mov (.tmp 0)),none⟩,⟨some 9,.p (.mov (.tmp 1)),none⟩,⟨some 10,.e (.call (F 82) [(.tmp 8),(.tmp 9)]),none⟩,⟨some 5,.p (.mov (.tmp 10)),none⟩] [] [0,1,5])
 (.seq (.seq (.region [⟨some 11,.p (.mov (.tmp 5)),none⟩,⟨some 12,.p (.bin .eql (.tmp 11) (.val (.int .i64 (.negSucc 0)))),none⟩] [] [0,1,5,12])
 (.cond (.tmp 12) (.seq (.region [⟨some 13,.p (.mov (.tmp 0)),none⟩,⟨some 4,.p (.mov (.tmp 13)),none⟩] [] [4])
 (.ret))
 (.skip)))
 (.seq (.seq (.region [⟨some 14,.p (.mov (.tmp 5)),none⟩,⟨some 15,.p (.bin .add (.tmp 14) (.val (.int .i64 (.ofNat 1)))),none⟩,⟨some 6,.p (.mov (.tmp 15)),none⟩] [] [0,1,5,6])
 (.block 0 (.loop (.seq (.seq (.region [⟨some 16,.p (.mov (.tmp 6)),none⟩,⟨some 17,.p (.mov (.tmp 0)),none⟩,⟨some 18,.p (.lenb (.tmp 17)),none⟩,⟨some 19,.p (.bin .lss (.tmp 16) (.tmp 18)),none⟩] [] [0,1,5,6,19])
 (.cond (.tmp 19) (.skip)
 (.exit 0)))
 (.seq (.block 1 (.seq (.region [⟨some 22,.p (.mov (.tmp 0)),none⟩,⟨some 23,.p (.mov (.tmp 6)),none⟩,⟨some 24,.p (.iaddr 1 (.tmp 22) (.tmp 23)),none⟩,⟨some 25,.load1 (.tmp 24),none⟩,⟨some 7,.p (.mov (.tmp 25)),none⟩] [] [0,1,5,6,7])
 (.seq (.region [⟨some 26,.p (.mov (.tmp 1)),none⟩,⟨some 27,.p (.mov (.tmp 7)),none⟩,⟨some 28,.e (.callv (.tmp 26) [(.tmp 27)]),none⟩,⟨some 29,.p (.not (.tmp 28)),none⟩] [] [0,1,5,6,7,29])
 (.cond (.tmp 29) (.seq (.region [⟨some 30,.p (.mov (.tmp 0)),none⟩,⟨some 31,.p (.mov (.tmp 5)),none⟩,⟨some 32,.p (.mov (.tmp 7)),none⟩,⟨some 33,.p (.iaddr 1 (.tmp 30) (.tmp 31)),none⟩,⟨none,.e (.store 1 (.tmp 33) (.tmp 32)),none⟩] [] [0,1,5,6])
 (.region [⟨some 34,.p (.mov (.tmp 5)),none⟩,⟨some 35,.p (.bin .add (.tmp 34) (.val (.int .i64 (.ofNat 1)))),none⟩,⟨some 5,.p (.mov (.tmp 35)),none⟩] [] [0,1,5,6]))
 (.skip)))))
 (.region [⟨some 20,.p (.mov (.tmp 6)),none⟩,⟨some 21,.p (.bin .add (.tmp 20) (.val (.int .i64 (.ofNat 1)))),none⟩,⟨some 6,.p (.mov (.tmp 21)),none⟩] [] [0,1,5,6]))))))
 (.seq (.region [⟨some 36,.p (.mov (.tmp 0)),none⟩,⟨some 37,.p (.mov (.tmp 5)),none⟩,⟨some 38,.p (.slc 1 (.tmp 36) (some (.tmp 37)) none none),none⟩,⟨none,.e (.clear [.nilslice] (.tmp 38)),none⟩] [] [0,5])
 (.seq (.region [⟨some 39,.p (.mov (.tmp 0)),none⟩,⟨some 40,.p (.mov (.tmp 5)),none⟩,⟨some 41,.p (.slc 1 (.tmp 39) none (some (.tmp 40)) none),none⟩,⟨some 4,.p (.mov (.tmp 41)),none⟩] [] [4])
 (.ret))))))
def M76 (F : Nat → Nat) : Fun := ⟨42,2,(K76 F).erase,[.tmp 4]⟩
theorem ok76 {F : Nat → Nat} : (K76 F).ok = true := rfl
abbrev K77 (_F : Nat → Nat) : KC := .seq (.region [⟨some 2,.p (.mov (.val (.nilslice))),none⟩] [] [0])
 (.seq (.region [⟨some 3,.p (.mov (.tmp 0)),none⟩,⟨some 4,.p (.mov (.tmp 0)),none⟩,⟨some 5,.p (.lenb (.tmp 4)),none⟩,⟨some 6,.p (.mov (.tmp 0)),none⟩,⟨some 7,.p (.lenb (.tmp 6)),none⟩,⟨some 8,.p (.slc 3 (.tmp 3) none (some (.tmp 5)) (some (.tmp 7))),none⟩,⟨some 2,.p (.mov (.tmp 8)),none⟩] [] [2])
 (.ret))
def M77 (F : Nat → Nat) : Fun := ⟨9,1,(K77 F).erase,[.tmp 2]⟩
abbrev K78 (F : Nat → Nat) : KC := .seq (.region [⟨some 2,.p (.mov (.val (.int .i64 (.ofNat 0)))),none⟩] [] [0])
 (.seq (.region [⟨some 3,.p (.mov (.tmp 0)),none⟩,⟨some 4,.e (.call (F 3) [(.tmp 3),(.val (.int .i64 (.ofNat 0)))]),none⟩,⟨some 5,.p (.field1 2 (.tmp 4)),none⟩,⟨some 2,.p (.mov (.tmp 5)),none⟩] [] [2])
 (.ret))
def M78 (F : Nat → Nat) : Fun := ⟨6,1,(K78 F).erase,[.tmp 2]⟩
theorem ok78 {F : Nat → Nat} : (K78 F).ok = true := rfl
abbrev K79 (_F : Nat → Nat) : KC := .seq (.region [⟨some 6,.p (.mov (.val (.int .i64 (.ofNat 0)))),none⟩,⟨some 7,.p (.mov (.val (.bool false))),none⟩] [] [0,1,2])
 (.seq (.region [⟨some 12,.p (.mov (.tmp 0)),none⟩,⟨some 13,.p (.lenb (.tmp 12)),none⟩,⟨some 8,.p (.mov (.tmp 13)),none⟩] [] [0,1,2,8])
 (.seq (.region [⟨some 14,.p (.mov (.tmp 8)),none⟩,⟨some 9,.p (.mov (.val (.int .i64 (.ofNat 0)))),none⟩,⟨some 10,.p (.mov (.tmp 14)),none⟩] [] [0,1,2,8,9,10])
 (.seq (.block 0 (.loop (.seq (.seq (.region [⟨some 15,.p (.mov (.tmp 9)),none⟩,⟨some 16,.p (.mov (.tmp 10)),none⟩,⟨some 17,.p (.bin .lss (.tmp 15) (.tmp 16)),none⟩] [] [0,1,2,8,9,10,17])
 (.cond (.tmp 17) (.skip)
 (.exit 0)))
 (.block 1 (.seq (.region [⟨some 18,.p (.mov (.tmp 9)),none⟩,⟨some 19,.p (.mov (.tmp 10)),none⟩,⟨some 20,.p (.bin .add (.tmp 18) (.tmp 19)),none⟩,⟨some 21,.p (.conv (.int .u64) (.tmp 20)),none⟩,⟨some 22,.p (.bin .shr (.tmp 21) (.val (.int .u64 (.ofNat 1)))),none⟩,⟨some 23,.p (.conv (.int .i64) (.tmp 22)),none⟩,⟨some 11,.p (.mov (.tmp 23)),none⟩] [] [0,1,2,8,9,10,11])
 (.seq (.region [⟨some 24,.p (.mov (.tmp 2)),none⟩,⟨some 25,.p (.mov (.tmp 0)),none⟩,⟨some 26,.p (.mov (.tmp 11)),none⟩,⟨some 27,.p (.iaddr 1 (.tmp 25) (.tmp 26)),none⟩,⟨some 28,.load1 (.tmp 27),none⟩,⟨some 29,.p (.mov (.tmp 1)),none⟩,⟨some 30,.e (.callv (.tmp 24) [(.tmp 28),(.tmp 29)]),none⟩,⟨some 31,.p (.bin .lss (.tmp 30) (.val (.int .i64 (.ofNat 0)))),none⟩] [] [0,1,2,8,9,10,11,31])
 (.cond (.tmp 31) (.region [⟨some 32,.p (.mov (.tmp 11)),none⟩,⟨some 33,.p (.bin .add (.tmp 32) (.val (.int .i64 (.ofNat 1)))),none⟩,⟨some 9,.p (.mov (.tmp 33)),none⟩] [] [0,1,2,8,9,10])
 (.region [⟨some 34,.p (.mov (.tmp 11)),none⟩,⟨some 10,.p (.mov (.tmp 34)),none⟩] [] [0,1,2,8,9,10]))))))))
 (.seq (.region [⟨some 35,.p (.mov (.tmp 9)),none⟩,⟨some 36,.p (.mov (.tmp 9)),none⟩,⟨some 37,.p (.mov (.tmp 8)),none⟩,⟨some 38,.p (.bin .lss (.tmp 36) (.tmp 37)),none⟩,⟨some 39,.p (.mov (.tmp 38)),none⟩,⟨some 40,.p (.mov (.tmp 2)),(some (39,true))⟩,⟨some 41,.p (.mov (.tmp 0)),(some (39,true))⟩,⟨some 42,.p (.mov (.tmp 9)),(some (39,true))⟩,⟨some 43,.p (.iaddr 1 (.tmp 41) (.tmp 42)),(some (39,true))⟩,⟨some 44,.load1 (.tmp 43),(some (39,true))⟩,⟨some 45,.p (.mov (.tmp 1)),(some (39,true))⟩,⟨some 46,.e (.callv (.tmp 40) [(.tmp 44),(.tmp 45)]),(some (39,true))⟩,⟨some 47,.p (.bin .eql (.tmp 46) (.val (.int .i64 (.ofNat 0)))),(some (39,true))⟩,⟨some 48,.p (.pick (.tmp 39) (.tmp 47) (.val (.bool false))),none⟩,⟨some 6,.p (.mov (.tmp 35)),none⟩,⟨some 7,.p (.mov (.tmp 48)),none⟩] [] [6,7])
 (.ret)))))
def M79 (F : Nat → Nat) : Fun := ⟨49,3,(K79 F).erase,[.tmp 6,.tmp 7]⟩
theorem ok79 {F : Nat → Nat} : (K79 F).ok = true := rfl
abbrev K80 (F : Nat → Nat) : KC := .seq (.region [⟨some 4,.p (.mov (.val (.int .i64 (.ofNat 0)))),none⟩] [] [0,1])
 (.seq (.region [⟨some 5,.p (.mov (.tmp 0)),none⟩,⟨some 6,.e (.call (F 78) [(.tmp 5)]),none⟩,⟨some 7,.p (.mov (.tmp 1)),none⟩,⟨some 8,.e (.call (F 10) [(.tmp 6),(.tmp 7)]),none⟩,⟨some 4,.p (.mov (.tmp 8)),none⟩] [] [4])
 (.ret))
def M80 (F : Nat → Nat) : Fun := ⟨9,2,(K80 F).erase,[.tmp 4]⟩
theorem ok80 {F : Nat → Nat} : (K80 F).ok = true := rfl
abbrev K81 (F : Nat → Nat) : KC := .seq (.region [⟨some 6,.p (.mov (.val (.nilslice))),none⟩] [] [0,1,2])
 (.seq (.region [⟨some 10,.p (.mov (.tmp 0)),none⟩,⟨some 11,.p (.mov (.tmp 1)),none⟩,⟨some 12,.p (.slc 1 (.tmp 10) (some (.tmp 11)) none none),none⟩] [] [0,1,2])
 (.seq (.region [⟨some 13,.p (.mov (.tmp 2)),none⟩,⟨some 14,.p (.lenb (.tmp 13)),none⟩,⟨some 7,.p (.mov (.tmp 14)),none⟩] [] [0,1,2,7])
 (.seq (.seq (.region [⟨some 15,.p (.mov (.tmp 7)),none⟩,⟨some 16,.p (.bin .eql (.tmp 15) (.val (.int .i64 (.ofNat 0)))),none⟩] [] [0,1,2,7,16])
 (.cond (.tmp 16) (.seq (.region [⟨some 17,.p (.mov (.tmp 0)),none⟩,⟨some 6,.p (.mov (.tmp 17)),none⟩] [] [6])
 (.ret))
 (.skip)))
 (.seq (.region [⟨some 18,.p (.mov (.tmp 0)),none⟩,⟨some 19,.p (.lenb (.tmp 18)),none⟩,⟨some 8,.p (.mov (.tmp 19)),none⟩] [] [0,1,2,7,8])
 (.seq (.seq (.region [⟨some 20,.p (.mov (.tmp 1)),none⟩,⟨some 21,.p (.mov (.tmp 8)),none⟩,⟨some 22,.p (.bin .eql (.tmp 20) (.tmp 21)),none⟩] [] [0,1,2,7,8,22])
 (.cond (.tmp 22) (.seq (.region [⟨some 23,.p (.mov (.tmp 0)),none⟩,⟨some 24,.p (.mov (.tmp 2)),none⟩,⟨some 25,.e (.append 1 24 (.tmp 23) (.tmp 24)),none⟩,⟨some 6,.p (.mov (.tmp 25)),none⟩] [] [6])
 (.ret))
 (.skip)))
 (.seq (.seq (.region [⟨some 26,.p (.mov (.tmp 8)),none⟩,⟨some 27,.p (.mov (.tmp 7)),none⟩,⟨some 28,.p (.bin .add (.tmp 26) (.tmp 27)),none⟩,⟨some 29,.p (.mov (.tmp 0)),none⟩,⟨some 30,.p (.caps (.tmp 29)),none⟩,⟨some 31,.p (.bin .gtr (.tmp 28) (.tmp 30)),none⟩] [] [0,1,2,7,8,31])
 (.cond (.tmp 31) (.seq (.region [⟨some 32,.p (.mov (.tmp 0)),none⟩,⟨some 33,.p (.mov (.tmp 1)),none⟩,⟨some 34,.p (.slc 1 (.tmp 32) none (some (.tmp 33)) none),none⟩,⟨some 35,.p (.mov (.tmp 8)),none⟩,⟨some 36,.p (.mov (.tmp 7)),none⟩,⟨some 37,.p (.bin .add (.tmp 35) (.tmp 36)),none⟩,⟨some 38,.p (.mov (.tmp 1)),none⟩,⟨some 39,.p (.bin .sub (.tmp 37) (.tmp 38)),none⟩,⟨some 40,.e (.appendz [.nilslice] 1 24 (.tmp 34) (.tmp 39)),none⟩,⟨some 9,.p (.mov (.tmp 40)),none⟩] [] [0,1,2,7,9])
 (.seq (.region [⟨some 41,.p (.mov (.tmp 9)),none⟩,⟨some 42,.p (.mov (.tmp 1)),none⟩,⟨some 43,.p (.slc 1 (.tmp 41) (some (.tmp 42)) none none),none⟩,⟨some 44,.p (.mov (.tmp 2)),none⟩,⟨some 45,.e (.copy 1 (.tmp 43) (.tmp 44)),none⟩] [] [0,1,7,9])
 (.seq (.dregion [⟨⟨some 46,.p (.mov (.tmp 9)),none⟩,0,8⟩,⟨⟨some 47,.p (.mov (.tmp 1)),none⟩,0,8⟩,⟨⟨some 48,.p (.mov (.tmp 7)),none⟩,0,8⟩,⟨⟨some 49,.p (.bin .add (.tmp 47) (.tmp 48)),none⟩,0,8⟩,⟨⟨some 50,.p (.slc 1 (.tmp 46) (some (.tmp 49)) none none),none⟩,0,8⟩,⟨⟨some 51,.p (.mov (.tmp 0)),none⟩,0,8⟩,⟨⟨some 52,.p (.mov (.tmp 1)),none⟩,0,8⟩,⟨⟨some 53,.p (.slc 1 (.tmp 51) (some (.tmp 52)) none none),none⟩,0,8⟩,⟨⟨some 54,.e (.copy 1 (.tmp 50) (.tmp 53)),none⟩,0,9⟩] [9])
 (.seq (.region [⟨some 55,.p (.mov (.tmp 9)),none⟩,⟨some 6,.p (.mov (.tmp 55)),none⟩] [] [6])
 (.ret)))))
 (.skip)))
 (.seq (.region [⟨some 56,.p (.mov (.tmp 0)),none⟩,⟨some 57,.p (.mov (.tmp 8)),none⟩,⟨some 58,.p (.mov (.tmp 7)),none⟩,⟨some 59,.p (.bin .add (.tmp 57) (.tmp 58)),none⟩,⟨some 60,.p (.slc 1 (.tmp 56) none (some (.tmp 59)) none),none⟩,⟨some 0,.p (.mov (.tmp 60)),none⟩] [] [0,1,2,7,8])
 (.seq (.seq (.region [⟨some 61,.p (.mov (.tmp 2)),none⟩,⟨some 62,.p (.mov (.tmp 0)),none⟩,⟨some 63,.p (.mov (.tmp 1)),none⟩,⟨some 64,.p (.mov (.tmp 7)),none⟩,⟨some 65,.p (.bin .add (.tmp 63) (.tmp 64)),none⟩,⟨some 66,.p (.slc 1 (.tmp 62) (some (.tmp 65)) none none),none⟩,⟨some 67,.e (.extern (F 83) [(.tmp 61),(.tmp 66)]),none⟩,⟨some 68,.p (.not (.tmp 67)),none⟩] [] [0,1,2,7,8,68])
 (.cond (.tmp 68) (.seq (.dregion [⟨⟨some 69,.p (.mov (.tmp 0)),none⟩,0,8⟩,⟨⟨some 70,.p (.mov (.tmp 1)),none⟩,0,8⟩,⟨⟨some 71,.p (.mov (.tmp 7)),none⟩,0,8⟩,⟨⟨some 72,.p (.bin .add (.tmp 70) (.tmp 71)),none⟩,0,8⟩,⟨⟨some 73,.p (.slc 1 (.tmp 69) (some (.tmp 72)) none none),none⟩,0,8⟩,⟨⟨some 74,.p (.mov (.tmp 0)),none⟩,0,8⟩,⟨⟨some 75,.p (.mov (.tmp 1)),none⟩,0,8⟩,⟨⟨some 76,.p (.slc 1 (.tmp 74) (some (.tmp 75)) none none),none⟩,0,8⟩,⟨⟨some 77,.e (.copy 1 (.tmp 73) (.tmp 76)),none⟩,0,9⟩] [0,1,2])
 (.seq (.region [⟨some 78,.p (.mov (.tmp 0)),none⟩,⟨some 79,.p (.mov (.tmp 1)),none⟩,⟨some 80,.p (.slc 1 (.tmp 78) (some (.tmp 79)) none none),none⟩,⟨some 81,.p (.mov (.tmp 2)),none⟩,⟨some 82,.e (.copy 1 (.tmp 80) (.tmp 81)),none⟩] [] [0])
 (.seq (.region [⟨some 83,.p (.mov (.tmp 0)),none⟩,⟨some 6,.p (.mov (.tmp 83)),none⟩] [] [6])
 (.ret))))
 (.skip)))
 (.seq (.region [⟨some 84,.p (.mov (.tmp 0)),none⟩,⟨some 85,.p (.mov (.tmp 8)),none⟩,⟨some 86,.p (.slc 1 (.tmp 84) (some (.tmp 85)) none none),none⟩,⟨some 87,.p (.mov (.tmp 2)),none⟩,⟨some 88,.e (.copy 1 (.tmp 86) (.tmp 87)),none⟩] [] [0,1,7])
 (.seq (.region [⟨some 89,.p (.mov (.tmp 0)),none⟩,⟨some 90,.p (.mov (.tmp 1)),none⟩,⟨some 91,.p (.slc 1 (.tmp 89) (some (.tmp 90)) none none),none⟩,⟨some 92,.p (.mov (.tmp 7)),none⟩,⟨some 93,.e (.call (F 84) [(.tmp 91),(.tmp 92)]),none⟩] [] [0])
 (.seq (.region [⟨some 94,.p (.mov (.tmp 0)),none⟩,⟨some 6,.p (.mov (.tmp 94)),none⟩] [] [6])
 (.ret))))))))))))
def M81 (F : Nat → Nat) : Fun := ⟨95,3,(K81 F).erase,[.tmp 6]⟩
theorem ok81 {F : Nat → Nat} : (K81 F).ok = true := rfl
abbrev K82 (_F : Nat → Nat) : KC := .seq (.region [⟨some 4,.p (.mov (.val (.int .i64 (.ofNat 0)))),none⟩] [] [0,1])
 (.seq (.seq (.region [⟨some 6,.p (.mov (.tmp 0)),none⟩,⟨some 7,.p (.lenb (.tmp 6)),none⟩,⟨some 8,.p (.mov (.val (.int .i64 (.ofNat 0)))),none⟩] [] [0,1,7,8])
 (.block 0 (.loop (.seq (.region [⟨some 9,.p (.bin .lss (.tmp 8) (.tmp 7)),none⟩] [] [0,1,7,8,9])
 (.seq (.cond (.tmp 9) (.skip)
 (.exit 0))
 (.seq (.block 1 (.seq (.region [⟨some 10,.p (.mov (.tmp 8)),none⟩,⟨some 5,.p (.mov (.tmp 10)),none⟩] [] [0,1,5,7,8])
 (.seq (.region [⟨some 11,.p (.mov (.tmp 1)),none⟩,⟨some 12,.p (.mov (.tmp 0)),none⟩,⟨some 13,.p (.mov (.tmp 5)),none⟩,⟨some 14,.p (.iaddr 1 (.tmp 12) (.tmp 13)),none⟩,⟨some 15,.load1 (.tmp 14),none⟩,⟨some 16,.e (.callv (.tmp 11) [(.tmp 15)]),none⟩] [] [0,1,5,7,8,16])
 (.cond (.tmp 16) (.seq (.region [⟨some 17,.p (.mov (.tmp 5)),none⟩,⟨some 4,.p (.mov (.tmp 17)),none⟩] [] [4])
 (.ret))
 (.skip)))))
 (.region [⟨some 18,.p (.bin .add (.tmp 8) (.val (.int .i64 (.ofNat 1)))),none⟩,⟨some 8,.p (.mov (.tmp 18)),none⟩] [] [0,1,7,8])))))))
 (.seq (.region [⟨some 4,.p (.mov (.val (.int .i64 (.negSucc 0)))),none⟩] [] [4])
 (.ret)))
def M82 (F : Nat → Nat) : Fun := ⟨19,2,(K82 F).erase,[.tmp 4]⟩
theorem ok82 {F : Nat → Nat} : (K82 F).ok = true := rfl
abbrev K84 (F : Nat → Nat) : KC := .region [⟨some 4,.p (.mov (.tmp 0)),none⟩,⟨some 5,.p (.mov (.tmp 0)),none⟩,⟨some 6,.p (.lenb (.tmp 5)),none⟩,⟨some 7,.p (.mov (.tmp 1)),none⟩,⟨some 8,.p (.bin .sub (.tmp 6) (.tmp 7)),none⟩,⟨some 9,.e (.call (F 85) [(.tmp 4),(.tmp 8)]),none⟩] [] []
def M84 (F : Nat → Nat) : Fun := ⟨10,2,(K84 F).erase,[]⟩
abbrev K85 (F : Nat → Nat) : KC := .seq (.region [⟨some 4,.p (.mov (.tmp 0)),none⟩,⟨some 5,.p (.mov (.tmp 1)),none⟩,⟨some 6,.p (.slc 1 (.tmp 4) none (some (.tmp 5)) none),none⟩,⟨some 7,.e (.call (F 86) [(.tmp 6)]),none⟩] [] [0,1])
 (.seq (.region [⟨some 8,.p (.mov (.tmp 0)),none⟩,⟨some 9,.p (.mov (.tmp 1)),none⟩,⟨some 10,.p (.slc 1 (.tmp 8) (some (.tmp 9)) none none),none⟩,⟨some 11,.e (.call (F 86) [(.tmp 10)]),none⟩] [] [0])
 (.region [⟨some 12,.p (.mov (.tmp 0)),none⟩,⟨some 13,.e (.call (F 86) [(.tmp 12)]),none⟩] [] []))
def M85 (F : Nat → Nat) : Fun := ⟨14,2,(K85 F).erase,[]⟩
abbrev K86 (_F : Nat → Nat) : KC := .seq (.region [⟨some 4,.p (.mov (.tmp 0)),none⟩,⟨some 5,.p (.lenb (.tmp 4)),none⟩,⟨some 6,.p (.bin .sub (.tmp 5) (.val (.int .i64 (.ofNat 1)))),none⟩,⟨some 2,.p (.mov (.val (.int .i64 (.ofNat 0)))),none⟩,⟨some 3,.p (.mov (.tmp 6)),none⟩] [] [0,2,3])
 (.block 0 (.loop (.seq (.seq (.region [⟨some 7,.p (.mov (.tmp 2)),none⟩,⟨some 8,.p (.mov (.tmp 3)),none⟩,⟨some 9,.p (.bin .lss (.tmp 7) (.tmp 8)),none⟩] [] [0,2,3,9])
 (.cond (.tmp 9) (.skip)
 (.exit 0)))
 (.seq (.block 1 (.dregion [⟨⟨some 14,.p (.mov (.tmp 0)),none⟩,0,11⟩,⟨⟨some 15,.p (.mov (.tmp 2)),none⟩,0,11⟩,⟨⟨some 18,.p (.mov (.tmp 0)),none⟩,0,11⟩,⟨⟨some 19,.p (.mov (.tmp 3)),none⟩,0,11⟩,⟨⟨some 20,.p (.iaddr 1 (.tmp 18) (.tmp 19)),none⟩,0,11⟩,⟨⟨some 21,.load1 (.tmp 20),none⟩,0,11⟩,⟨⟨some 22,.p (.mov (.tmp 0)),none⟩,0,11⟩,⟨⟨some 23,.p (.mov (.tmp 2)),none⟩,0,11⟩,⟨⟨some 24,.p (.iaddr 1 (.tmp 22) (.tmp 23)),none⟩,0,11⟩,⟨⟨some 25,.load1 (.tmp 24),none⟩,0,11⟩,⟨⟨some 26,.p (.iaddr 1 (.tmp 14) (.tmp 15)),none⟩,0,11⟩,⟨⟨none,.e (.store 1 (.tmp 26) (.tmp 21)),none⟩,0,15⟩,⟨⟨some 16,.p (.mov (.tmp 0)),none⟩,0,15⟩,⟨⟨some 17,.p (.mov (.tmp 3)),none⟩,0,15⟩,⟨⟨some 27,.p (.iaddr 1 (.tmp 16) (.tmp 17)),none⟩,12,15⟩,⟨⟨none,.e (.store 1 (.tmp 27) (.tmp 25)),none⟩,12,16⟩] [0,2,3]))
 (.region [⟨some 10,.p (.mov (.tmp 2)),none⟩,⟨some 11,.p (.bin .add (.tmp 10) (.val (.int .i64 (.ofNat 1)))),none⟩,⟨some 12,.p (.mov (.tmp 3)),none⟩,⟨some 13,.p (.bin .sub (.tmp 12) (.val (.int .i64 (.ofNat 1)))),none⟩,⟨some 2,.p (.mov (.tmp 11)),none⟩,⟨some 3,.p (.mov (.tmp 13)),none⟩] [] [0,2,3])))))
def M86 (F : Nat → Nat) : Fun := ⟨28,1,(K86 F).erase,[]⟩
end Go.Lib
end

section
namespace Go.Lib
open Go.Vm Go.Dv
set_option maxRecDepth 100000
abbrev K65 (F : Nat → Nat) : KC := .seq (.region [⟨some 2,.a (.box (.tmp 0)),none⟩,⟨some 4,.p (.mov (.val (.int .i64 (.ofNat 0)))),none⟩] [2] [1,2])
 (.seq (.seq (.region [⟨some 6,.p (.faddr 0 (.tmp 2)),none⟩,⟨some 7,.load1 (.tmp 6),none⟩] [] [1,2,7])
 (.block 0 (.seq (.region [⟨some 9,.p (.bin .eql (.tmp 7) (.val (.int .i64 (.ofNat 1)))),none⟩,⟨some 8,.p (.mov (.tmp 9)),none⟩] [] [1,2,7,8])
 (.cond (.tmp 8) (.seq (.region [⟨some 4,.p (.mov (.val (.int .i64 (.ofNat 1)))),none⟩] [] [4])
 (.ret))
 (.seq (.region [⟨some 11,.p (.bin .eql (.tmp 7) (.val (.int .i64 (.ofNat 2)))),none⟩,⟨some 10,.p (.mov (.tmp 11)),none⟩] [] [1,2,7,10])
 (.cond (.tmp 10) (.seq (.region [⟨some 12,.p (.mov (.tmp 1)),none⟩,⟨some 13,.p (.faddr 1 (.tmp 2)),none⟩,⟨some 14,.load1 (.tmp 13),none⟩,⟨some 15,.e (.call (F 3) [(.tmp 12),(.tmp 14)]),none⟩,⟨some 5,.a (.new [.bool false,.int .i64 (.ofNat 0),.int .i64 (.ofNat 0),.nilslice]),none⟩,⟨none,.e (.store 4 (.tmp 5) (.tmp 15)),none⟩] [] [2,5])
 (.seq (.seq (.region [⟨some 16,.p (.faddr 0 (.tmp 5)),none⟩,⟨some 17,.load1 (.tmp 16),none⟩] [] [2,5,17])
 (.cond (.tmp 17) (.seq (.region [⟨some 4,.p (.mov (.val (.int .i64 (.ofNat 3)))),none⟩] [] [4])
 (.ret))
 (.skip)))
 (.seq (.dregion [⟨⟨some 20,.loadn 4 (.tmp 5),none⟩,0,3⟩,⟨⟨some 21,.p (.faddr 3 (.tmp 2)),none⟩,0,3⟩,⟨⟨some 22,.loadn 4 (.tmp 21),none⟩,0,3⟩,⟨⟨some 23,.e (.call (F 1) [(.tmp 20),(.tmp 22)]),none⟩,0,6⟩,⟨⟨some 18,.p (.faddr 2 (.tmp 2)),none⟩,0,6⟩,⟨⟨some 19,.load1 (.tmp 18),none⟩,0,6⟩,⟨⟨some 24,.e (.call (F 66) [(.tmp 19),(.tmp 23)]),none⟩,4,7⟩,⟨⟨some 25,.e (.call (F 67) [(.tmp 24)]),none⟩,7,9⟩,⟨⟨some 4,.p (.mov (.tmp 25)),none⟩,8,9⟩] [4])
 (.ret))))
 (.seq (.region [⟨some 27,.p (.bin .eql (.tmp 7) (.val (.int .i64 (.ofNat 3)))),none⟩,⟨some 26,.p (.mov (.tmp 27)),none⟩] [] [1,2,7,26])
 (.cond (.tmp 26) (.seq (.region [⟨some 28,.p (.mov (.tmp 1)),none⟩,⟨some 29,.p (.faddr 1 (.tmp 2)),none⟩,⟨some 30,.load1 (.tmp 29),none⟩,⟨some 31,.e (.call (F 3) [(.tmp 28),(.tmp 30)]),none⟩,⟨some 32,.p (.field1 0 (.tmp 31)),none⟩,⟨some 33,.e (.call (F 67) [(.tmp 32)]),none⟩,⟨some 4,.p (.mov (.tmp 33)),none⟩] [] [4])
 (.ret))
 (.seq (.region [⟨some 35,.p (.bin .eql (.tmp 7) (.val (.int .i64 (.ofNat 4)))),none⟩,⟨some 34,.p (.mov (.tmp 35)),none⟩] [] [1,2,7,34])
 (.cond (.tmp 34) (.seq (.region [⟨some 36,.loadn 8 (.tmp 2),none⟩,⟨some 37,.p (.mov (.tmp 1)),none⟩,⟨some 38,.e (.call (F 68) [(.tmp 36),(.tmp 37),(.val (.int .i64 (.ofNat 2))),(.val (.int .i64 (.ofNat 1)))]),none⟩,⟨some 4,.p (.mov (.tmp 38)),none⟩] [] [4])
 (.ret))
 (.seq (.region [⟨some 40,.p (.bin .eql (.tmp 7) (.val (.int .i64 (.ofNat 5)))),none⟩,⟨some 39,.p (.mov (.tmp 40)),none⟩] [] [1,2,7,39])
 (.cond (.tmp 39) (.seq (.region [⟨some 41,.loadn 8 (.tmp 2),none⟩,⟨some 42,.p (.mov (.tmp 1)),none⟩,⟨some 43,.e (.call (F 68) [(.tmp 41),(.tmp 42),(.val (.int .i64 (.ofNat 1))),(.val (.int .i64 (.ofNat 2)))]),none⟩,⟨some 4,.p (.mov (.tmp 43)),none⟩] [] [4])
 (.ret))
 (.seq (.region [⟨some 45,.p (.bin .eql (.tmp 7) (.val (.int .i64 (.ofNat 6)))),none⟩,⟨some 44,.p (.mov (.tmp 45)),none⟩] [] [1,2,44])
 (.cond (.tmp 44) (.seq (.region [⟨some 46,.p (.faddr 7 (.tmp 2)),none⟩,⟨some 47,.load1 (.tmp 46),none⟩,⟨some 48,.p (.lenb (.tmp 47)),none⟩,⟨some 49,.p (.bin .gtr (.tmp 48) (.val (.int .i64 (.ofNat 0)))),none⟩] [] [1,2,49])
 (.cond (.tmp 49) (.seq (.region [⟨some 50,.p (.faddr 7 (.tmp 2)),none⟩,⟨some 51,.load1 (.tmp 50),none⟩,⟨some 52,.p (.iaddr 8 (.tmp 51) (.val (.int .i64 (.ofNat 0)))),none⟩,⟨some 53,.loadn 8 (.tmp 52),none⟩,⟨some 54,.p (.mov (.tmp 1)),none⟩,⟨some 55,.e (.call (F 65) [(.tmp 53),(.tmp 54)]),none⟩,⟨some 56,.e (.call (F 69) [(.tmp 55)]),none⟩,⟨some 4,.p (.mov (.tmp 56)),none⟩] [] [4])
 (.ret))
 (.skip)))
 (.skip)))))))))))))))
 (.seq (.region [⟨some 4,.p (.mov (.val (.int .i64 (.ofNat 3)))),none⟩] [] [4])
 (.ret)))
def M65 (F : Nat → Nat) : Fun := ⟨57,2,(K65 F).erase,[.tmp 4]⟩
theorem ok65 {F : Nat → Nat} : (K65 F).ok = true := rfl
abbrev K66 (_F : Nat → Nat) : KC := .seq (.region [⟨some 4,.p (.mov (.val (.bool false))),none⟩] [] [0,1])
 (.seq (.seq (.region [⟨some 5,.p (.mov (.tmp 0)),none⟩] [] [1,5])
 (.block 0 (.seq (.region [⟨some 7,.p (.bin .eql (.tmp 5) (.val (.int .i64 (.ofNat 1)))),none⟩,⟨some 6,.p (.mov (.tmp 7)),none⟩] [] [1,5,6])
 (.cond (.tmp 6) (.seq (.region [⟨some 8,.p (.mov (.tmp 1)),none⟩,⟨some 9,.p (.bin .eql (.tmp 8) (.val (.int .i64 (.ofNat 0)))),none⟩,⟨some 4,.p (.mov (.tmp 9)),none⟩] [] [4])
 (.ret))
 (.seq (.region [⟨some 11,.p (.bin .eql (.tmp 5) (.val (.int .i64 (.ofNat 2)))),none⟩,⟨some 10,.p (.mov (.tmp 11)),none⟩] [] [1,5,10])
 (.cond (.tmp 10) (.seq (.region [⟨some 12,.p (.mov (.tmp 1)),none⟩,⟨some 13,.p (.bin .neq (.tmp 12) (.val (.int .i64 (.ofNat 0)))),none⟩,⟨some 4,.p (.mov (.tmp 13)),none⟩] [] [4])
 (.ret))
 (.seq (.region [⟨some 15,.p (.bin .eql (.tmp 5) (.val (.int .i64 (.ofNat 3)))),none⟩,⟨some 14,.p (.mov (.tmp 15)),none⟩] [] [1,5,14])
 (.cond (.tmp 14) (.seq (.region [⟨some 16,.p (.mov (.tmp 1)),none⟩,⟨some 17,.p (.bin .lss (.tmp 16) (.val (.int .i64 (.ofNat 0)))),none⟩,⟨some 4,.p (.mov (.tmp 17)),none⟩] [] [4])
 (.ret))
 (.seq (.region [⟨some 19,.p (.bin .eql (.tmp 5) (.val (.int .i64 (.ofNat 4)))),none⟩,⟨some 18,.p (.mov (.tmp 19)),none⟩] [] [1,5,18])
 (.cond (.tmp 18) (.seq (.region [⟨some 20,.p (.mov (.tmp 1)),none⟩,⟨some 21,.p (.bin .leq (.tmp 20) (.val (.int .i64 (.ofNat 0)))),none⟩,⟨some 4,.p (.mov (.tmp 21)),none⟩] [] [4])
 (.ret))
 (.seq (.region [⟨some 23,.p (.bin .eql (.tmp 5) (.val (.int .i64 (.ofNat 5)))),none⟩,⟨some 22,.p (.mov (.tmp 23)),none⟩] [] [1,5,22])
 (.cond (.tmp 22) (.seq (.region [⟨some 24,.p (.mov (.tmp 1)),none⟩,⟨some 25,.p (.bin .gtr (.tmp 24) (.val (.int .i64 (.ofNat 0)))),none⟩,⟨some 4,.p (.mov (.tmp 25)),none⟩] [] [4])
 (.ret))
 (.seq (.region [⟨some 27,.p (.bin .eql (.tmp 5) (.val (.int .i64 (.ofNat 6)))),none⟩,⟨some 26,.p (.mov (.tmp 27)),none⟩] [] [1,26])
 (.cond (.tmp 26) (.seq (.region [⟨some 28,.p (.mov (.tmp 1)),none⟩,⟨some 29,.p (.bin .geq (.tmp 28) (.val (.int .i64 (.ofNat 0)))),none⟩,⟨some 4,.p (.mov (.tmp 29)),none⟩] [] [4])
 (.ret))
 (.skip)))))))))))))))
 (.seq (.region [⟨some 4,.p (.mov (.val (.bool false))),none⟩] [] [4])
 (.ret)))
def M66 (F : Nat → Nat) : Fun := ⟨30,2,(K66 F).erase,[.tmp 4]⟩
theorem ok66 {F : Nat → Nat} : (K66 F).ok = true := rfl
abbrev K67 (_F : Nat → Nat) : KC := .seq (.region [⟨some 2,.p (.mov (.val (.int .i64 (.ofNat 0)))),none⟩] [] [0])
 (.seq (.seq (.region [⟨some 3,.p (.mov (.tmp 0)),none⟩] [] [3])
 (.cond (.tmp 3) (.seq (.region [⟨some 2,.p (.mov (.val (.int .i64 (.ofNat 1)))),none⟩] [] [2])
 (.ret))
 (.skip)))
 (.seq (.region [⟨some 2,.p (.mov (.val (.int .i64 (.ofNat 2)))),none⟩] [] [2])
 (.ret)))
def M67 (F : Nat → Nat) : Fun := ⟨4,1,(K67 F).erase,[.tmp 2]⟩
theorem ok67 {F : Nat → Nat} : (K67 F).ok = true := rfl
abbrev K68 (F : Nat → Nat) : KC := .seq (.region [⟨some 4,.a (.box (.tmp 0)),none⟩,⟨some 8,.p (.mov (.val (.int .i64 (.ofNat 0)))),none⟩] [4] [1,2,3,4])
 (.seq (.region [⟨some 13,.p (.mov (.tmp 3)),none⟩,⟨some 9,.p (.mov (.tmp 13)),none⟩] [] [1,2,4,9])
 (.seq (.seq (.region [⟨some 14,.p (.faddr 7 (.tmp 4)),none⟩,⟨some 15,.load1 (.tmp 14),none⟩,⟨some 16,.p (.lenb (.tmp 15)),none⟩,⟨some 17,.p (.mov (.val (.int .i64 (.ofNat 0)))),none⟩] [] [1,2,9,15,16,17])
 (.block 0 (.loop (.seq (.region [⟨some 18,.p (.bin .lss (.tmp 17) (.tmp 16)),none⟩] [] [1,2,9,15,16,17,18])
 (.seq (.cond (.tmp 18) (.skip)
 (.exit 0))
 (.seq (.block 1 (.seq (.region [⟨some 19,.p (.iaddr 8 (.tmp 15) (.tmp 17)),none⟩,⟨some 20,.loadn 8 (.tmp 19),none⟩,⟨some 11,.a (.new [.int .i64 (.ofNat 0),.int .i64 (.ofNat 0),.int .i64 (.ofNat 0),.bool false,.int .i64 (.ofNat 0),.int .i64 (.ofNat 0),.nilslice,.nilslice]),none⟩,⟨none,.e (.store 8 (.tmp 11) (.tmp 20)),none⟩] [] [1,2,9,11,15,16,17])
 (.seq (.region [⟨some 21,.loadn 8 (.tmp 11),none⟩,⟨some 22,.p (.mov (.tmp 1)),none⟩,⟨some 23,.e (.call (F 65) [(.tmp 21),(.tmp 22)]),none⟩,⟨some 12,.p (.mov (.tmp 23)),none⟩] [] [1,2,9,12,15,16,17])
 (.seq (.region [⟨some 24,.p (.mov (.tmp 12)),none⟩] [] [1,2,9,15,16,17,24])
 (.block 2 (.seq (.region [⟨some 26,.p (.mov (.tmp 2)),none⟩,⟨some 27,.p (.bin .eql (.tmp 24) (.tmp 26)),none⟩,⟨some 25,.p (.mov (.tmp 27)),none⟩] [] [1,2,9,15,16,17,24,25])
 (.cond (.tmp 25) (.seq (.region [⟨some 28,.p (.mov (.tmp 2)),none⟩,⟨some 8,.p (.mov (.tmp 28)),none⟩] [] [8])
 (.ret))
 (.seq (.region [⟨some 30,.p (.bin .eql (.tmp 24) (.val (.int .i64 (.ofNat 3)))),none⟩,⟨some 29,.p (.mov (.tmp 30)),none⟩] [] [1,2,9,15,16,17,29])
 (.cond (.tmp 29) (.region [⟨some 9,.p (.mov (.val (.int .i64 (.ofNat 3)))),none⟩] [] [1,2,9,15,16,17])
 (.skip))))))))))
 (.region [⟨some 31,.p (.bin .add (.tmp 17) (.val (.int .i64 (.ofNat 1)))),none⟩,⟨some 17,.p (.mov (.tmp 31)),none⟩] [] [1,2,9,15,16,17])))))))
 (.seq (.region [⟨some 32,.p (.mov (.tmp 9)),none⟩,⟨some 8,.p (.mov (.tmp 32)),none⟩] [] [8])
 (.ret))))
def M68 (F : Nat → Nat) : Fun := ⟨33,4,(K68 F).erase,[.tmp 8]⟩
theorem ok68 {F : Nat → Nat} : (K68 F).ok = true := rfl
abbrev K69 (_F : Nat → Nat) : KC := .seq (.region [⟨some 2,.p (.mov (.val (.int .i64 (.ofNat 0)))),none⟩] [] [0])
 (.seq (.seq (.region [⟨some 3,.p (.mov (.tmp 0)),none⟩] [] [3])
 (.block 0 (.seq (.region [⟨some 5,.p (.bin .eql (.tmp 3) (.val (.int .i64 (.ofNat 1)))),none⟩,⟨some 4,.p (.mov (.tmp 5)),none⟩] [] [3,4])
 (.cond (.tmp 4) (.seq (.region [⟨some 2,.p (.mov (.val (.int .i64 (.ofNat 2)))),none⟩] [] [2])
 (.ret))
 (.seq (.region [⟨some 7,.p (.bin .eql (.tmp 3) (.val (.int .i64 (.ofNat 2)))),none⟩,⟨some 6,.p (.mov (.tmp 7)),none⟩] [] [6])
 (.cond (.tmp 6) (.seq (.region [⟨some 2,.p (.mov (.val (.int .i64 (.ofNat 1)))),none⟩] [] [2])
 (.ret))
 (.skip)))))))
 (.seq (.region [⟨some 2,.p (.mov (.val (.int .i64 (.ofNat 3)))),none⟩] [] [2])
 (.ret)))
def M69 (F : Nat → Nat) : Fun := ⟨8,1,(K69 F).erase,[.tmp 2]⟩
theorem ok69 {F : Nat → Nat} : (K69 F).ok = true := rfl
end Go.Lib
end

section
namespace Go.Lib
open Go.Vm Go.Dv
set_option maxRecDepth 100000
end Go.Lib
end
