/-
  Texts that the claim's last one rests on, joined.
-/
import Derived.Test.YtcpfgjkhjadgoaaBModlOwnh
import Derived.Test.YtcpfgjkhjadgoaaBModlOwng
import Derived.Test.YtcpfgjkhjadgoaaBModlOwnf

section
set_option maxRecDepth 10000
namespace Go.Lib
open Go.Vm Go.Dv Go.Srt
variable {p : Prog} {ext : Ext} {F : Nat → Nat}
theorem add64_ext (hx : ∀ args h, ext (F 45) args h = extV .add64 args h) {x y : Nat} : FnD p ext (F 45) [.lit (.int .u64 (x : Int)), .lit (.int .u64 (y : Int)), .lit (.int .u64 0)] (.tup [.lit (.int .u64 (((x + y) % 18446744073709551616 : Nat) : Int)), .lit (.int .u64 (((x + y) / 18446744073709551616 : Nat) : Int))]) := by
  intro H ψ S h vs s k
  simp only [VDl, VD, atomV] at k
  obtain ⟨v, r, rfl, ⟨rfl, -⟩, w, r2, rfl, ⟨rfl, -⟩, u, r3, rfl, ⟨rfl, -⟩, rfl⟩ := k
  refine wpc_ext (v := .tup [.int .u64 (((x + y) % 18446744073709551616 : Nat) : Int), .int .u64 (((x + y) / 18446744073709551616 : Nat) : Int)]) (h' := h) ?_ ⟨ψ, S, _, H, .refl, s, ?_, rfl, rfl⟩
  · rw [hx]; rfl
  · simp [VD, VDl, atomV]
theorem wr_u64m {n : Int} : wr .u64 n = n % 18446744073709551616 := by
  rw [wr_eq]; rfl
theorem wr_i64m {n : Int} (h1 : 0 ≤ n) (h2 : n < 18446744073709551616) : wr .i64 n = if n < 9223372036854775808 then n else n - 18446744073709551616 := by
  rw [wr_eq]
  have e : n % 18446744073709551616 = n := by omega
  have : IntKind.wrap .i64 n = if (decide (n % 18446744073709551616 ≥ 9223372036854775808)) = true then n % 18446744073709551616 - 18446744073709551616 else n % 18446744073709551616 := rfl
  rw [this, e]
  by_cases h : n < 9223372036854775808
  · rw [if_neg (by simp; omega), if_pos h]
  · rw [if_pos (by simp; omega), if_neg h]
theorem shr63 {n : Int} : shrI .i64 n 63 = n / 9223372036854775808 := by
  rw [shr_eq, Int.fdiv_eq_ediv_of_nonneg _ (by decide)]
  rfl
def hiT (t : Int) : D := .lit (.int .i64 (t / 18446744073709551616))
def loT (t : Int) : D := .lit (.int .u64 (t % 18446744073709551616))
def In64 (n : Int) : Prop := -9223372036854775808 ≤ n ∧ n < 9223372036854775808
theorem wide_sum {t n : Int} (hn : In64 n) : ∃ x y z q : Nat, t % 18446744073709551616 = x ∧ n % 18446744073709551616 = y ∧ (t + n) % 18446744073709551616 = z ∧ (x + y) % 18446744073709551616 = z ∧ (x + y) / 18446744073709551616 = q ∧ q ≤ 1 ∧
    t / 18446744073709551616 + (n / 9223372036854775808 + (q : Int)) = (t + n) / 18446744073709551616 := by
  unfold In64 at hn
  exact ⟨(t % 18446744073709551616).toNat, (n % 18446744073709551616).toNat, ((t + n) % 18446744073709551616).toNat, _, by omega, by omega, by omega, by omega, rfl, by omega, by omega⟩
theorem wide_add (L : HAggr p ext F) (hx : ∀ args h, ext (F 45) args h = extV .add64 args h) {H : HpD} {b : Nat} {t n : Int} (hb : H.blk b = .cells [hiT t, loT t] false) (_hlt : b < H.next) (ht : -1000000000000000000000000000000000000 < t ∧ t < 1000000000000000000000000000000000000) (hn : In64 n) : WcD p ext (F 42) [.ptr b 0, .lit (.int .i64 n)] H (fun d H' => d = .tup [] ∧ H' = H.put b (.cells [hiT (t + n), loT (t + n)] false)) := by
  refine wc_of L.h42 (M := M42) rfl ok42 rfl (sem_run 9000 _ ?_)
  simp [hb, hiT, loT, wr_u64m]
  obtain ⟨x, y, z, q, e1, e2, e3, s1, s2, s3, s4⟩ := wide_sum (t := t) hn
  rw [e1, e2, e3]
  refine sf (add64_ext hx) ?_
  rw [s1, s2]
  have hn' := hn
  unfold In64 at hn'
  have w1 : wr .i64 (q : Int) = q := by rw [wr_of] <;> omega
  have w2 : wr .i64 (n / 9223372036854775808 + (q : Int)) = n / 9223372036854775808 + (q : Int) := by rw [wr_of] <;> omega
  have w3 : wr .i64 (t / 18446744073709551616 + (n / 9223372036854775808 + (q : Int))) = (t + n) / 18446744073709551616 := by rw [s4, wr_of] <;> omega
  simp [hb, shr63, w1, w2, w3, hiT, loT]
  refine sem_ok ?_
  simp [M42]
def term (c : Int) (r : Row) : Int := if (atV r c).null = true then 0 else (atV r c).n
def sumT (c : Int) (l : List Row) : Int := (l.map (term c)).sum
def Nums (c : Int) (l : List Row) : Prop := ∀ r, r ∈ l → In64 (atV r c).n
theorem sumT_snoc {c : Int} {l : List Row} {i : Nat} {r : Row} (h : l[i]? = some r) : sumT c (l.take (i + 1)) = sumT c (l.take i) + term c r := by
  rw [List.take_add_one, h]; simp [sumT]
theorem sumT_le {c : Int} : ∀ {l : List Row}, Nums c l → -(9223372036854775808 * (l.length : Int)) ≤ sumT c l ∧ sumT c l ≤ 9223372036854775808 * (l.length : Int)
  | [], _ => by simp [sumT]
  | r :: l, h => by
    have ih := sumT_le (c := c) (l := l) fun r hr => h r (by simp [hr])
    have h0 := h r (by simp)
    unfold In64 at h0
    have : sumT c (r :: l) = term c r + sumT c l := by simp [sumT]
    rw [this, List.length_cons]
    unfold term
    split <;> omega
theorem Nums.take {c : Int} {l : List Row} (h : Nums c l) (i : Nat) : Nums c (l.take i) := fun r hr => h r (List.mem_of_mem_take hr)
instance {n : Int} : Decidable (In64 n) := by unfold In64; exact inferInstance
def numV (n : Int) : Vl := ⟨false, 1, n, [], by simp⟩
def sumV (c : Int) (l : List Row) : Vl × Bool := if In64 (sumT c l) then (numV (sumT c l), true) else (zv, false)
theorem wide_end {t : Int} (ht : -1000000000000000000000000000000000000 < t ∧ t < 1000000000000000000000000000000000000) : (¬ t / 18446744073709551616 = (wr .i64 (t % 18446744073709551616)) / 9223372036854775808) ↔ ¬ In64 t := by
  rw [wr_i64m (by omega) (by omega)]
  unfold In64
  split <;> omega
theorem wide_low {t : Int} (h : In64 t) : wr .i64 (t % 18446744073709551616) = t := by
  rw [wr_i64m (by omega) (by omega)]
  unfold In64 at h
  split <;> omega
def zeroC : List D := [.lit (.bool false), .lit (.int .i64 0), .lit (.int .i64 0), .lit .nilslice]
def SumI (H0 : HpD) (c : Int) (l : List Row) (k : Nat) (fr : FrD) (H : HpD) : Prop :=
  ∃ (i : Nat) (t : Int), k = l.length - i ∧ i ≤ l.length ∧ t = sumT c (l.take i) ∧ fr = [(1, .lit (.int .i64 c)), (4, .ptr H0.next 0), (6, .ptr (H0.next + 1) 0), (10, rowsD l), (11, .lit (.int .i64 (l.length : Int))), (12, .lit (.int .i64 (i : Int)))] ∧
    Sub H0 H ∧ H.blk (H0.next + 1) = .cells [hiT t, loT t] false ∧ H.blk H0.next = .cells zeroC false ∧ H0.next + 1 < H.next
end Go.Lib
end

section
set_option maxRecDepth 10000
namespace Go.Lib
open Go.Vm Go.Dv Go.Srt
variable {p : Prog} {ext : Ext} {F : Nat → Nat}
def setKind (v : Vl) (k : Int) : Vl := ⟨v.null, k, v.n, v.bytes, v.small⟩
def endS (sg : Int) (out v : Vl) : Vl := if v.null = true then setKind out v.kind else if out.null = true ∨ 0 < cmpV v out * sg then v else out
def nullV : Vl := ⟨true, 0, 0, [], by simp⟩
def endF (c sg : Int) (l : List Row) : Vl := (l.map fun r => atV r c).foldl (endS sg) nullV
theorem endF_snoc {c sg : Int} {l : List Row} {i : Nat} {r : Row} (h : l[i]? = some r) : endF c sg (l.take (i + 1)) = endS sg (endF c sg (l.take i)) (atV r c) := by
  rw [List.take_add_one, h]; simp [endF]
end Go.Lib
end

section
set_option maxRecDepth 10000
namespace Go.Lib
open Go.Vm Go.Dv Go.Srt
variable {p : Prog} {ext : Ext} {F : Nat → Nat}
structure Ag where
  kind : Int
  col : Int
def Ag.c (a : Ag) : List D := [.lit (.int .i64 a.kind), .lit (.int .i64 a.col)]
def agsE (l : List Ag) : List (List D) := l.map Ag.c
def agsD (l : List Ag) : D := .row 2 .p (agsE l)
theorem ags_len {l : List Ag} : (agsE l).length = l.length := by simp [agsE]
theorem lenb_ags {l : List Ag} : lenbD (agsD l) = some (.lit (.int .i64 (l.length : Int))) := by simp [agsD, ags_len]
theorem at_ags {l : List Ag} {n : Nat} : atO 2 (agsD l) (some n) = elemD (l[n]?.map Ag.c) := by simp [agsD, agsE]
theorem ag_len {a : Ag} : a.c.length = 2 := rfl
theorem ag_flats {a : Ag} : flatsD a.c = true := rfl
theorem ag_take {a : Ag} : a.c.take 2 = a.c := rfl
theorem ag_drop {a : Ag} : a.c.drop 2 = [] := rfl
attribute [simp] ags_len lenb_ags at_ags ag_len ag_flats ag_take ag_drop
def oneF (l : List Row) (a : Ag) : Vl × Bool :=
  if a.kind = 1 then (numV l.length, true) else if a.kind = 2 then sumV a.col l else if a.kind = 3 then (endF a.col (-1) l, true) else (endF a.col 1 l, true)
def AgOk (l : List Row) (a : Ag) : Prop := a.kind = 2 → Nums a.col l
theorem clip4_own (L : HSchmC p ext F) {H0 H : HpD} {s : D} {el : List (List D)} (g : Gr H0 H 4 s el) : WcD p ext (F 13) [s] H (fun d H' => Gr H0 H' 4 d el) := by
  refine wc_of L.h13 (M := M13) rfl ok13 rfl (sem_run 9000 _ ?_)
  rcases g.at_ with ⟨rfl, rfl⟩ | ⟨b, ex, el0, rfl, h1, h2, h3, h4⟩
  · simp [slc_nil]
    refine sem_ret ?_
    simp [M13]
    exact g
  · simp [slc_own]
    refine sem_ret ?_
    simp [M13]
    exact ⟨g.sub, g.len, .inr ⟨b, true, el0, rfl, h1, h2, h3, h4⟩⟩
def oks (l : List Row) (ags : List Ag) : Bool := ags.all fun a => (oneF l a).2
def vals (l : List Row) (ags : List Ag) : Row := ags.map fun a => (oneF l a).1
theorem oks_snoc {l : List Row} {ags : List Ag} {i : Nat} {a : Ag} (h : ags[i]? = some a) : oks l (ags.take (i + 1)) = (oks l (ags.take i) && (oneF l a).2) := by
  rw [List.take_add_one, h]; simp [oks]
theorem vals_snoc {l : List Row} {ags : List Ag} {i : Nat} {a : Ag} (h : ags[i]? = some a) : vals l (ags.take (i + 1)) = vals l (ags.take i) ++ [(oneF l a).1] := by
  rw [List.take_add_one, h]; simp [vals]
theorem oks_take {l : List Row} {ags : List Ag} {i : Nat} (h : oks l (ags.take i) = false) : oks l ags = false := by
  rw [oks, ← Bool.not_eq_true, List.all_eq_true] at h ⊢
  exact fun hh => h fun a ha => hh a (List.mem_of_mem_take ha)
end Go.Lib
end

section
set_option maxRecDepth 10000
namespace Go.Lib
open Go.Vm Go.Dv Go.Srt
variable {p : Prog} {ext : Ext} {F : Nat → Nat}
theorem WeakV.tup2 {d d2 : D} {H H2 : HpD} {w : V} (k : WeakV d H d2 H2) : WeakV (.tup [d, .lit w]) H (.tup [d2, .lit w]) H2 := by
  intro G ψ S h v s kv
  simp only [VD, VDl] at kv
  obtain ⟨l', rfl, x, r, rfl, kx, y, r2, rfl, ky, rfl⟩ := kv
  obtain ⟨ψ', S', x1, s1, k1⟩ := k _ ψ S h x s kx
  refine ⟨ψ', S', x1, s1, ?_⟩
  simp only [VD, VDl]
  exact ⟨_, rfl, x, _, rfl, k1, y, _, rfl, ky, rfl⟩
def cmpC (c : Int) (a b : Row) : Int := cmpV (atV a c) (atV b c)
theorem groups1 (L : HAggr p ext F) {a b : Row} {c : Int} : FnD p ext (F 38) [rowD a, rowD b, .rptr [.lit (.int .i64 c)] 0] (.lit (.int .i64 (cmpC c a b))) := by
  refine fn_of L.h38 (M := M38) rfl ok38 rfl fun H => sem_run 9000 _ ?_
  simp
  refine sem_dfn (schm_at L.schm) (by first | exact D.les_refl _ | simp) (sem_run 9000 _ ?_)
  simp
  refine sem_dfn (schm_at L.schm) (by first | exact D.les_refl _ | simp) (sem_run 9000 _ ?_)
  simp
  refine sem_dfn (schm_compare L.schm) (by first | exact D.les_refl _ | simp) (sem_run 9000 _ ?_)
  simp
  refine sem_ret ?_
  simp [M38, cmpC]
  exact .same (by simp)
def cnt (c : Int) (r : Row) (t : List Row) : Nat := 1 + (t.takeWhile fun x => decide (cmpV (atV x c) (atV r c) = 0)).length
theorem takeWhile_len {p : Row → Bool} : ∀ {t : List Row} {n : Nat}, n ≤ t.length → (∀ q x, q < n → t[q]? = some x → p x = true) → (n = t.length ∨ ∃ x, t[n]? = some x ∧ p x = false) → (t.takeWhile p).length = n
  | [], n, h, _, _ => by simp at h; simp [h]
  | x :: t, 0, _, _, h => by
    rcases h with h | ⟨y, e, hy⟩
    · simp at h
    · simp at e; subst e; simp [hy]
  | x :: t, n + 1, h1, h2, h3 => by
    have := h2 0 x (by omega) rfl
    rw [List.takeWhile_cons, if_pos this, List.length_cons, takeWhile_len (n := n) (by simpa using h1) (fun q y hq hy => h2 (q + 1) y (by omega) (by simpa using hy)) (by simpa using h3)]
theorem cnt_eq {c : Int} {r : Row} {t : List Row} {i : Nat} (h1 : 1 ≤ i) (h2 : i ≤ t.length + 1) (hq : ∀ q x, q + 1 < i → t[q]? = some x → cmpV (atV x c) (atV r c) = 0) (h3 : i = t.length + 1 ∨ ∃ x, t[i - 1]? = some x ∧ ¬ cmpV (atV x c) (atV r c) = 0) : i = cnt c r t := by
  unfold cnt
  rw [takeWhile_len (n := i - 1) (by omega) (fun q x h e => by simpa using hq q x (by omega) e) (by
    rcases h3 with h | ⟨x, e, h⟩
    · left; omega
    · right; exact ⟨x, e, by simpa using h⟩)]
  omega
def runG (c : Int) (ags : List Ag) : Nat → List Row → List Row × Bool
  | _, [] => ([], true)
  | 0, _ => ([], true)
  | w + 1, r :: t => if oks ((r :: t).take (cnt c r t)) ags then
      match runG c ags w ((r :: t).drop (cnt c r t)) with
      | (x, true) => ((atV r c :: vals ((r :: t).take (cnt c r t)) ags) :: x, true)
      | (_, false) => ([], false)
    else ([], false)
theorem runG_false {c : Int} {ags : List Ag} : ∀ {w : Nat} {l : List Row}, (runG c ags w l).2 = false → runG c ags w l = ([], false)
  | w, [], h => by unfold runG at h; cases w <;> simp at h
  | 0, _ :: _, h => by simp [runG] at h
  | w + 1, r :: t, h => by
    unfold runG at h ⊢
    split
    · rename_i hk
      rw [if_pos hk] at h
      split
      · rename_i x he
        rw [he] at h; simp at h
      · rfl
    · rfl
theorem runG_fuel {c : Int} {ags : List Ag} : ∀ {w : Nat} {l : List Row}, l.length ≤ w → runG c ags w l = runG c ags l.length l
  | w, [], _ => by cases w <;> simp [runG]
  | 0, _ :: _, h => by simp at h
  | w + 1, r :: t, h => by
    have hd : ((r :: t).drop (cnt c r t)).length ≤ t.length := by
      have : 1 ≤ cnt c r t := by unfold cnt; omega
      simp only [List.length_drop, List.length_cons]; omega
    rw [List.length_cons]
    unfold runG
    rw [runG_fuel (w := w) (by simp at h; omega), runG_fuel (w := t.length) hd]
theorem runG_step {c : Int} {ags : List Ag} {r : Row} {t : List Row} {i : Nat} (hi : i = cnt c r t) (hk : oks ((r :: t).take i) ags = true) :
    runG c ags (r :: t).length (r :: t) = if (runG c ags ((r :: t).drop i).length ((r :: t).drop i)).2 then ((atV r c :: vals ((r :: t).take i) ags) :: (runG c ags ((r :: t).drop i).length ((r :: t).drop i)).1, true) else ([], false) := by
  subst hi
  have hd : ((r :: t).drop (cnt c r t)).length ≤ t.length := by
    have : 1 ≤ cnt c r t := by unfold cnt; omega
    simp only [List.length_drop, List.length_cons]; omega
  rw [← runG_fuel hd]
  conv => lhs; rw [List.length_cons]; unfold runG
  rw [if_pos hk]
  split
  · rename_i x e; simp [e]
  · rename_i x e; simp [e]
theorem runG_stop {c : Int} {ags : List Ag} {r : Row} {t : List Row} {i : Nat} (hi : i = cnt c r t) (hk : oks ((r :: t).take i) ags = false) : runG c ags (r :: t).length (r :: t) = ([], false) := by
  subst hi
  rw [List.length_cons]; unfold runG
  rw [if_neg (by simp [hk])]
theorem rowsE_drop {l : List Row} {n : Nat} : (rowsE l).drop n = rowsE (l.drop n) := by simp [rowsE, List.map_drop]
theorem rowsE_take {l : List Row} {n : Nat} : (rowsE l).take n = rowsE (l.take n) := by simp [rowsE, List.map_take]
theorem slc_take {l : List Row} {i : Nat} (h : i ≤ l.length) : slcD 1 (rowsD l) none (some (.lit (.int .i64 (i : Int)))) none = some (rowsD (l.take i)) := by
  have := slcRow_eq (sz := 1) (m := .p) (l := rowsE l) (lo := none) (hi := some (.int .i64 (i : Int))) (mx := none)
  simp only [Option.map] at this
  rw [rowsD, this]
  simp [needH, slcRow, boundM, boundH, boundL, cutMd, ble_d, h, rowsD, rowsE_take]
theorem slc_drop {l : List Row} {i : Nat} (h : i ≤ l.length) : slcD 1 (rowsD l) (some (.lit (.int .i64 (i : Int)))) none none = some (rowsD (l.drop i)) := by
  have := slcRow_eq (sz := 1) (m := .p) (l := rowsE l) (lo := some (.int .i64 (i : Int))) (hi := none) (mx := none)
  simp only [Option.map] at this
  rw [rowsD, this]
  simp [needH, slcRow, boundM, boundH, boundL, cutMd, ble_d, h, rowsD]
  rw [← rowsE_drop, List.take_of_length_le (by simp)]
end Go.Lib
end

section
set_option maxRecDepth 10000
namespace Go.Lib
open Go.Vm Go.Dv Go.Srt
def cs2 : List Ag := [⟨1, 0⟩, ⟨2, 0⟩]
def Low (l : List Row) : Prop := ∀ r, r ∈ l → 0 ≤ (atV r 0).n ∧ (atV r 0).n ≤ 1000
theorem Low.sum : ∀ {l : List Row}, Low l → 0 ≤ sumT 0 l ∧ sumT 0 l ≤ 1000 * (l.length : Int)
  | [], _ => by simp [sumT]
  | r :: l, h => by
    have ih := Low.sum (l := l) fun r hr => h r (by simp [hr])
    have h0 := h r (by simp)
    have : sumT 0 (r :: l) = term 0 r + sumT 0 l := by simp [sumT]
    rw [this, List.length_cons]
    unfold term
    split <;> omega
theorem Low.in {l : List Row} (h : Low l) (hl : l.length < 1000000) : In64 (sumT 0 l) := by
  have := h.sum
  unfold In64; omega
def grow (x : Vl × Nat × Int) : Row := [x.1, numV x.2.1, numV x.2.2]
structure GOk (c : Int) (l : List Row) (T : List (Vl × Nat × Int)) : Prop where
  ones : ∀ x, x ∈ T → 1 ≤ x.2.1
  pos : ∀ x, x ∈ T → 0 ≤ x.2.2
  cnt : (T.map fun x => x.2.1).sum = l.length
  sum : (T.map fun x => x.2.2).sum = sumT 0 l
  up : ∀ i a b, T[i]? = some a → T[i + 1]? = some b → cmpV a.1 b.1 < 0
  hd : ∀ a, T[0]? = some a → ∃ r, l[0]? = some r ∧ a.1 = atV r c
def cS (T : List (Vl × Nat × Int)) (i : Nat) : Nat := ((T.take i).map fun x => x.2.1).sum
def sS (T : List (Vl × Nat × Int)) (i : Nat) : Int := ((T.take i).map fun x => x.2.2).sum
theorem sum_pos : ∀ {T : List (Vl × Nat × Int)}, (∀ x, x ∈ T → 0 ≤ x.2.2) → 0 ≤ (T.map fun x => x.2.2).sum
  | [], _ => by simp
  | x :: T, h => by
    have := sum_pos (T := T) fun y hy => h y (by simp [hy])
    have := h x (by simp)
    simp only [List.map_cons, List.sum_cons]; omega
theorem GOk.le {c : Int} {l : List Row} {T : List (Vl × Nat × Int)} (ok : GOk c l T) (i : Nat) : cS T i ≤ l.length ∧ 0 ≤ sS T i ∧ sS T i ≤ sumT 0 l := by
  have e : T = T.take i ++ T.drop i := (List.take_append_drop i T).symm
  have h1 := ok.cnt
  have h2 := ok.sum
  rw [e, List.map_append, List.sum_append] at h1 h2
  have h3 := sum_pos (T := T.drop i) fun x hx => ok.pos x (List.mem_of_mem_drop hx)
  have h4 := sum_pos (T := T.take i) fun x hx => ok.pos x (List.mem_of_mem_take hx)
  unfold cS sS
  omega
theorem len_sum : ∀ {T : List (Vl × Nat × Int)}, (∀ x, x ∈ T → 1 ≤ x.2.1) → T.length ≤ (T.map fun x => x.2.1).sum
  | [], _ => by simp
  | x :: T, h => by
    have := len_sum (T := T) fun y hy => h y (by simp [hy])
    have := h x (by simp)
    simp only [List.map_cons, List.sum_cons, List.length_cons]; omega
theorem GOk.len {c : Int} {l : List Row} {T : List (Vl × Nat × Int)} (ok : GOk c l T) : T.length ≤ l.length := ok.cnt ▸ len_sum ok.ones
theorem GOk.all {c : Int} {l : List Row} {T : List (Vl × Nat × Int)} (ok : GOk c l T) : cS T T.length = l.length ∧ sS T T.length = sumT 0 l := by
  unfold cS sS
  rw [List.take_length]
  exact ⟨ok.cnt, ok.sum⟩
end Go.Lib
end

section
set_option maxRecDepth 10000
namespace Go.Lib
open Go.Vm Go.Dv Go.Srt
structure Vl.Good (v : Vl) : Prop where
  nul : v.null = true → v.n = 0 ∧ v.bytes = []
  kd : (v.kind = 1 ∧ v.bytes = []) ∨ (v.kind = 2 ∧ v.n = 0)
  int : In64 v.n
theorem cmpV_zero {a b : Vl} (ha : a.Good) (hb : b.Good) (hk : a.kind = b.kind) (h : cmpV a b = 0) : a = b := by
  rw [cmpV_null] at h
  rw [vl_ext]
  cases ha0 : a.null <;> cases hb0 : b.null <;> simp [ha0, hb0] at h ⊢
  · rcases ha.kd with ⟨k1, b1⟩ | ⟨k1, n1⟩ <;> rcases hb.kd with ⟨k2, b2⟩ | ⟨k2, n2⟩
    · simp [k1, cmpI_eq] at h
      exact ⟨hk, h, by rw [b1, b2]⟩
    · omega
    · omega
    · simp [k1, cmpB_eq] at h
      exact ⟨hk, by rw [n1, n2], h⟩
  · obtain ⟨h1, h2⟩ := ha.nul ha0
    obtain ⟨h3, h4⟩ := hb.nul hb0
    exact ⟨hk, by rw [h1, h3], by rw [h2, h4]⟩
theorem cmpV_self {a : Vl} : cmpV a a = 0 := by
  have := (cmpV_ord (k := a.kind)).sym a a rfl rfl; omega
structure GoodR (ks : List Int) (r : Row) : Prop where
  kin : Kin ks r
  good : ∀ v, v ∈ r → v.Good
theorem cmpRow_zero : ∀ {ks : List Int} {a b : Row}, GoodR ks a → GoodR ks b → cmpRow cmpV a b = 0 → a = b
  | [], a, b, ha, hb, _ => by
    have h1 := ha.kin; have h2 := hb.kin
    simp only [Kin, List.map_eq_nil_iff] at h1 h2
    rw [h1, h2]
  | k :: ks, a, b, ha, hb, h => by
    have h1 := ha.kin; have h2 := hb.kin
    cases a with
    | nil => simp [Kin] at h1
    | cons x a => cases b with
      | nil => simp [Kin] at h2
      | cons y b =>
        simp only [Kin, List.map_cons, List.cons.injEq] at h1 h2
        simp only [cmpRow] at h
        by_cases e : cmpV x y = 0
        · simp [e] at h
          rw [cmpV_zero (ha.good x (by simp)) (hb.good y (by simp)) (by rw [h1.1, h2.1]) e, cmpRow_zero (ks := ks) ⟨h1.2, fun v hv => ha.good v (by simp [hv])⟩ ⟨h2.2, fun v hv => hb.good v (by simp [hv])⟩ h]
        · simp [e] at h
section
variable {α : Type} {G : α → Prop} {cmp : α → α → Int}
def Rise (cmp : α → α → Int) (l : List α) : Prop := l.Pairwise fun x y => cmp x y ≤ 0
theorem Ord3.self (o : Ord3 G cmp) {x : α} (hx : G x) : cmp x x = 0 := by
  have := o.sym x x hx hx; omega
theorem Srt.rise (o : Ord3 G cmp) {l : List α} (hG : ∀ x, x ∈ l → G x) (h : Srt cmp l 0 l.length) : Rise cmp l := by
  rw [Rise, List.pairwise_iff_getElem]
  intro i j hi hj hij
  have := h i j l[i] l[j] (by omega) hij hj (by simp) (by simp)
  have := o.sym l[i] l[j] (hG _ (by simp)) (hG _ (by simp))
  omega
theorem rise_uniq (o : Ord3 G cmp) (hz : ∀ x y, G x → G y → cmp x y = 0 → x = y) {l l' : List α} (hp : l.Perm l') (hG : ∀ x, x ∈ l → G x) (h1 : Rise cmp l) (h2 : Rise cmp l') : l = l' := by
  refine List.Perm.eq_of_pairwise (le := fun x y => cmp x y ≤ 0) (fun a b ha hb h3 h4 => ?_) h1 h2 hp
  have hb' := hG b (hp.mem_iff.2 hb)
  have := o.sym a b (hG a ha) hb'
  exact hz a b (hG a ha) hb' (by omega)
def insL (cmp : α → α → Int) (x : α) : List α → List α
  | [] => [x]
  | y :: l => if cmp y x ≤ 0 then y :: insL cmp x l else x :: y :: l
def sortL (cmp : α → α → Int) (l : List α) : List α := l.foldr (insL cmp) []
theorem insL_perm {x : α} : ∀ {l : List α}, (insL cmp x l).Perm (x :: l)
  | [] => .refl _
  | y :: l => by
    unfold insL
    split
    · exact (insL_perm.cons y).trans (.swap ..)
    · exact .refl _
theorem sortL_perm : ∀ {l : List α}, (sortL cmp l).Perm l
  | [] => .refl _
  | x :: _l => insL_perm.trans (sortL_perm.cons x)
theorem insL_rise (o : Ord3 G cmp) {x : α} (hx : G x) : ∀ {l : List α}, (∀ y, y ∈ l → G y) → Rise cmp l → Rise cmp (insL cmp x l)
  | [], _, _ => by simp [insL, Rise]
  | y :: l, hG, h => by
    have hy := hG y (by simp)
    have h' := List.pairwise_cons.1 h
    unfold insL
    split
    · rename_i e
      refine List.pairwise_cons.2 ⟨fun z hz => ?_, insL_rise o hx (fun z hz => hG z (by simp [hz])) h'.2⟩
      rcases List.mem_cons.1 (insL_perm.mem_iff.1 hz) with rfl | hz
      · exact e
      · exact h'.1 z hz
    · rename_i e
      have := o.sym y x hy hx
      refine List.pairwise_cons.2 ⟨fun z hz => ?_, h⟩
      rcases List.mem_cons.1 hz with rfl | hz
      · omega
      · exact o.tr x y z hx hy (hG z (by simp [hz])) (by omega) (h'.1 z hz)
theorem sortL_rise (o : Ord3 G cmp) : ∀ {l : List α}, (∀ y, y ∈ l → G y) → Rise cmp (sortL cmp l)
  | [], _ => by simp [sortL, Rise]
  | x :: l, h => insL_rise o (h x (by simp)) (fun y hy => h y (by simp [sortL_perm.mem_iff.1 hy])) (sortL_rise o fun y hy => h y (by simp [hy]))
theorem rise_sort (o : Ord3 G cmp) (hz : ∀ x y, G x → G y → cmp x y = 0 → x = y) {l l' : List α} (hG : ∀ x, x ∈ l → G x) (hp : l'.Perm l) (h : Rise cmp l') : l' = sortL cmp l :=
  rise_uniq o hz (hp.trans sortL_perm.symm) (fun x hx => hG x (hp.mem_iff.1 hx)) h (sortL_rise o hG)
theorem srt_sort (o : Ord3 G cmp) (hz : ∀ x y, G x → G y → cmp x y = 0 → x = y) {l l' : List α} (hG : ∀ x, x ∈ l → G x) (hp : l'.Perm l) (h : Srt cmp l' 0 l.length) : l' = sortL cmp l :=
  rise_sort o hz hG hp (Srt.rise o (fun x hx => hG x (hp.mem_iff.1 hx)) (by rw [hp.length_eq]; exact h))
theorem tw_filter {p : α → Bool} : ∀ {t : List α}, t.Pairwise (fun x y => p y = true → p x = true) → t.takeWhile p = t.filter p ∧ t.dropWhile p = t.filter (fun x => !p x)
  | [], _ => by simp
  | x :: t, h => by
    have h' := List.pairwise_cons.1 h
    have ih := tw_filter h'.2
    cases hp : p x with
    | true => simp [hp, ih.1, ih.2]
    | false =>
      have hn : ∀ y, y ∈ t → p y = false := fun y hy => by
        cases hy2 : p y with
        | false => rfl
        | true => have := h'.1 y hy hy2; rw [hp] at this; cases this
      have h1 : t.filter p = [] := List.filter_eq_nil_iff.2 fun y hy => by simp [hn y hy]
      have h2 : t.filter (fun x => !p x) = t := List.filter_eq_self.2 fun y hy => by simp [hn y hy]
      simp [hp, h1, h2]
theorem take_tw {p : α → Bool} {t : List α} : t.take (t.takeWhile p).length = t.takeWhile p := by
  rw [← List.prefix_iff_eq_take.1 (List.takeWhile_prefix p)]
theorem drop_tw {p : α → Bool} : ∀ {t : List α}, t.drop (t.takeWhile p).length = t.dropWhile p
  | [] => rfl
  | x :: t => by
    have ih := drop_tw (p := p) (t := t)
    cases h : p x <;> simp [h, ih]
end
def IsEnd (sg : Int) (L : List Vl) (o : Vl) : Prop :=
  (L = [] ∧ o = nullV) ∨ (o ∈ L ∧ ∀ v, v ∈ L → v.null = true) ∨ (o ∈ L ∧ o.null = false ∧ ∀ v, v ∈ L → v.null = false → cmpV v o * sg ≤ 0)
theorem null_eq {v w : Vl} (hv : v.Good) (hw : w.Good) (hk : v.kind = w.kind) (h1 : v.null = true) (h2 : w.null = true) : v = w := by
  obtain ⟨a, b⟩ := hv.nul h1
  obtain ⟨c, d⟩ := hw.nul h2
  exact vl_ext.2 ⟨by rw [h1, h2], hk, by rw [a, c], by rw [b, d]⟩
theorem null_set {v : Vl} (hv : v.Good) (h : v.null = true) : setKind nullV v.kind = v := by
  obtain ⟨a, b⟩ := hv.nul h
  exact vl_ext.2 ⟨by simp [setKind, nullV, h], rfl, by simp [setKind, nullV, a], by simp [setKind, nullV, b]⟩
theorem set_self {o : Vl} {k : Int} (h : o.kind = k) : setKind o k = o := by subst h; rfl
def GoodL (k : Int) (L : List Vl) : Prop := ∀ v, v ∈ L → v.kind = k ∧ v.Good
theorem IsEnd.step {sg k : Int} (hsg : sg = 1 ∨ sg = -1) {L : List Vl} {o v : Vl} (hL : GoodL k (L ++ [v])) (h : IsEnd sg L o) : IsEnd sg (L ++ [v]) (endS sg o v) := by
  obtain ⟨hvk, hv⟩ := hL v (by simp)
  have hm : ∀ x, x ∈ L → x.kind = k ∧ x.Good := fun x hx => hL x (by simp [hx])
  unfold endS
  by_cases hn : v.null = true
  · rw [if_pos hn]
    rcases h with ⟨rfl, rfl⟩ | ⟨ho, ha⟩ | ⟨ho, hon, ha⟩
    · rw [null_set hv hn]
      exact .inr (.inl ⟨by simp, fun w hw => by simp at hw; rw [hw, hn]⟩)
    · rw [set_self (by rw [(hm o ho).1, hvk])]
      exact .inr (.inl ⟨by simp [ho], fun w hw => by
        rcases List.mem_append.1 hw with hw | hw
        · exact ha w hw
        · simp at hw; rw [hw, hn]⟩)
    · rw [set_self (by rw [(hm o ho).1, hvk])]
      exact .inr (.inr ⟨by simp [ho], hon, fun w hw hwn => by
        rcases List.mem_append.1 hw with hw | hw
        · exact ha w hw hwn
        · simp at hw; rw [hw, hn] at hwn; cases hwn⟩)
  · rw [if_neg hn]
    have hn' : v.null = false := by simpa using hn
    rcases h with ⟨rfl, rfl⟩ | ⟨ho, ha⟩ | ⟨ho, hon, ha⟩
    · rw [if_pos (.inl rfl)]
      exact .inr (.inr ⟨by simp, hn', fun w hw _ => by simp at hw; rw [hw, cmpV_self]; omega⟩)
    · rw [if_pos (.inl (ha o ho))]
      refine .inr (.inr ⟨by simp, hn', fun w hw hwn => ?_⟩)
      rcases List.mem_append.1 hw with hw | hw
      · rw [ha w hw] at hwn; cases hwn
      · simp at hw; rw [hw, cmpV_self]; omega
    · have oo := cmpV_ord (k := k)
      have s1 := oo.sym v o hvk (hm o ho).1
      split
      · rename_i e
        have e : 0 < cmpV v o * sg := by
          rcases e with e | e
          · rw [hon] at e; cases e
          · exact e
        refine .inr (.inr ⟨by simp, hn', fun w hw hwn => ?_⟩)
        rcases List.mem_append.1 hw with hw | hw
        · have h1 := ha w hw hwn
          have hwk := (hm w hw).1
          have s2 := oo.sym w o hwk (hm o ho).1
          have s3 := oo.sym w v hwk hvk
          have t1 := oo.tr w o v hwk (hm o ho).1 hvk
          have t2 := oo.tr v o w hvk (hm o ho).1 hwk
          rcases hsg with rfl | rfl <;> omega
        · simp at hw; rw [hw, cmpV_self]; omega
      · rename_i e
        have e : ¬ 0 < cmpV v o * sg := fun h => e (.inr h)
        refine .inr (.inr ⟨by simp [ho], hon, fun w hw hwn => ?_⟩)
        rcases List.mem_append.1 hw with hw | hw
        · exact ha w hw hwn
        · simp at hw; subst hw; omega
theorem IsEnd.fold {sg k : Int} (hsg : sg = 1 ∨ sg = -1) : ∀ {M L : List Vl} {o : Vl}, GoodL k (L ++ M) → IsEnd sg L o → IsEnd sg (L ++ M) (M.foldl (endS sg) o)
  | [], L, o, _, h => by simpa using h
  | v :: M, L, o, hL, h => by
    have := IsEnd.fold hsg (M := M) (L := L ++ [v]) (o := endS sg o v) (by simpa using hL) (h.step hsg fun x hx => hL x (by simp at hx ⊢; rcases hx with hx | hx <;> simp [hx]))
    simpa using this
theorem IsEnd.uniq {sg k : Int} (hsg : sg = 1 ∨ sg = -1) {L : List Vl} {o o' : Vl} (hL : GoodL k L) (h : IsEnd sg L o) (h' : IsEnd sg L o') : o = o' := by
  rcases h with ⟨rfl, rfl⟩ | ⟨ho, ha⟩ | ⟨ho, hon, ha⟩ <;> rcases h' with ⟨e, rfl⟩ | ⟨ho', ha'⟩ | ⟨ho', hon', ha'⟩
  · rfl
  · simp at ho'
  · simp at ho'
  · subst e; simp at ho
  · exact null_eq (hL o ho).2 (hL o' ho').2 (by rw [(hL o ho).1, (hL o' ho').1]) (ha o ho) (ha' o' ho')
  · rw [ha o' ho'] at hon'; cases hon'
  · subst e; simp at ho
  · rw [ha' o ho] at hon; cases hon
  · have h1 := ha o' ho' hon'
    have h2 := ha' o ho hon
    have s := (cmpV_ord (k := k)).sym o o' (hL o ho).1 (hL o' ho').1
    exact cmpV_zero (hL o ho).2 (hL o' ho').2 (by rw [(hL o ho).1, (hL o' ho').1]) (by rcases hsg with rfl | rfl <;> omega)
theorem IsEnd.perm {sg : Int} {L L' : List Vl} {o : Vl} (hp : L.Perm L') (h : IsEnd sg L o) : IsEnd sg L' o := by
  rcases h with ⟨rfl, rfl⟩ | ⟨ho, ha⟩ | ⟨ho, hon, ha⟩
  · exact .inl ⟨hp.nil_eq.symm, rfl⟩
  · exact .inr (.inl ⟨hp.mem_iff.1 ho, fun v hv => ha v (hp.mem_iff.2 hv)⟩)
  · exact .inr (.inr ⟨hp.mem_iff.1 ho, hon, fun v hv => ha v (hp.mem_iff.2 hv)⟩)
def GoodRs (ks : List Int) (l : List Row) : Prop := ∀ r, r ∈ l → GoodR ks r
def InK (ks : List Int) (c : Int) : Prop := 0 ≤ c ∧ c < ks.length
theorem GoodRs.perm {ks : List Int} {l l' : List Row} (hp : l.Perm l') (h : GoodRs ks l) : GoodRs ks l' := fun r hr => h r (hp.mem_iff.2 hr)
theorem atV_mem {r : Row} {c : Int} (h0 : 0 ≤ c) (h : c < r.length) : atV r c ∈ r ∧ r[c.toNat]? = some (atV r c) := by
  have hl : c.toNat < r.length := by omega
  rw [atV, if_neg (by omega)]
  simp [hl]
theorem GoodR.at_ {ks : List Int} {r : Row} {c : Int} (h : GoodR ks r) (hc : InK ks c) : (atV r c).kind = (ks[c.toNat]?).getD 0 ∧ (atV r c).Good := by
  have hk := h.kin
  unfold Kin at hk
  have hl : r.length = ks.length := by rw [← hk]; simp
  obtain ⟨h1, h2⟩ := atV_mem (r := r) hc.1 (by have := hc.2; omega)
  refine ⟨?_, h.good _ h1⟩
  rw [← hk, List.getElem?_map, h2]; rfl
theorem GoodRs.col {ks : List Int} {l : List Row} {c : Int} (h : GoodRs ks l) (hc : InK ks c) : GoodL ((ks[c.toNat]?).getD 0) (l.map fun r => atV r c) := by
  intro v hv
  obtain ⟨r, hr, rfl⟩ := List.mem_map.1 hv
  exact (h r hr).at_ hc
theorem endF_is {sg c : Int} (hsg : sg = 1 ∨ sg = -1) {ks : List Int} {l : List Row} (h : GoodRs ks l) (hc : InK ks c) : IsEnd sg (l.map fun r => atV r c) (endF c sg l) := by
  have := IsEnd.fold (sg := sg) (k := (ks[c.toNat]?).getD 0) hsg (M := l.map fun r => atV r c) (L := []) (o := nullV) (by simpa using h.col hc) (.inl ⟨rfl, rfl⟩)
  simpa [endF] using this
theorem endF_perm {sg c : Int} (hsg : sg = 1 ∨ sg = -1) {ks : List Int} {l l' : List Row} (hp : l.Perm l') (h : GoodRs ks l) (hc : InK ks c) : endF c sg l = endF c sg l' :=
  IsEnd.uniq hsg ((h.perm hp).col hc) ((endF_is hsg h hc).perm (hp.map _)) (endF_is hsg (h.perm hp) hc)
theorem sumT_permC {c : Int} {a b : List Row} (h : a.Perm b) : sumT c a = sumT c b := by
  unfold sumT
  induction h with
  | nil => rfl
  | cons x _ ih => simp [ih]
  | swap x y l => simp; omega
  | trans _ _ h1 h2 => exact h1.trans h2
theorem oneF_perm {ks : List Int} {l l' : List Row} {a : Ag} (hp : l.Perm l') (h : GoodRs ks l) (hc : InK ks a.col) : oneF l a = oneF l' a := by
  unfold oneF sumV
  rw [hp.length_eq, sumT_permC hp, endF_perm (.inl rfl) hp h hc, endF_perm (.inr rfl) hp h hc]
theorem oks_perm {ks : List Int} {l l' : List Row} {ags : List Ag} (hp : l.Perm l') (h : GoodRs ks l) (hc : ∀ a, a ∈ ags → InK ks a.col) : oks l ags = oks l' ags := by
  unfold oks
  rw [Bool.eq_iff_iff, List.all_eq_true, List.all_eq_true]
  constructor <;> intro k a ha
  · rw [← oneF_perm hp h (hc a ha)]; exact k a ha
  · rw [oneF_perm hp h (hc a ha)]; exact k a ha
theorem vals_perm {ks : List Int} {l l' : List Row} {ags : List Ag} (hp : l.Perm l') (h : GoodRs ks l) (hc : ∀ a, a ∈ ags → InK ks a.col) : vals l ags = vals l' ags := by
  unfold vals
  exact List.map_congr_left fun a ha => by rw [oneF_perm hp h (hc a ha)]
theorem cmpC_ord {c : Int} {ks : List Int} (hc : InK ks c) : Ord3 (GoodR ks) (cmpC c) :=
  ⟨fun _ _ hx hy => (cmpV_ord (k := (ks[c.toNat]?).getD 0)).sym _ _ (hx.at_ hc).1 (hy.at_ hc).1, fun _ _ _ hx hy hz => (cmpV_ord (k := (ks[c.toNat]?).getD 0)).tr _ _ _ (hx.at_ hc).1 (hy.at_ hc).1 (hz.at_ hc).1⟩
theorem cmpC_zero {c : Int} {ks : List Int} (hc : InK ks c) {a b : Row} (ha : GoodR ks a) (hb : GoodR ks b) (h : cmpC c a b = 0) : atV a c = atV b c :=
  cmpV_zero (ha.at_ hc).2 (hb.at_ hc).2 (by rw [(ha.at_ hc).1, (hb.at_ hc).1]) h
theorem first_group {c : Int} {ks : List Int} (hc : InK ks c) {r : Row} {t : List Row} (hg : GoodRs ks (r :: t)) (h : Rise (cmpC c) (r :: t)) :
    (r :: t).take (cnt c r t) = (r :: t).filter (fun x => decide (cmpC c x r = 0)) ∧ (r :: t).drop (cnt c r t) = (r :: t).filter (fun x => !decide (cmpC c x r = 0)) := by
  have o := cmpC_ord hc
  have h' := List.pairwise_cons.1 h
  have hr := hg r (by simp)
  have hpw : t.Pairwise (fun x y => decide (cmpC c y r = 0) = true → decide (cmpC c x r = 0) = true) := by
    refine List.Pairwise.imp_of_mem ?_ h'.2
    intro x y hx hy hxy e
    have hx' := hg x (by simp [hx])
    have hy' := hg y (by simp [hy])
    have e : cmpC c y r = 0 := by simpa using e
    have h1 := h'.1 x hx
    have h2 := o.tr x y r hx' hy' hr hxy (by omega)
    have := o.sym x r hx' hr
    simp; omega
  obtain ⟨h1, h2⟩ := tw_filter hpw
  have hs : cmpC c r r = 0 := o.self hr
  have e : cnt c r t = (t.takeWhile fun x => decide (cmpC c x r = 0)).length + 1 := Nat.add_comm ..
  rw [e, List.take_succ_cons, List.drop_succ_cons, take_tw, drop_tw, h1, h2]
  simp [hs]
theorem runG_perm {c : Int} {ks : List Int} {ags : List Ag} (hc : InK ks c) (ha : ∀ a, a ∈ ags → InK ks a.col) : ∀ (w : Nat) (l1 l2 : List Row), l1.length ≤ w → l1.Perm l2 → GoodRs ks l1 → Rise (cmpC c) l1 → Rise (cmpC c) l2 → runG c ags w l1 = runG c ags w l2
  | w, [], l2, _, hp, _, _, _ => by rw [hp.nil_eq]
  | 0, _ :: _, _, h, _, _, _, _ => by simp at h
  | w + 1, r1 :: t1, [], _, hp, _, _, _ => by have := hp.length_eq; simp at this
  | w + 1, r1 :: t1, r2 :: t2, hw, hp, hg, h1, h2 => by
    have o := cmpC_ord hc
    have hg2 := hg.perm hp
    have k1 := hg r1 (by simp)
    have k2 := hg2 r2 (by simp)
    have le1 : cmpC c r1 r2 ≤ 0 := by
      have : r2 ∈ r1 :: t1 := hp.mem_iff.2 (by simp)
      rcases List.mem_cons.1 this with e | e
      · rw [e, o.self k1]; omega
      · exact (List.pairwise_cons.1 h1).1 r2 e
    have le2 : cmpC c r2 r1 ≤ 0 := by
      have : r1 ∈ r2 :: t2 := hp.mem_iff.1 (by simp)
      rcases List.mem_cons.1 this with e | e
      · rw [e, o.self k2]; omega
      · exact (List.pairwise_cons.1 h2).1 r1 e
    have s := o.sym r1 r2 k1 k2
    have e0 := cmpC_zero hc k1 k2 (by omega)
    obtain ⟨a1, b1⟩ := first_group hc hg h1
    obtain ⟨a2, b2⟩ := first_group hc hg2 h2
    have ef : ∀ x, cmpC c x r1 = cmpC c x r2 := fun x => by unfold cmpC; rw [e0]
    simp only [ef] at a1 b1
    have pt : ((r1 :: t1).take (cnt c r1 t1)).Perm ((r2 :: t2).take (cnt c r2 t2)) := by rw [a1, a2]; exact hp.filter _
    have pd : ((r1 :: t1).drop (cnt c r1 t1)).Perm ((r2 :: t2).drop (cnt c r2 t2)) := by rw [b1, b2]; exact hp.filter _
    have hgt : GoodRs ks ((r1 :: t1).take (cnt c r1 t1)) := fun x hx => hg x (List.mem_of_mem_take hx)
    have hc1 : 1 ≤ cnt c r1 t1 := by unfold cnt; omega
    have ih := runG_perm hc ha w _ _ (by simp only [List.length_drop, List.length_cons]; simp at hw; omega) pd (fun x hx => hg x (List.mem_of_mem_drop hx)) (h1.drop) (h2.drop)
    unfold runG
    rw [oks_perm pt hgt ha, vals_perm pt hgt ha, ih, e0]
def grpF (c : Int) (ags : List Ag) (l : List Row) : List Row × Bool := runG c ags l.length (sortL (cmpC c) l)
theorem grp_rise {c : Int} {ks : List Int} {ags : List Ag} (hc : InK ks c) (ha : ∀ a, a ∈ ags → InK ks a.col) {l l' : List Row} (hg : GoodRs ks l) (hp : l'.Perm l) (h : Rise (cmpC c) l') : runG c ags l'.length l' = grpF c ags l := by
  unfold grpF
  rw [← hp.length_eq]
  exact runG_perm hc ha _ _ _ (Nat.le_refl _) (hp.trans sortL_perm.symm) (hg.perm hp.symm) h (sortL_rise (cmpC_ord hc) hg)
theorem grp_srt {c : Int} {ks : List Int} {ags : List Ag} (hc : InK ks c) (ha : ∀ a, a ∈ ags → InK ks a.col) {l l' : List Row} (hg : GoodRs ks l) (hp : l'.Perm l) (h : Srt (cmpC c) l' 0 l.length) : runG c ags l'.length l' = grpF c ags l :=
  grp_rise hc ha hg hp (Srt.rise (cmpC_ord hc) (hg.perm hp.symm) (by rw [hp.length_eq]; exact h))
def grpsF (c : Int) (ags : List Ag) (l : List Row) : List Row × Bool := if c < 0 then (if oks l ags then [vals l ags] else [], oks l ags) else grpF c ags l
end Go.Lib
end

section
set_option maxRecDepth 10000
namespace Go.Lib
open Go.Vm Go.Dv Go.Srt
variable {p : Prog} {ext : Ext} {F : Nat → Nat}
structure HRef15 (p : Prog) (ext : Ext) (F : Nat → Nat) : Prop where
  ref6 : HRef6 p ext F
  h53 : Has p ext F 53 M53
  h54 : Has p ext F 54 M54
  h55 : Has p ext F 55 M55
  h56 : Has p ext F 56 M56
  h57 : Has p ext F 57 M57
  h58 : Has p ext F 58 M58
  h59 : Has p ext F 59 M59
  h60 : Has p ext F 60 M60
theorem cmpR_ord {ks : List Int} : Ord3 (GoodR ks) cmpR := ⟨fun x y hx hy => cmpRow_ord.sym x y hx.kin hy.kin, fun x y z hx hy hz => cmpRow_ord.tr x y z hx.kin hy.kin hz.kin⟩
theorem cmpR_zero {ks : List Int} : ∀ x y, GoodR ks x → GoodR ks y → cmpR x y = 0 → x = y := fun _ _ hx hy h => cmpRow_zero hx hy h
end Go.Lib
end

section
namespace Go.Lib
open Go.Vm Go.Dv
set_option maxRecDepth 100000
abbrev K22 (F : Nat → Nat) : KC := .seq (.region [⟨(some 2),(.a (.box (.tmp 0))),none⟩,⟨(some 4),(.p (.mov (.val (.nilslice)))),none⟩] [2] [1,2])
 (.seq (.region [⟨(some 5),(.p (.mov (.val (.nilslice)))),none⟩] [] [1,2,5])
 (.seq (.seq (.region [mi 6 0] [] [1,2,5,6])
 (.block 0 (.loop (.seq (.seq (.region [mv 8 6,mv 9 1,lb 10 9,bt 11 .lss 8 10,mv 12 11,⟨(some 13),(.p (.mov (.tmp 6))),(some (12,true))⟩,⟨(some 14),(.p (.bin .lss (.tmp 13) (.val (.int .i64 (.ofNat 40))))),(some (12,true))⟩,⟨(some 15),(.p (.pick (.tmp 12) (.tmp 14) (.val (.bool false)))),none⟩] [] [1,2,5,6,15])
 (.cond (.tmp 15) (.skip)
 (.exit 0)))
 (.seq (.block 1 (.seq (.dregion [⟨ln 18 1 2,0,5⟩,⟨mv 19 1,0,5⟩,⟨mv 20 6,0,5⟩,⟨ix 21 1 19 20,0,5⟩,⟨l1 22 21,0,5⟩,⟨⟨(some 23),(.e (.call (F 24) [(.tmp 18),(.tmp 22)])),none⟩,0,7⟩,⟨mv 7 23,6,7⟩] [1,2,5,6,7])
 (.seq (.region [mv 24 7,mv 25 6,bi 26 .mul 25 3,mv 27 1,mv 28 6,ix 29 1 27 28,l1 30 29,bi 31 .and 30 1,bt 32 .add 26 31,⟨(some 33),(.p (.iaddr 4 (.tmp 24) (.val (.int .i64 (.ofNat 0))))),none⟩,fa 34 2 33,⟨none,(.e (.store 1 (.tmp 34) (.tmp 32))),none⟩] [] [1,2,5,6,7])
 (.region [mv 35 5,mv 36 7,⟨(some 37),(.a (.bslice [.nilslice] 1 1 [(0,1,(.tmp 36))])),none⟩,⟨(some 38),(.e (.append 1 24 (.tmp 35) (.tmp 37))),none⟩,mv 5 38] [37] [1,2,5,6]))))
 (.region [mv 16 6,bi 17 .add 16 1,mv 6 17] [] [1,2,5,6]))))))
 (.seq (.region [mv 39 5,mv 4 39] [] [4])
 (.ret))))
def M22 (F : Nat → Nat) : Fun := ⟨40,2,(K22 F).erase,[.tmp 4]⟩
theorem ok22 {F : Nat → Nat} : (K22 F).ok = true := rfl
abbrev K23 (_F : Nat → Nat) : KC := .seq (.region [⟨(some 2),(.a (.new [.nilslice])),none⟩] [] [0,2])
 (.seq (.region [⟨(some 6),(.p (.build [.str [],.int .i64 (.ofNat 0),.bool false] [(0,1,(.val (.str [107,101,121]))),(1,1,(.val (.int .i64 (.ofNat 1))))])),none⟩,⟨(some 7),(.a (.bslice [.str [],.int .i64 (.ofNat 0),.bool false] 3 1 [(0,3,(.tmp 6))])),none⟩,⟨(some 8),(.p (.build [.nilslice] [(0,1,(.tmp 7))])),none⟩,⟨(some 3),(.a (.new [.nilslice])),none⟩,⟨none,(.e (.store 1 (.tmp 3) (.tmp 8))),none⟩] [] [0,2,3])
 (.seq (.region [⟨(some 9),(.a (.bslice [.str [],.str [],.str [],.str [],.str []] 1 5 [(0,1,(.val (.str [97]))),(1,1,(.val (.str [98,98]))),(2,1,(.val (.str [99,99,99]))),(3,1,(.val (.str [110,117,108,108]))),(4,1,(.val (.str [97,110,100])))])),none⟩,mv 4 9] [9] [0,2,3,4])
 (.seq (.seq (.region [mi 5 0] [] [0,2,3,4,5])
 (.block 0 (.loop (.seq (.seq (.region [mv 10 5,mv 11 0,bi 12 .and 11 255,bi 13 .rem 12 6,bt 14 .lss 10 13,mv 15 14,⟨(some 16),(.p (.mov (.tmp 5))),(some (15,true))⟩,⟨(some 17),(.p (.bin .lss (.tmp 16) (.val (.int .i64 (.ofNat 5))))),(some (15,true))⟩,⟨(some 18),(.p (.pick (.tmp 15) (.tmp 17) (.val (.bool false)))),none⟩] [] [0,2,3,4,5,18])
 (.cond (.tmp 18) (.skip)
 (.exit 0)))
 (.seq (.block 1 (.dregion [⟨fa 21 0 3,0,24⟩,⟨l1 22 21,0,24⟩,⟨mv 23 4,0,24⟩,⟨mv 24 5,0,24⟩,⟨ix 25 1 23 24,0,24⟩,⟨l1 26 25,0,24⟩,⟨mv 27 0,0,24⟩,⟨mv 28 5,0,24⟩,⟨⟨(some 29),(.p (.bin .mul (.val (.int .i64 (.ofNat 2))) (.tmp 28))),none⟩,0,24⟩,⟨⟨(some 30),(.p (.bin .add (.val (.int .i64 (.ofNat 8))) (.tmp 29))),none⟩,0,24⟩,⟨⟨(some 31),(.p (.conv (.int .u64) (.tmp 30))),none⟩,0,24⟩,⟨bt 32 .shr 27 31,0,24⟩,⟨bi 33 .and 32 1,0,24⟩,⟨bi 34 .add 33 1,0,24⟩,⟨mv 35 0,0,24⟩,⟨mv 36 5,0,24⟩,⟨⟨(some 37),(.p (.bin .mul (.val (.int .i64 (.ofNat 2))) (.tmp 36))),none⟩,0,24⟩,⟨⟨(some 38),(.p (.bin .add (.val (.int .i64 (.ofNat 9))) (.tmp 37))),none⟩,0,24⟩,⟨⟨(some 39),(.p (.conv (.int .u64) (.tmp 38))),none⟩,0,24⟩,⟨bt 40 .shr 35 39,0,24⟩,⟨bi 41 .and 40 1,0,24⟩,⟨bi 42 .eql 41 1,0,24⟩,⟨⟨(some 43),(.p (.build [.str [],.int .i64 (.ofNat 0),.bool false] [(0,1,(.tmp 26)),(1,1,(.tmp 34)),(2,1,(.tmp 42))])),none⟩,0,24⟩,⟨⟨(some 44),(.a (.bslice [.str [],.int .i64 (.ofNat 0),.bool false] 3 1 [(0,3,(.tmp 43))])),none⟩,0,24⟩,⟨⟨(some 45),(.e (.append 3 32 (.tmp 22) (.tmp 44))),none⟩,0,26⟩,⟨fa 46 0 3,25,26⟩,⟨⟨none,(.e (.store 1 (.tmp 46) (.tmp 45))),none⟩,25,27⟩] [0,2,3,4,5]))
 (.region [mv 19 5,bi 20 .add 19 1,mv 5 20] [] [0,2,3,4,5]))))))
 (.seq (.region [ln 47 1 3,⟨none,(.e (.store 1 (.tmp 2) (.tmp 47))),none⟩] [] [2])
 (.ret)))))
def M23 (F : Nat → Nat) : Fun := ⟨48,1,(K23 F).erase,[.celln 1 2]⟩
theorem ok23 {F : Nat → Nat} : (K23 F).ok = true := rfl
abbrev K24 (F : Nat → Nat) : KC := .seq (.region [⟨(some 2),(.a (.box (.tmp 0))),none⟩,⟨(some 4),(.p (.mov (.val (.nilslice)))),none⟩] [2] [1,2])
 (.seq (.region [⟨(some 5),(.p (.mov (.val (.nilslice)))),none⟩] [] [1,2,5])
 (.seq (.seq (.region [fa 8 0 2,l1 9 8,lb 10 9,mi 11 0] [] [1,5,9,10,11])
 (.block 0 (.loop (.seq (.region [bt 12 .lss 11 10] [] [1,5,9,10,11,12])
 (.seq (.cond (.tmp 12) (.skip)
 (.exit 0))
 (.seq (.block 1 (.seq (.region [mv 13 11,ix 14 3 9 11,ln 15 3 14,⟨(some 7),(.a (.new [.str [],.int .i64 (.ofNat 0),.bool false])),none⟩,mv 6 13,⟨none,(.e (.store 3 (.tmp 7) (.tmp 15))),none⟩] [] [1,5,6,7,9,10,11])
 (.seq (.seq (.region [mv 16 6,bi 17 .eql 16 0] [] [1,5,6,7,9,10,11,17])
 (.cond (.tmp 17) (.seq (.region [mv 18 5,mv 19 1,bi 20 .and 19 15,⟨(some 21),(.p (.build [.bool false,.int .i64 (.ofNat 0),.int .i64 (.ofNat 0),.nilslice] [(1,1,(.val (.int .i64 (.ofNat 1)))),(2,1,(.tmp 20))])),none⟩,⟨(some 22),(.a (.bslice [.bool false,.int .i64 (.ofNat 0),.int .i64 (.ofNat 0),.nilslice] 4 1 [(0,4,(.tmp 21))])),none⟩,⟨(some 23),(.e (.append 4 48 (.tmp 18) (.tmp 22))),none⟩,mv 5 23] [22] [1,5,9,10,11])
 (.exit 1))
 (.skip)))
 (.region [mv 24 5,ln 25 3 7,mv 26 1,mv 27 6,⟨(some 28),(.p (.bin .mul (.val (.int .i64 (.ofNat 3))) (.tmp 27))),none⟩,⟨(some 29),(.p (.conv (.int .u64) (.tmp 28))),none⟩,bt 30 .shr 26 29,mv 31 1,⟨(some 32),(.p (.bin .shr (.tmp 31) (.val (.int .u64 (.ofNat 17))))),none⟩,bt 33 .xor 30 32,⟨(some 34),(.e (.call (F 25) [(.tmp 25),(.tmp 33)])),none⟩,⟨(some 35),(.a (.bslice [.bool false,.int .i64 (.ofNat 0),.int .i64 (.ofNat 0),.nilslice] 4 1 [(0,4,(.tmp 34))])),none⟩,⟨(some 36),(.e (.append 4 48 (.tmp 24) (.tmp 35))),none⟩,mv 5 36] [35] [1,5,9,10,11]))))
 (.region [bi 37 .add 11 1,mv 11 37] [] [1,5,9,10,11])))))))
 (.seq (.region [mv 38 5,mv 4 38] [] [4])
 (.ret))))
def M24 (F : Nat → Nat) : Fun := ⟨39,2,(K24 F).erase,[.tmp 4]⟩
theorem ok24 {F : Nat → Nat} : (K24 F).ok = true := rfl
abbrev K25 (_F : Nat → Nat) : KC := .seq (.region [⟨(some 2),(.a (.box (.tmp 0))),none⟩,⟨(some 4),(.a (.new [.bool false,.int .i64 (.ofNat 0),.int .i64 (.ofNat 0),.nilslice])),none⟩] [2] [1,2,4])
 (.seq (.seq (.region [fa 6 2 2,l1 7 6,mv 8 7,⟨(some 9),(.p (.mov (.tmp 1))),(some (8,true))⟩,⟨(some 10),(.p (.bin .and (.tmp 9) (.val (.int .i64 (.ofNat 7))))),(some (8,true))⟩,⟨(some 11),(.p (.bin .eql (.tmp 10) (.val (.int .i64 (.ofNat 0))))),(some (8,true))⟩,⟨(some 12),(.p (.pick (.tmp 8) (.tmp 11) (.val (.bool false)))),none⟩] [] [1,2,4,12])
 (.cond (.tmp 12) (.seq (.region [fa 13 1 2,l1 14 13,⟨(some 15),(.p (.build [.bool false,.int .i64 (.ofNat 0),.int .i64 (.ofNat 0),.nilslice] [(1,1,(.tmp 14)),(0,1,(.val (.bool true)))])),none⟩,⟨none,(.e (.store 4 (.tmp 4) (.tmp 15))),none⟩] [] [4])
 (.ret))
 (.skip)))
 (.seq (.region [fa 16 1 2,l1 17 16,⟨(some 18),(.p (.build [.bool false,.int .i64 (.ofNat 0),.int .i64 (.ofNat 0),.nilslice] [(1,1,(.tmp 17))])),none⟩,⟨(some 5),(.a (.new [.bool false,.int .i64 (.ofNat 0),.int .i64 (.ofNat 0),.nilslice])),none⟩,⟨none,(.e (.store 4 (.tmp 5) (.tmp 18))),none⟩] [] [1,2,4,5])
 (.seq (.seq (.region [fa 19 1 2,l1 20 19,bi 21 .eql 20 1] [] [1,4,5,21])
 (.cond (.tmp 21) (.seq (.region [mv 22 1,⟨(some 23),(.p (.bin .shr (.tmp 22) (.val (.int .u64 (.ofNat 3))))),none⟩,bi 24 .and 23 7,fa 25 2 5,⟨none,(.e (.store 1 (.tmp 25) (.tmp 24))),none⟩] [] [1,4,5])
 (.seq (.seq (.region [mv 26 1,⟨(some 27),(.p (.bin .shr (.tmp 26) (.val (.int .u64 (.ofNat 6))))),none⟩,bi 28 .and 27 15] [] [1,4,5,28])
 (.block 0 (.seq (.region [bi 30 .eql 28 0,mv 29 30] [] [1,4,5,28,29])
 (.cond (.tmp 29) (.region [mv 31 1,bi 32 .mul 31 712544676207699905,fa 33 2 5,⟨none,(.e (.store 1 (.tmp 33) (.tmp 32))),none⟩] [] [4,5])
 (.seq (.region [bi 35 .eql 28 1,mv 34 35] [] [4,5,28,34])
 (.cond (.tmp 34) (.region [fa 36 2 5,l1 37 36,⟨(some 38),(.p (.neg (.tmp 37))),none⟩,fa 39 2 5,⟨none,(.e (.store 1 (.tmp 39) (.tmp 38))),none⟩] [] [4,5])
 (.seq (.region [bi 41 .eql 28 2,mv 40 41] [] [4,5,40])
 (.cond (.tmp 40) (.region [fa 42 2 5,l1 43 42,⟨(some 44),(.p (.bin .sub (.val (.int .i64 (.ofNat 9223372036854775807))) (.tmp 43))),none⟩,fa 45 2 5,⟨none,(.e (.store 1 (.tmp 45) (.tmp 44))),none⟩] [] [4,5])
 (.skip)))))))))
 (.seq (.region [ln 46 4 5,⟨none,(.e (.store 4 (.tmp 4) (.tmp 46))),none⟩] [] [4])
 (.ret))))
 (.skip)))
 (.seq (.region [⟨(some 47),(.a (.bslice [.int .u8 (.ofNat 0),.int .u8 (.ofNat 0),.int .u8 (.ofNat 0),.int .u8 (.ofNat 0),.int .u8 (.ofNat 0),.int .u8 (.ofNat 0),.int .u8 (.ofNat 0),.int .u8 (.ofNat 0)] 1 8 [(0,1,(.val (.int .u8 (.ofNat 97)))),(1,1,(.val (.int .u8 (.ofNat 98)))),(2,1,(.val (.int .u8 (.ofNat 99)))),(3,1,(.val (.int .u8 (.ofNat 97)))),(4,1,(.val (.int .u8 (.ofNat 98)))),(5,1,(.val (.int .u8 (.ofNat 99)))),(6,1,(.val (.int .u8 (.ofNat 97)))),(7,1,(.val (.int .u8 (.ofNat 98))))])),none⟩,⟨(some 48),(.e (.mark (.tmp 47))),none⟩,mv 49 1,⟨(some 50),(.p (.bin .shr (.tmp 49) (.val (.int .u64 (.ofNat 3))))),none⟩,bi 51 .and 50 3,mv 52 1,⟨(some 53),(.p (.bin .shr (.tmp 52) (.val (.int .u64 (.ofNat 3))))),none⟩,bi 54 .and 53 3,mv 55 1,⟨(some 56),(.p (.bin .shr (.tmp 55) (.val (.int .u64 (.ofNat 5))))),none⟩,bi 57 .and 56 3,bt 58 .add 54 57,⟨(some 59),(.p (.slc 1 (.tmp 48) (some (.tmp 51)) (some (.tmp 58)) none)),none⟩,fa 60 3 5,⟨none,(.e (.store 1 (.tmp 60) (.tmp 59))),none⟩] [] [4,5])
 (.seq (.region [ln 61 4 5,⟨none,(.e (.store 4 (.tmp 4) (.tmp 61))),none⟩] [] [4])
 (.ret))))))
def M25 (F : Nat → Nat) : Fun := ⟨62,2,(K25 F).erase,[.celln 4 4]⟩
theorem ok25 {F : Nat → Nat} : (K25 F).ok = true := rfl
end Go.Lib
end

section
set_option maxRecDepth 10000
namespace Go.Lib
open Go.Vm Go.Dv
variable {p : Prog} {ext : Ext} {F : Nat → Nat}
structure HLaw6s (p : Prog) (ext : Ext) (F : Nat → Nat) : Prop where
  h23 : Has p ext F 23 M23
  h25 : Has p ext F 25 M25
structure HLaw6r (p : Prog) (ext : Ext) (F : Nat → Nat) : Prop extends HLaw6s p ext F where
  h24 : Has p ext F 24 M24
structure HLaw6 (p : Prog) (ext : Ext) (F : Nat → Nat) : Prop extends HLaw6r p ext F where
  h22 : Has p ext F 22 M22
instance : Coe (HLaw6r p ext F) (HLaw6s p ext F) := ⟨HLaw6r.toHLaw6s⟩
instance : Coe (HLaw6 p ext F) (HLaw6r p ext F) := ⟨HLaw6.toHLaw6r⟩
structure Cl where
  name : List Nat
  kind : Int
  null : Bool
def Cl.c (c : Cl) : List D := [.lit (.str c.name), .lit (.int .i64 c.kind), .lit (.bool c.null)]
abbrev Sch := List Cl
def schE (s : Sch) : List (List D) := s.map Cl.c
def schR (s : Sch) : D := .row 3 .p (schE s)
def schD (s : Sch) : D := .agg [schR s]
theorem cl_unders {n : Nat} {c : Cl} : D.unders n c.c := by simp [Cl.c]
theorem sch_underss {n : Nat} {s : Sch} : D.underss n (schE s) := underss_map (fun _ => cl_unders) _
theorem schR_under {n : Nat} {s : Sch} : (schR s).under n := sch_underss
theorem schD_under {n : Nat} {s : Sch} : (schD s).under n := by simp [schD, schR_under]
theorem sch_len {s : Sch} : (schE s).length = s.length := by simp [schE]
theorem lenb_sch {s : Sch} : lenbD (schR s) = some (.lit (.int .i64 (s.length : Int))) := by simp [schR, sch_len]
theorem at_sch {s : Sch} {n : Nat} : atO 3 (schR s) (some n) = elemD (s[n]?.map Cl.c) := by simp [schR, schE]
theorem cl_0 {v : Cl} : v.c[0]? = some (.lit (.str v.name)) := rfl
theorem cl_1 {v : Cl} : v.c[1]? = some (.lit (.int .i64 v.kind)) := rfl
theorem cl_2 {v : Cl} : v.c[2]? = some (.lit (.bool v.null)) := rfl
theorem cl_len {v : Cl} : v.c.length = 3 := rfl
theorem cl_take {v : Cl} : v.c.take 3 = v.c := rfl
theorem cl_drop {v : Cl} : v.c.drop 3 = [] := rfl
theorem cl_flats {v : Cl} : flatsD v.c = true := rfl
theorem cellsD_schR {s : Sch} : cellsD (schR s) = some [schR s] := rfl
theorem flatD_schR {s : Sch} : flatD (schR s) = true := rfl
theorem cellsD_schD {s : Sch} : cellsD (schD s) = some [schR s] := rfl
attribute [simp] cl_unders sch_underss schR_under schD_under sch_len lenb_sch at_sch cl_0 cl_1 cl_2 cl_len cl_take cl_drop cl_flats cellsD_schR flatD_schR cellsD_schD
def andI (a m : Int) : Int := wr .i64 (.ofNat (Nat.land (toU .i64 a) (toU .i64 m)))
theorem bin_andI {tab : Tab} {a b : Int} : binV tab .and (.int .i64 a) (.int .i64 b) = some (.int .i64 (andI a b)) := bin_and
def xorI (a b : Int) : Int := wr .i64 (.ofNat (Nat.xor (toU .i64 a) (toU .i64 b)))
theorem bin_xorI {tab : Tab} {a b : Int} : binV tab .xor (.int .i64 a) (.int .i64 b) = some (.int .i64 (xorI a b)) := bin_xor
theorem andI_small {a : Int} {m : Nat} (hm : m < 65536) : ∃ q : Nat, andI a (m : Int) = q ∧ q ≤ m := and_range hm
attribute [-simp] bin_and bin_xor
attribute [simp] bin_andI bin_xorI
def abc : List By := [97, 98, 99, 97, 98, 99, 97, 98]
def valF (c : Cl) (n : Int) : Vl :=
  if c.null = true ∧ andI n 7 = 0 then ⟨true, c.kind, 0, [], by simp⟩ else
  if c.kind = 1 then
    ⟨false, c.kind, if andI (shrI .i64 n 6) 15 = 0 then wr .i64 (n * 712544676207699905) else if andI (shrI .i64 n 6) 15 = 1 then wr .i64 (-andI (shrI .i64 n 3) 7) else if andI (shrI .i64 n 6) 15 = 2 then wr .i64 (9223372036854775807 - andI (shrI .i64 n 3) 7) else andI (shrI .i64 n 3) 7, [], by simp⟩
  else ⟨false, c.kind, 0, (abc.drop (andI (shrI .i64 n 3) 3).toNat).take (andI (shrI .i64 n 5) 3).toNat, by
    have : ((abc.drop (andI (shrI .i64 n 3) 3).toNat).take (andI (shrI .i64 n 5) 3).toNat).length ≤ 8 := by
      rw [List.length_take, List.length_drop]; simp [abc]; omega
    omega⟩
theorem by_flat_map (b : List By) : (byE b).flatten = b.map fun c => D.lit (.int .u8 (c.val : Int)) := by
  induction b with
  | nil => rfl
  | cons c b ih => simp only [byE, List.map_cons, List.flatten_cons, List.singleton_append] at ih ⊢; rw [ih]
theorem law6_value (L : HLaw6s p ext F) {c : Cl} {n : Int} : FnD p ext (F 25) [.agg c.c, .lit (.int .i64 n)] (.agg (valF c n).c) := by
  refine fn_of L.h25 (M := M25) rfl ok25 rfl fun H => sem_run 9000 _ ?_
  simp
  by_cases h1 : c.null = true ∧ andI n 7 = 0
  · simp [h1.1, h1.2]
    refine sem_ret ?_
    simp [M25]
    exact .le sR (by simp [valF, h1.1, h1.2, Vl.c, D.le, byD, byE]) (by simp)
  · have h2 : c.null = false ∨ (c.null = true ∧ ¬ andI n 7 = 0) := by
      cases h3 : c.null
      · exact .inl rfl
      · exact .inr ⟨rfl, fun h4 => h1 ⟨h3, h4⟩⟩
    by_cases h5 : c.kind = 1
    · by_cases k0 : andI (shrI .i64 n 6) 15 = 0
      · rcases h2 with h2 | h2
        all_goals
          simp [h2, h5, k0]
          refine sem_ret ?_
          simp [M25]
          exact .le sR (by simp [valF, h2, h5, k0, Vl.c, D.le, byD, byE]) (by simp)
      · by_cases k1 : andI (shrI .i64 n 6) 15 = 1
        · rcases h2 with h2 | h2
          all_goals
            simp [h2, h5, k1]
            refine sem_ret ?_
            simp [M25]
            exact .le sR (by simp [valF, h2, h5, k1, Vl.c, D.le, byD, byE]) (by simp)
        · by_cases k2 : andI (shrI .i64 n 6) 15 = 2
          · rcases h2 with h2 | h2
            all_goals
              simp [h2, h5, k2]
              refine sem_ret ?_
              simp [M25]
              exact .le sR (by simp [valF, h2, h5, k2, Vl.c, D.le, byD, byE]) (by simp)
          · rcases h2 with h2 | h2
            all_goals
              simp [h2, h5, k0, k1, k2]
              refine sem_ret ?_
              simp [M25]
              exact .le sR (by simp [valF, h2, h5, k0, k1, k2, Vl.c, D.le, byD, byE]) (by simp)
    · obtain ⟨i, hi, hi3⟩ := andI_small (a := shrI .i64 n 3) (m := 3) (by simp)
      obtain ⟨j, hj, hj3⟩ := andI_small (a := shrI .i64 n 5) (m := 3) (by simp)
      have hi' : andI (shrI .i64 n 3) 3 = i := hi
      have hj' : andI (shrI .i64 n 5) 3 = j := hj
      have hw : wr .i64 ((i : Int) + (j : Int)) = (i : Int) + (j : Int) := by rw [wr_of] <;> omega
      have ht : ((i : Int) + (j : Int)).toNat = i + j := by omega
      have hn : (0 : Int) ≤ (i : Int) + (j : Int) := by omega
      have hl : i + j ≤ 8 := by omega
      rcases h2 with h2 | h2
      all_goals
        simp [h2, h5, hi', hj', markD, slcD, slcV, needH, boundM, boundH, boundL, sliceO, hw, ht, hn, hl]
        refine sem_ret ?_
        simp [M25]
        refine ⟨_, (WeakV.part (pre := [.lit (.bool false), .lit (.int .i64 c.kind), .lit (.int .i64 0)]) (el := byE ((abc.drop i).take j)) (sz := 1) (cs := (byE abc).flatten) (ro := false) (by simp [put_blk, new_blk, abc, byE]; decide) by_one (by simp [abc]; omega) ?_ (by omega)).trans (.le ?_), sR, by simp⟩
        · rw [by_flat_map, by_flat_map, Nat.mul_one, List.map_take, List.map_drop]
        · simp [valF, h2, h5, hi', hj', Vl.c, byD, D.le]
theorem wr_u64 {n : Int} (h0 : 0 ≤ n) (h1 : n < 18446744073709551616) : wr .u64 n = n := by
  obtain ⟨m, rfl⟩ : ∃ m : Nat, n = m := ⟨n.toNat, by omega⟩
  show cond (Nat.blt m 18446744073709551616) _ _ = _
  rw [show Nat.blt m 18446744073709551616 = true from nblt.2 (by omega)]
  rfl
def cellF (n : Int) (i : Nat) (c : Cl) : Vl := if i = 0 then ⟨false, 1, andI n 15, [], by simp⟩ else valF c (xorI (shrI .i64 n (3 * i)) (shrI .i64 n 17))
def rowF (s : Sch) (n : Int) : Row := s.mapIdx (cellF n)
theorem rowF_len {s : Sch} {n : Int} : (rowF s n).length = s.length := by simp [rowF]
theorem rowF_get {s : Sch} {n : Int} {i : Nat} : (rowF s n)[i]? = s[i]?.map (cellF n i) := by simp [rowF]
def Row6I (H0 : HpD) (s : Sch) (n : Int) (k : Nat) (fr : FrD) (H : HpD) : Prop :=
  ∃ (i : Nat) (t : D), k = s.length - i ∧ i ≤ s.length ∧ fr = [(1, .lit (.int .i64 n)), (5, t), (9, schR s), (10, .lit (.int .i64 (s.length : Int))), (11, .lit (.int .i64 (i : Int)))] ∧ Gr H0 H 4 t (rowE ((rowF s n).take i))
theorem law6_row_own (L : HLaw6r p ext F) {s : Sch} {n : Int} {H : HpD} (hs : s.length < 1000) : WcD p ext (F 24) [schD s, .lit (.int .i64 n)] H (fun d H' => Gr H H' 4 d (rowE (rowF s n))) := by
  refine wc_of L.h24 (M := M24) rfl ok24 rfl (sem_run 9000 _ ?_)
  simp [schD]
  refine sem_loop (Row6I H s n) ?_ (k := s.length) ⟨0, .lit .nilslice, by simp, by simp, rfl, by simpa [rowE] using Gr.start⟩
  rintro k fr H' ⟨i, t, rfl, hi, rfl, g⟩
  refine sem_run 9000 _ ?_
  simp
  by_cases c : i < s.length
  · have hx : (rowF s n)[i]? = some (cellF n i s[i]) := by rw [rowF_get]; simp [c]
    have hw : wr .i64 ((i : Int) + 1) = ((i + 1 : Nat) : Int) := by rw [wr_of] <;> omega
    have h1 : wr .i64 (3 * (i : Int)) = 3 * (i : Int) := by rw [wr_of] <;> omega
    have h2 : wr .u64 (3 * (i : Int)) = 3 * (i : Int) := wr_u64 (by omega) (by omega)
    have h3 : (0 : Int) ≤ 3 * (i : Int) := by omega
    have h4 : (3 * (i : Int)).toNat = 3 * i := by omega
    have hl : (rowE ((rowF s n).take i)).length ≤ i := by simp; omega
    by_cases c0 : i = 0
    · subst c0
      simp [c]
      refine sem_push_le (cellF n 0 s[0]).c (g.mono sR) (by simp [cellF, Vl.c, byD, byE, D.le]) rfl rfl (roomyD (by omega) (by omega)) fun s' H1 g1 _ _ => ?_
      simp
      refine sem_ok ?_
      rw [rowE_snoc hx] at g1
      exact ⟨_, by omega, 1, s', rfl, by omega, by simp [wr_of], g1⟩
    · simp [c, c0, h1, h2, h3, h4]
      refine sf (law6_value L) ?_
      simp
      refine sem_push_le (cellF n i s[i]).c (g.mono sR) (by simp [cellF, c0]) rfl rfl (roomyD (by omega) (by omega)) fun s' H1 g1 _ _ => ?_
      simp
      refine sem_ok ?_
      rw [rowE_snoc hx] at g1
      exact ⟨_, by omega, i + 1, s', rfl, by omega, by rw [hw], g1⟩
  · simp [c]
    refine sem_exit (sem_run 9000 _ ?_)
    have : i = s.length := by omega
    subst this
    have hf : (rowF s n).take s.length = rowF s n := by rw [List.take_of_length_le]; rw [rowF_len]; exact Nat.le_refl _
    rw [hf] at g
    simp
    refine sem_ret ?_
    simp [M24]
    exact g
theorem law6_row (L : HLaw6r p ext F) {s : Sch} {n : Int} (hs : s.length < 1000) : FnD p ext (F 24) [schD s, .lit (.int .i64 n)] (rowD (rowF s n)) :=
  own_fn (fun _ => law6_row_own L hs) fun _ => row_underss
def row9F (s : Sch) (i : Nat) (x : Int) : Row := match rowF s x with
  | [] => []
  | v :: r => ⟨v.null, v.kind, 3 * (i : Int) + andI x 1, v.bytes, v.small⟩ :: r
def rows9F (s : Sch) (l : List Int) : List Row := (l.take 40).mapIdx (row9F s)
theorem rows9F_len {s : Sch} {l : List Int} : (rows9F s l).length ≤ 40 := by simp [rows9F]; omega
theorem rows9F_get {s : Sch} {l : List Int} {i : Nat} : (rows9F s l)[i]? = (l.take 40)[i]?.map (row9F s i) := by simp [rows9F]
def intsD (m : Md) (l : List Int) : D := .row 1 m (l.map fun n => [.lit (.int .i64 n)])
theorem lenb_ints {m : Md} {l : List Int} : lenbD (intsD m l) = some (.lit (.int .i64 (l.length : Int))) := by simp [intsD]
theorem at_ints {m : Md} {l : List Int} {n : Nat} : atO 1 (intsD m l) (some n) = elemD (l[n]?.map fun x => [.lit (.int .i64 x)]) := by simp [intsD]
theorem ints_under {m : Md} {l : List Int} {n : Nat} : (intsD m l).under n := by simp only [intsD, D.under]; exact underss_map (fun _ => by simp) _
theorem cellsD_ints {m : Md} {l : List Int} : cellsD (intsD m l) = some [intsD m l] := rfl
attribute [simp] lenb_ints at_ints ints_under cellsD_ints
def Rows9I (H0 : HpD) (s : Sch) (m : Md) (l : List Int) (k : Nat) (fr : FrD) (H : HpD) : Prop :=
  ∃ (i : Nat) (t : D), k = 41 - i ∧ i ≤ 40 ∧ i ≤ l.length ∧ fr = [(1, intsD m l), (2, .rptr [schR s] 0), (5, t), (6, .lit (.int .i64 (i : Int)))] ∧ Gr H0 H 1 t (rowsE ((rows9F s l).take i))
theorem rows9_own (L : HLaw6 p ext F) {s : Sch} {m : Md} {l : List Int} {H : HpD} (hs : s.length < 1000) (hs0 : 0 < s.length) : WcD p ext (F 22) [schD s, intsD m l] H (fun d H' => Gr H H' 1 d (rowsE (rows9F s l))) := by
  refine wc_of L.h22 (M := M22) rfl ok22 rfl (sem_run 9000 _ ?_)
  simp [schD]
  refine sem_loop (Rows9I H s m l) ?_ (k := 41) ⟨0, .lit .nilslice, by simp, by simp, by simp, rfl, by simpa [rowsE] using Gr.start⟩
  rintro k fr H' ⟨i, t, rfl, hi, hi2, rfl, g⟩
  refine sem_run 9000 _ ?_
  simp
  by_cases c : i < l.length
  · by_cases c2 : i < 40
    · have c2' : (i : Int) < 40 := by omega
      simp [c, c2']
      refine sem_dcall ((law6_row_own L (s := s) (n := l[i]) hs).args (by simp [schD])) fun d H1 g1 => sem_run 17 _ ?_
      have hv : ∃ v r, rowF s l[i] = v :: r := by
        cases h : rowF s l[i] with
        | nil => have := rowF_len (s := s) (n := l[i]); rw [h] at this; simp at this; omega
        | cons v r => exact ⟨v, r, rfl⟩
      obtain ⟨v, r, hv⟩ := hv
      rw [hv] at g1
      obtain ⟨b, ex, el0, rfl, hb1, hb2, hb3, hb4, hb5⟩ := g1.place (by simp)
      have hl3 : 2 + 1 ≤ el0.flatten.length := by rw [hb5]; simp; omega
      simp [c, hb3, hl3, -List.length_flatten]
      obtain ⟨q, hq, hq1⟩ := andI_small (a := l[i]) (m := 1) (by simp)
      have hq' : andI l[i] 1 = q := hq
      have hwx : wr .i64 (wr .i64 ((i : Int) * 3) + andI l[i] 1) = 3 * (i : Int) + andI l[i] 1 := by
        rw [hq', show wr .i64 ((i : Int) * 3) = (i : Int) * 3 from by rw [wr_of] <;> omega, wr_of] <;> omega
      rw [hwx]
      have g2 := g1.set rfl hb1 hb2 hb4 (i := 0) (j := 2) (o := 2) (e := v.c) (x := .lit (.int .i64 (3 * (i : Int) + andI l[i] 1))) (by simp [rowE]) (by omega) (by omega)
      have hrow : (rowE (v :: r)).set 0 (v.c.set 2 (.lit (.int .i64 (3 * (i : Int) + andI l[i] 1)))) = rowE (row9F s i l[i]) := by
        simp [row9F, hv, rowE, Vl.c]
      rw [hrow] at g2
      refine sem_turn_ops g2 7 (by simp) fun H3 s3 k3 n3 => sem_run 9000 _ ?_
      simp
      have hx : (rows9F s l)[i]? = some (row9F s i l[i]) := by rw [rows9F_get, List.getElem?_take, if_pos c2]; simp [c]
      refine sem_push_le [rowD (row9F s i l[i])] (g.mono s3) (by simp [rowD]) rfl rfl (roomyD (by simp; omega) (by simp; omega)) fun s' H4 g4 _ _ => ?_
      simp
      refine sem_ok ?_
      rw [rowsE_snoc hx] at g4
      have hw : wr .i64 ((i : Int) + 1) = ((i + 1 : Nat) : Int) := by rw [wr_of] <;> omega
      exact ⟨_, by omega, i + 1, s', rfl, by omega, by omega, by simp [hw], g4⟩
    · have : i = 40 := by omega
      subst this
      simp [c]
      refine sem_exit (sem_run 9000 _ ?_)
      simp
      refine sem_ret ?_
      simp [M22]
      have : (rows9F s l).take 40 = rows9F s l := List.take_of_length_le rows9F_len
      rw [this] at g
      exact g
  · simp [c]
    refine sem_exit (sem_run 9000 _ ?_)
    simp
    refine sem_ret ?_
    simp [M22]
    have : (rows9F s l).take i = rows9F s l := List.take_of_length_le (by simp [rows9F]; omega)
    rw [this] at g
    exact g
theorem rows9 (L : HLaw6 p ext F) {s : Sch} {m : Md} {l : List Int} (hs : s.length < 1000) (hs0 : 0 < s.length) : FnD p ext (F 22) [schD s, intsD m l] (rowsD (rows9F s l)) :=
  own_fn (fun _ => rows9_own L hs hs0) fun _ => rows_underss
def bitI (n : Int) (k : Nat) : Int := andI (shrI .i64 n k) 1
theorem bitI_01 {n : Int} {k : Nat} : bitI n k = 0 ∨ bitI n k = 1 := by
  obtain ⟨q, hq, h1⟩ := andI_small (a := shrI .i64 n k) (m := 1) (by simp)
  have : bitI n k = q := hq
  omega
def colNames : List (List Nat) := [[97], [98, 98], [99, 99, 99], [110, 117, 108, 108], [97, 110, 100]]
def colF (n : Int) (i : Nat) : Cl := ⟨(colNames[i]?).getD [], bitI n (8 + 2 * i) + 1, decide (bitI n (9 + 2 * i) = 1)⟩
def keyC : Cl := ⟨[107, 101, 121], 1, false⟩
def moreF (n : Int) : Nat := (Int.tmod (andI n 255) 6).toNat
def schF (n : Int) : Sch := keyC :: (List.range (moreF n)).map (colF n)
theorem more_le {n : Int} : moreF n ≤ 5 ∧ Int.tmod (andI n 255) 6 = (moreF n : Int) := by
  obtain ⟨q, hq, h1⟩ := andI_small (a := n) (m := 255) (by simp)
  have hq' : andI n 255 = q := hq
  unfold moreF
  rw [hq']
  have : Int.tmod (q : Int) 6 = ((q % 6 : Nat) : Int) := by
    rw [Int.tmod_eq_emod_of_nonneg (by omega)]; omega
  rw [this]
  omega
theorem schF_len {n : Int} : (schF n).length = moreF n + 1 := by simp [schF]
theorem schF_small {n : Int} : (schF n).length < 1000 ∧ 0 < (schF n).length := by
  have := (more_le (n := n)).1
  rw [schF_len]; omega
def SchI (H0 : HpD) (n : Int) (k : Nat) (fr : FrD) (H : HpD) : Prop :=
  ∃ (i : Nat) (t : D), k = 6 - i ∧ i ≤ moreF n ∧ fr = [(0, .lit (.int .i64 n)), (2, .ptr H0.next 0), (3, .ptr (H0.next + 1 + 1) 0), (4, .row 1 .c (colNames.map fun x => [.lit (.str x)])), (5, .lit (.int .i64 (i : Int)))] ∧
    Gr H0 H 3 t (schE (keyC :: (List.range i).map (colF n))) ∧ H.blk (H0.next + 1 + 1) = .cells [t] false ∧ (∃ d, H.blk H0.next = .cells [d] false) ∧ ¬ t.hasB (H0.next + 1 + 1) ∧ ¬ t.hasB H0.next ∧ H0.next + 1 + 1 < H.next
theorem schema_own (L : HLaw6s p ext F) {n : Int} {H : HpD} : WcD p ext (F 23) [.lit (.int .i64 n)] H (fun d H' => ∃ t, d = .agg [t] ∧ Gr H H' 3 t (schE (schF n))) := by
  refine wc_of L.h23 (M := M23) rfl ok23 rfl (sem_run 9000 _ ?_)
  simp
  have gk : Gr H ((H.new (.cells [.lit .nilslice] false)).new (.cells [D.lit (V.str [107, 101, 121]), D.lit (V.int .i64 1), D.lit (V.bool false)] false)) 3 (.slice (H.next + 1) 0 3 1 1 true) (schE (keyC :: (List.range 0).map (colF n))) :=
    Gr.lit (H := H.new (.cells [.lit .nilslice] false)) Sub.refl.new (by simp [schE, Cl.c]) (by simp [schE, Cl.c, keyC]) (by simp [schE])
  have hin := gk.mono (Sub.put (H1 := _) (b := H.next + 1 + 1) (x := .cells [.slice (H.next + 1) 0 3 1 1 true] false) (Sub.refl.new (x := .cells [.lit .nilslice] false)) (by simp))
  refine sem_loop (SchI H n) ?_ (k := 6) ⟨0, .slice (H.next + 1) 0 3 1 1 true, by simp, by omega, by simp [colNames], hin, by simp, ⟨.lit .nilslice, by simp⟩, by simp [D.hasB], by simp [D.hasB], by simp⟩
  rintro k fr H' ⟨i, t, rfl, hi, rfl, g, h3, ⟨d2, h2⟩, n3, n2, hlt⟩
  refine sem_run 9000 _ ?_
  simp
  obtain ⟨hm, hm2⟩ := more_le (n := n)
  by_cases c : i < moreF n
  · have c' : (i : Int) < Int.tmod (andI n 255) 6 := by omega
    have c5 : (i : Int) < 5 := by omega
    have hw : wr .i64 ((i : Int) + 1) = ((i + 1 : Nat) : Int) := by rw [wr_of] <;> omega
    have w1 : wr .i64 (2 * (i : Int)) = 2 * (i : Int) := by rw [wr_of] <;> omega
    have w2 : wr .i64 (8 + 2 * (i : Int)) = 8 + 2 * (i : Int) := by rw [wr_of] <;> omega
    have w3 : wr .i64 (9 + 2 * (i : Int)) = 9 + 2 * (i : Int) := by rw [wr_of] <;> omega
    have w4 : wr .u64 (8 + 2 * (i : Int)) = 8 + 2 * (i : Int) := wr_u64 (by omega) (by omega)
    have w5 : wr .u64 (9 + 2 * (i : Int)) = 9 + 2 * (i : Int) := wr_u64 (by omega) (by omega)
    have p1 : (0 : Int) ≤ 8 + 2 * (i : Int) := by omega
    have p2 : (0 : Int) ≤ 9 + 2 * (i : Int) := by omega
    have t1 : (8 + 2 * (i : Int)).toNat = 8 + 2 * i := by omega
    have t2 : (9 + 2 * (i : Int)).toNat = 9 + 2 * i := by omega
    obtain ⟨nm, hnm⟩ : ∃ nm, colNames[i]? = some nm := ⟨colNames[i]'(by simp [colNames]; omega), by simp⟩
    simp [c', c5, h3, hlt, w1, w2, w3, w4, w5, p1, p2, t1, t2, hnm]
    have hwb : wr .i64 (andI (shrI .i64 n (8 + 2 * i)) 1 + 1) = bitI n (8 + 2 * i) + 1 := by
      rcases bitI_01 (n := n) (k := 8 + 2 * i) with h | h <;> unfold bitI at h ⊢ <;> rw [h] <;> decide
    rw [hwb, appendD_slice1 (b := H'.next) (cs := [.lit (.str nm), .lit (.int .i64 (bitI n (8 + 2 * i) + 1)), .lit (.bool (decide (bitI n (9 + 2 * i) = 1)))]) (ro := false) (by simp [bitI]; congr) (by simp)]
    refine sem_push_le (colF n i).c (g.mono Sub.refl.new) (by simp [colF, Cl.c, hnm]) rfl rfl (roomyD (by simp [schE]; omega) (by simp [schE]; omega)) fun s' H1 g1 k1 n1 => ?_
    have k3 := k1 (H.next + 1 + 1) (by simp; omega) n3
    have k2 := k1 H.next (by simp; omega) n2
    rw [new_blk, if_neg (by omega), h3] at k3
    rw [new_blk, if_neg (by omega), h2] at k2
    obtain ⟨n1, rfl⟩ := n1
    simp at n1
    simp [k3]
    refine sem_ok ?_
    have hs : schE (keyC :: (List.range i).map (colF n)) ++ [(colF n i).c] = schE (keyC :: (List.range (i+1)).map (colF n)) := by simp [schE, List.range_succ]
    rw [hs] at g1
    refine ⟨_, by omega, i + 1, _, rfl, by omega, by rw [hw], g1.keep (g1.sub.put (by omega)) (by simp) (fun x hx => ?_), by simp, ⟨d2, ?_⟩, ?_, ?_, ?_⟩
    · rw [put_blk, if_neg]
      rintro rfl
      simp [D.hasB] at hx
      omega
    · rw [put_blk, if_neg (by omega), k2]
    · simp [D.hasB]; omega
    · simp [D.hasB]; omega
    · simp; omega
  · have c' : ¬ (i : Int) < Int.tmod (andI n 255) 6 := by omega
    have : i = moreF n := by omega
    subst this
    have hft : flatD t = true := by
      rcases g.at_ with ⟨rfl, _⟩ | ⟨b, ex, el0, rfl, _⟩ <;> rfl
    simp [c']
    refine sem_exit (sem_run 9000 _ ?_)
    simp [h3, h2, hft]
    refine sem_ret ?_
    simp [M23]
    refine g.keep (g.sub.put (Nat.le_refl _)) (by simp) fun x hx => ?_
    rw [put_blk, if_neg]
    rintro rfl
    exact n2 hx
theorem schema (L : HLaw6s p ext F) {n : Int} : FnD p ext (F 23) [.lit (.int .i64 n)] (schD (schF n)) := by
  intro H
  refine WcD.drop ((schema_own L).mono ?_)
  rintro d H' ⟨t, rfl, g⟩
  obtain ⟨H2, w, s, u⟩ := g.finA sch_underss (m := .p) (by simp)
  exact ⟨_, H2, w, s, u, rfl, rfl⟩
end Go.Lib
end

section
set_option maxRecDepth 10000
namespace Go.Lib
open Go.Vm Go.Dv Go.Srt
variable {p : Prog} {ext : Ext} {F : Nat → Nat}
def colF1 (cols : List Int) (r : Row) : Row := cols.map fun c => atV r c
def colsF (cols : List Int) (l : List Row) : List Row := l.map (colF1 cols)
theorem colF1_len {cols : List Int} {r : Row} : (colF1 cols r).length = cols.length := by simp [colF1]
theorem colsF_len {cols : List Int} {l : List Row} : (colsF cols l).length = l.length := by simp [colsF]
theorem colF1_get {cols : List Int} {r : Row} {i : Nat} {c : Int} (h : cols[i]? = some c) : (colF1 cols r)[i]? = some (atV r c) := by simp [colF1, h]
theorem colsF_get {cols : List Int} {l : List Row} {i : Nat} {r : Row} (h : l[i]? = some r) : (colsF cols l)[i]? = some (colF1 cols r) := by simp [colsF, h]
theorem colsF_good {ks cols : List Int} {l : List Row} (hg : GoodRs ks l) (hc : ∀ c, c ∈ cols → InK ks c) : GoodRs (cols.map fun c => (ks[c.toNat]?).getD 0) (colsF cols l) := by
  intro x hx
  obtain ⟨r, hr, rfl⟩ := List.mem_map.1 hx
  refine ⟨?_, fun v hv => ?_⟩
  · unfold Kin colF1
    rw [List.map_map]
    exact List.map_congr_left fun c h => ((hg r hr).at_ (hc c h)).1
  · obtain ⟨c, h, rfl⟩ := List.mem_map.1 hv
    exact ((hg r hr).at_ (hc c h)).2
theorem colsF_fine {cols : List Int} {l : List Row} (hl : Fine l) (hc : cols.length < 1000000) : Fine (colsF cols l) :=
  ⟨by rw [colsF_len]; exact hl.1, fun x hx => by obtain ⟨r, _, rfl⟩ := List.mem_map.1 hx; rw [colF1_len]; exact hc⟩
end Go.Lib
end

section
set_option maxRecDepth 10000
namespace Go.Lib
open Go.Vm Go.Dv Go.Srt
variable {p : Prog} {ext : Ext} {F : Nat → Nat}
def AColsI (H0 : HpD) (l : List Row) (m : Md) (cols : List Int) (k : Nat) (fr : FrD) (H : HpD) : Prop :=
  ∃ (i : Nat) (s : D), k = l.length - i ∧ i ≤ l.length ∧ fr = [(1, intsD m cols), (5, s), (11, rowsD l), (12, .lit (.int .i64 (l.length : Int))), (13, .lit (.int .i64 (i : Int)))] ∧ Gr H0 H 1 s (rowsE ((colsF cols l).take i))
def ACols2I (H0 : HpD) (l : List Row) (m : Md) (cols : List Int) (i : Nat) (s : D) (r : Row) (k : Nat) (fr : FrD) (H : HpD) : Prop :=
  ∃ (j : Nat) (t : D), k = cols.length - j ∧ j ≤ cols.length ∧ fr = [(1, intsD m cols), (5, s), (7, rowD r), (8, t), (11, rowsD l), (12, .lit (.int .i64 (l.length : Int))), (13, .lit (.int .i64 (i : Int))), (17, intsD m cols), (18, .lit (.int .i64 (cols.length : Int))), (19, .lit (.int .i64 (j : Int)))] ∧ Gr H0 H 4 t (rowE ((colF1 cols r).take j))
theorem aggr_more (L : HAggr p ext F) (hx : ∀ args h, ext (F 45) args h = extV .add64 args h) {a b : Int} (ha : In64 a) (hb : In64 b) : FnD p ext (F 40) [.lit (.int .i64 a), .lit (.int .i64 b)] (.tup [.lit (.int .i64 (wr .i64 ((a + b) % 18446744073709551616))), .lit (.bool (decide (In64 (a + b))))]) := by
  refine fn_of L.h40 (M := M40) rfl ok40 rfl fun H => sem_run 9000 _ ?_
  simp
  have ha' := ha
  have hb' := hb
  unfold In64 at ha' hb'
  have e0 : (H.new (.cells [.lit (.int .i64 0), .lit (.int .u64 0)] false)).blk H.next = .cells [hiT 0, loT 0] false := by simp [hiT, loT]
  refine sem_call (wide_add L hx (t := 0) (n := a) e0 (by simp) (by omega) ha) ?_
  rintro _ H2 ⟨rfl, rfl⟩
  refine sem_run 9000 _ ?_
  simp
  refine sem_call (wide_add L hx (t := 0 + a) (n := b) (by simp) (by simp) (by omega) hb) ?_
  rintro _ H2 ⟨rfl, rfl⟩
  refine sem_run 9000 _ ?_
  simp
  have he := wide_end (t := 0 + a + b) (by omega)
  have e1 : (0 : Int) + a + b = a + b := by omega
  rw [e1] at he
  simp [hiT, loT, shr63]
  have hd : decide ((a + b) / 18446744073709551616 = wr .i64 ((a + b) % 18446744073709551616) / 9223372036854775808) = decide (In64 (a + b)) := by
    by_cases h : In64 (a + b)
    · rw [decide_eq_true h, decide_eq_true]
      exact Decidable.byContradiction fun h2 => he.1 h2 h
    · rw [decide_eq_false h, decide_eq_false (he.2 h)]
  rw [hd]
  refine sem_ret ?_
  simp [M40]
  exact .le sR (D.le_refl _) (by simp)
structure Sx where
  col : Int
  add : Bool
  v : Vl
def Sx.c (x : Sx) : List D := .lit (.int .i64 x.col) :: .lit (.bool x.add) :: x.v.c
def sxsE (l : List Sx) : List (List D) := l.map Sx.c
def sxsD (l : List Sx) : D := .row 6 .p (sxsE l)
theorem sxs_len {l : List Sx} : (sxsE l).length = l.length := by simp [sxsE]
theorem lenb_sxs {l : List Sx} : lenbD (sxsD l) = some (.lit (.int .i64 (l.length : Int))) := by simp [sxsD, sxs_len]
theorem at_sxs {l : List Sx} {n : Nat} : atO 6 (sxsD l) (some n) = elemD (l[n]?.map Sx.c) := by simp [sxsD, sxsE]
theorem sx_len {a : Sx} : a.c.length = 6 := rfl
theorem sx_flats {a : Sx} : flatsD a.c = true := rfl
theorem sx_take {a : Sx} : a.c.take 6 = a.c := rfl
theorem sx_drop {a : Sx} : a.c.drop 6 = [] := rfl
theorem sx_0 {a : Sx} : a.c[0]? = some (.lit (.int .i64 a.col)) := rfl
theorem sx_1 {a : Sx} : a.c[1]? = some (.lit (.bool a.add)) := rfl
theorem sx_4 {a : Sx} : a.c[4]? = some (.lit (.int .i64 a.v.n)) := rfl
theorem sx_v {a : Sx} : (a.c.drop 2).take 4 = a.v.c := rfl
theorem sx_unders {n : Nat} {a : Sx} : D.unders n a.c := by simp [Sx.c]
attribute [simp] sxs_len lenb_sxs at_sxs sx_len sx_flats sx_take sx_drop sx_0 sx_1 sx_4 sx_v sx_unders
def withN (v : Vl) (n : Int) : Vl := ⟨v.null, v.kind, n, v.bytes, v.small⟩
def setS (r : Row) (x : Sx) : Option Row :=
  if x.col < 0 ∨ (r.length : Int) ≤ x.col then some r else
  if x.add = false then some (r.set x.col.toNat x.v) else
  if (atV r x.col).null = true then some r else
  if In64 ((atV r x.col).n + x.v.n) then some (r.set x.col.toNat (withN (atV r x.col) ((atV r x.col).n + x.v.n))) else none
def setF : Row → List Sx → Option Row
  | r, [] => some r
  | r, x :: l => match setS r x with
    | some r' => setF r' l
    | none => none
def setD (o : Option Row) : D := .tup [rowD (o.getD []), .lit (.bool o.isSome)]
end Go.Lib
end

section
set_option maxRecDepth 10000
namespace Go.Lib
open Go.Vm Go.Dv Go.Srt
variable {p : Prog} {ext : Ext} {F : Nat → Nat}
theorem clone_byN (L : HSchmC p ext F) {b : List By} (hb : b.length < 1000000) : FnD p ext (F 14) [byD b] (byN b) := by
  refine fn_of L.h14 (M := M14) rfl ok14 rfl fun H => sem_run 9000 _ ?_
  simp [byD]
  refine ⟨?_, ?_⟩
  · intro h0
    refine sem_ret ?_
    simp [M14]
    exact .le .refl (by unfold byN; rw [h0]; simp [D.le]) (by simp)
  · obtain ⟨s', H', e, g, _⟩ := (Gr.lit (el := []) (sz := 1) (H := H) (ex := true) (c := []) (n := 0) Sub.refl (by simp) rfl rfl).app (by_ := 1) (m := .p) (new := byE b) by_one by_flats (roomyD (by simp; omega) (by simp; omega))
    simp [e]
    refine sem_ret ?_
    simp [M14]
    exact g.finN (by simp)
theorem schm_valN (L : HSchmC p ext F) {v : Vl} : FnD p ext (F 5) [.agg v.c] (.agg v.cN) := by
  refine fn_of L.h5 (M := M5) rfl ok5 rfl fun H => sem_run 9000 _ ?_
  simp
  refine sf (clone_byN L v.small) ?_
  simp
  refine sem_ret ?_
  simp [M5, Vl.c]
  exact .le sR (by simp [Vl.cN, D.le_refl]) (by simp)
theorem schm_atN (L : HSchmC p ext F) {r : Row} {c : Int} : FnD p ext (F 3) [rowD r, .lit (.int .i64 c)] (.agg (atV r c).cN) := by
  refine fn_of L.h3 (M := M3) rfl ok3 rfl fun H => sem_run 9000 _ ?_
  simp
  by_cases h1 : c < 0
  · simp [h1]
    refine sem_ret ?_
    simp [M3]
    exact .le sR (by rw [atV, if_pos h1]; exact zvN_le) (by simp)
  · obtain ⟨n, rfl⟩ : ∃ n : Nat, c = n := ⟨c.toNat, by omega⟩
    by_cases h2 : r.length ≤ n
    · simp [h1, h2]
      refine sem_ret ?_
      simp [M3]
      exact .le sR (by rw [atV, if_neg h1]; simp [h2]; exact zvN_le) (by simp)
    · have h3 : n < r.length := by omega
      simp [h1, h2, h3]
      refine sf (schm_valN L) ?_
      simp
      refine sem_ret ?_
      simp [M3]
      exact .le sR (by rw [atV, if_neg h1]; simp [h3]) (by simp)
def RowIN (H0 : HpD) (r : Row) (k : Nat) (fr : FrD) (H : HpD) : Prop :=
  ∃ (i : Nat) (s : D), k = r.length - i ∧ i ≤ r.length ∧ fr = [(3, s), (6, rowD r), (7, .lit (.int .i64 (r.length : Int))), (8, .lit (.int .i64 (i : Int)))] ∧ Gr H0 H 4 s (rowEN (r.take i))
theorem row_ownN (L : HSchmC p ext F) {r : Row} {H : HpD} (hr : r.length < 1000000) : WcD p ext (F 4) [rowD r] H (fun d H' => Gr H H' 4 d (rowEN r)) := by
  refine wc_of L.h4 (M := M4) rfl ok4 rfl (sem_run 9000 _ ?_)
  simp
  refine sem_loop (RowIN H r) ?_ (k := r.length) ⟨0, .lit .nilslice, by simp, by simp, rfl, by simpa [rowEN] using Gr.start⟩
  rintro k fr H' ⟨i, s, rfl, hi, rfl, g⟩
  refine sem_run 9000 _ ?_
  simp
  by_cases c : i < r.length
  · have hx : r[i]? = some r[i] := by simp
    simp [c]
    refine sf (schm_valN L) ?_
    simp
    refine sem_push (g.mono sR) rfl rfl (roomyD (by simp; omega) (by simp; omega)) fun s' H1 g1 _ _ => ?_
    simp
    refine sem_ok ?_
    have hw : wr .i64 ((i : Int) + 1) = ((i + 1 : Nat) : Int) := by rw [wr_of] <;> omega
    rw [rowEN_snoc hx] at g1
    exact ⟨_, by omega, i + 1, s', rfl, by omega, by rw [hw], g1⟩
  · simp [c]
    refine sem_exit (sem_run 9000 _ ?_)
    have : i = r.length := by omega
    subst this
    rw [List.take_length] at g
    simp
    refine sem_call (clip4_own L g) fun d H2 g2 => ?_
    refine sem_run 9000 _ ?_
    simp
    refine sem_ret ?_
    simp [M4]
    exact g2
theorem schm_rowN (L : HSchmC p ext F) {r : Row} (hr : r.length < 1000000) : FnD p ext (F 4) [rowD r] (rowDN r) :=
  own_fnN (fun _ => row_ownN L hr) fun _ => rowN_underss
def StillIN (H0 : HpD) (l : List Row) (k : Nat) (fr : FrD) (H : HpD) : Prop :=
  ∃ (i : Nat) (s : D), k = l.length - i ∧ i ≤ l.length ∧ fr = [(3, s), (6, rowsD l), (7, .lit (.int .i64 (l.length : Int))), (8, .lit (.int .i64 (i : Int)))] ∧ Gr H0 H 1 s (rowsEN (l.take i))
theorem still_ownN (L : HAggr p ext F) {l : List Row} {H : HpD} (hl : Fine l) : WcD p ext (F 37) [rowsD l] H (fun d H' => Gr H H' 1 d (rowsEN l)) := by
  refine wc_of L.h37 (M := M37) rfl ok37 rfl (sem_run 9000 _ ?_)
  simp
  refine sem_loop (StillIN H l) ?_ (k := l.length) ⟨0, .lit .nilslice, by simp, by simp, rfl, by simpa [rowsEN] using Gr.start⟩
  rintro k fr H' ⟨i, s, rfl, hi, rfl, g⟩
  refine sem_run 9000 _ ?_
  simp
  have hl1 := hl.1
  by_cases c : i < l.length
  · have hx : l[i]? = some l[i] := by simp
    have hr := hl.2 l[i] (by simp)
    simp [c]
    refine sf (schm_rowN L.schm hr) ?_
    simp
    refine sem_push (g.mono sR) rfl rfl (roomyD (by simp; omega) (by simp; omega)) fun s' H1 g1 _ _ => ?_
    simp
    refine sem_ok ?_
    have hw : wr .i64 ((i : Int) + 1) = ((i + 1 : Nat) : Int) := by rw [wr_of] <;> omega
    rw [rowsEN_snoc hx] at g1
    exact ⟨_, by omega, i + 1, s', rfl, by omega, by rw [hw], g1⟩
  · simp [c]
    refine sem_exit (sem_run 9000 _ ?_)
    have : i = l.length := by omega
    subst this
    rw [List.take_length] at g
    simp
    refine sem_call (clip_own L g) fun d H2 g2 => ?_
    refine sem_run 9000 _ ?_
    simp
    refine sem_ret ?_
    simp [M37]
    exact g2
def rowEncN : Enc Row := ⟨rowDN, fun _ => rfl, fun _ => rfl⟩
theorem rowsEN_flat {l : List Row} : (rowsEN l).flatten = l.map rowEncN.d := by
  induction l with
  | nil => rfl
  | cons r l ih => simp only [rowsEN, List.map_cons, List.flatten_cons] at ih ⊢; rw [ih]; rfl
theorem sort_ownN (L : HAggr p ext F) {H0 H : HpD} {s : D} {l : List Row} {cv : D} {G : Row → Prop} {cmp : Row → Row → Int} (hc : Cmp p ext rowEncN G cv cmp) (hl : l.length < 1000000) (hG : ∀ r, r ∈ l → G r) (g : GrX H0 H 1 s (rowsEN l)) :
    WcD p ext (F 26) [s, cv] H (fun d H' => d = .tup [] ∧ ∃ l', Gr H0 H' 1 s (rowsEN l') ∧ l'.Perm l ∧ Srt cmp l' 0 l.length) := by
  rcases g.at_ with ⟨rfl, h⟩ | ⟨b, ex, rfl, h1, h2, h3⟩
  · have : l = [] := by simpa [rowsEN] using h
    subst this
    refine (sortStable_nil L.srt).mono ?_
    rintro d H' ⟨rfl, rfl⟩
    exact ⟨rfl, [], g.gr, .refl _, fun p q x y h1 h2 h3 => by simp at h3⟩
  · rw [rowsEN_flat] at h3
    have sp := sortStable L.srt (E := rowEncN) (H := H) (bs := b) (c := l.length) (ex := ex) (X := l) (n := l.length) hc h2 rfl hl hG
    rw [hp_self h3] at sp
    rw [rowsEN_len]
    refine sp.mono ?_
    rintro d H' ⟨rfl, l', rfl, hp1, hs⟩
    refine ⟨rfl, l', ⟨g.gr.sub.put h1, by simpa using rowsN_one, .inr ⟨b, ex, rowsEN l', ?_, h1, h2, ?_, D.less_refl _⟩⟩, hp1, hs⟩
    · rw [rowsEN_len, hp1.length_eq]
    · rw [rowsEN_flat]; simp
theorem rows_cmpN (L : HSchmC p ext F) {x y : Row} (hx : x.length < 1000000) : FnD p ext (F 2) [rowDN x, rowDN y] (.lit (.int .i64 (cmpRow cmpV x y))) := fun H => (schm_rows L hx H).args (by simp)
theorem cmpR_okN (L : HAggr p ext F) {ks : List Int} : Cmp p ext rowEncN (fun r => Kin ks r ∧ r.length < 1000000) (.func (F 2) [] []) cmpR :=
  ⟨⟨F 2, [], [], rfl, fun x y hx _ => by simpa [rowEncN, cmpR] using rows_cmpN L.schm hx.2⟩, fun x y hx hy => cmpRow_ord.anti x y hx.1 hy.1, fun x y z hx hy hz => cmpRow_ord.trans x y z hx.1 hy.1 hz.1⟩
theorem aggr_sort_ownN (L : HAggr p ext F) {l : List Row} {ks : List Int} {H : HpD} (hl : Fine l) (hks : ∀ r, r ∈ l → Kin ks r) : WcD p ext (F 33) [rowsD l] H (fun d H' => ∃ l', Gr H H' 1 d (rowsEN l') ∧ l'.Perm l ∧ Srt cmpR l' 0 l.length) := by
  refine wc_of L.h33 (M := M33) rfl ok33 rfl (sem_run 9000 _ ?_)
  simp
  refine sem_call (still_ownN L hl) fun d H1 g1 => ?_
  refine sem_run 9000 _ ?_
  simp
  refine sem_exact_call g1 fun H2 g2 _ _ => ?_
  refine sem_call (sort_ownN L (cmpR_okN L) hl.1 (fun r hr => ⟨hks r hr, hl.2 r hr⟩) g2) ?_
  rintro _ H3 ⟨rfl, l', g3, hp1, hs⟩
  refine sem_run 9000 _ ?_
  simp
  refine sem_ret ?_
  simp [M33]
  exact ⟨l', g3, hp1, hs⟩
theorem aggr_sortN (L : HAggr p ext F) {ks : List Int} {l : List Row} (hl : Fine l) (hg : GoodRs ks l) : FnD p ext (F 33) [rowsD l] (rowsDN (sortL cmpR l)) :=
  own_fnN (fun _ => (aggr_sort_ownN L hl fun r hr => (hg r hr).kin).mono fun d H' ⟨l', g, hp1, hs⟩ => by
    rw [srt_sort cmpR_ord cmpR_zero hg hp1 hs] at g; exact g) fun _ => rowsN_underss
theorem aggr_colsN (L : HAggr p ext F) {ks cols : List Int} {m : Md} {l : List Row} (hl : Fine l) (hg : GoodRs ks l) (hcl : cols.length < 1000) (hc : ∀ c, c ∈ cols → InK ks c) : FnD p ext (F 34) [rowsD l, intsD m cols] (rowsDN (sortL cmpR (colsF cols l))) := by
  refine fn_of L.h34 (M := M34) rfl ok34 rfl fun H => sem_run 9000 _ ?_
  simp
  have hl1 := hl.1
  refine sem_loop (AColsI H l m cols) ?_ (k := l.length) ⟨0, .lit .nilslice, by simp, by simp, rfl, by simpa [rowsE] using Gr.start⟩
  rintro k fr H' ⟨i, s, rfl, hi, rfl, g⟩
  refine sem_run 9000 _ ?_
  simp
  by_cases c : i < l.length
  · obtain ⟨r, hr⟩ : ∃ r, l[i]? = some r := ⟨l[i], by simp⟩
    simp [c, hr, -getElem?_pos]
    refine sem_loop (ACols2I H' l m cols i s r) ?_ (k := cols.length) ⟨0, .lit .nilslice, by simp, by simp, rfl, by simpa [rowE] using Gr.start⟩
    rintro k fr H2 ⟨j, t, rfl, hj, rfl, g2⟩
    refine sem_run 9000 _ ?_
    simp
    by_cases c2 : j < cols.length
    · obtain ⟨x, hx⟩ : ∃ x, cols[j]? = some x := ⟨cols[j], by simp⟩
      have wj : wr .i64 ((j : Int) + 1) = ((j + 1 : Nat) : Int) := by rw [wr_of] <;> omega
      simp [c2, hx, -getElem?_pos]
      refine sf (schm_at L.schm) ?_
      simp
      refine sem_push (g2.mono sR) rfl rfl (roomyD (by simp [row_len]; omega) (by simp [row_len]; omega)) fun s' H3 g3 _ _ => ?_
      simp
      refine sem_ok ?_
      rw [rowE_snoc (colF1_get hx)] at g3
      exact ⟨_, by omega, j + 1, s', rfl, by omega, by rw [wj], g3⟩
    · have : j = cols.length := by omega
      subst this
      simp
      have e : (colF1 cols r).take cols.length = colF1 cols r := List.take_of_length_le (by rw [colF1_len]; exact Nat.le_refl _)
      rw [e] at g2
      refine sem_turn_exit g2 8 (by simp) fun H3 s3 k3 n3 => ?_
      refine sem_exit (sem_run 9000 _ ?_)
      simp
      refine sem_push_le [rowD (colF1 cols r)] (g.mono s3) (by simp [rowD]) rfl rfl (roomyD (by simp; omega) (by simp; omega)) fun s' H4 g4 _ _ => ?_
      simp
      refine sem_ok ?_
      have wi : wr .i64 ((i : Int) + 1) = ((i + 1 : Nat) : Int) := by rw [wr_of] <;> omega
      rw [rowsE_snoc (colsF_get hr)] at g4
      exact ⟨_, by omega, i + 1, s', rfl, by omega, by rw [wi], g4⟩
  · have : i = l.length := by omega
    subst this
    simp
    refine sem_exit (sem_run 9000 _ ?_)
    have e : (colsF cols l).take l.length = colsF cols l := List.take_of_length_le (by rw [colsF_len]; exact Nat.le_refl _)
    rw [e] at g
    simp
    refine sem_row g 0 rfl fun H2 s2 _ _ => ?_
    refine sem_fn (aggr_sortN L (colsF_fine hl (by omega)) (colsF_good hg hc)) (by simp [rowsD]) (sem_run 9000 _ ?_)
    simp
    refine sem_ret ?_
    simp [M34]
    exact .le s2 (D.le_refl _) (by simp)
end Go.Lib
end

section
set_option maxRecDepth 10000
namespace Go.Lib
open Go.Vm Go.Dv Go.Srt
variable {p : Prog} {ext : Ext} {F : Nat → Nat}
theorem vlN_setk {v : Vl} {k : Int} : spliceD v.cN 1 [.lit (.int .i64 k)] = (setKind v k).cN := rfl
theorem aggr_sumN (L : HAggr p ext F) (hx : ∀ args h, ext (F 45) args h = extV .add64 args h) {l : List Row} {c : Int} (hl : Fine l) (hn : Nums c l) : FnD p ext (F 43) [rowsD l, .lit (.int .i64 c)] (.tup [.agg (sumV c l).1.cN, .lit (.bool (sumV c l).2)]) := by
  refine fn_of L.h43 (M := M43) rfl ok43 rfl fun H => sem_run 9000 _ ?_
  simp
  refine sem_loop (SumI H c l) ?_ (k := l.length) ⟨0, 0, by simp, by simp, by simp [sumT], rfl, sR, by simp [hiT, loT], by simp [zeroC], by simp⟩
  rintro k fr H' ⟨i, t, rfl, hi, ht, rfl, hs, h1, h0, hlt⟩
  refine sem_run 9000 _ ?_
  simp
  have hl1 := hl.1
  by_cases c1 : i < l.length
  · have hx' : l[i]? = some l[i] := by simp
    simp [c1]
    refine sf (schm_at L.schm) ?_
    simp
    have hb := sumT_le (hn.take i)
    rw [← ht, List.length_take, Nat.min_eq_left hi] at hb
    have hw : wr .i64 ((i : Int) + 1) = ((i + 1 : Nat) : Int) := by rw [wr_of] <;> omega
    have hterm := sumT_snoc (c := c) hx'
    rw [← ht] at hterm
    have hne : H.next + 1 ≠ H'.next := by omega
    have hne0 : H.next ≠ H'.next := by omega
    cases hnul : (atV l[i] c).null with
    | false =>
      simp
      refine sem_call (wide_add L hx (t := t) (n := (atV l[i] c).n) (by simp [hne, h1]) (by simp; omega) (by omega) (hn _ (by simp))) ?_
      rintro _ H2 ⟨rfl, rfl⟩
      refine sem_run 9000 _ ?_
      simp
      refine sem_ok ?_
      refine ⟨_, by omega, i + 1, t + (atV l[i] c).n, rfl, by omega, ?_, by simp [hw], (sB hs), by simp, ?_, by simp; omega⟩
      · rw [hterm, term, hnul]; simp
      · simp [hne0, h0]
    | true =>
      simp
      refine sem_ok ?_
      refine ⟨_, by omega, i + 1, t, rfl, by omega, ?_, by simp [hw], (sB hs), ?_, ?_, by simp; omega⟩
      · rw [hterm, term, hnul]; simp
      · simp [hne, h1]
      · simp [hne0, h0]
  · have : i = l.length := by omega
    subst this
    simp
    refine sem_exit (sem_run 9000 _ ?_)
    have hb := sumT_le hn
    rw [List.take_length] at ht
    rw [← ht] at hb
    have he := wide_end (t := t) (by omega)
    by_cases c2 : In64 t
    · have hq : t / 18446744073709551616 = (wr .i64 (t % 18446744073709551616)) / 9223372036854775808 := Decidable.byContradiction fun h => he.1 h c2
      rw [wide_low c2] at hq
      simp [h1, hiT, loT, shr63, hq, wide_low c2, h0, zeroC]
      refine sem_ret ?_
      simp [M43]
      have e : sumV c l = (numV t, true) := by rw [sumV, ← ht, if_pos c2]
      rw [e]
      exact .le (sB hs) (by simp [Vl.cN, numV, byN, byE, D.le]) (by simp)
    · have hq := he.2 c2
      simp [h1, hiT, loT, shr63, hq, h0, zeroC]
      refine sem_ret ?_
      simp [M43]
      have e : sumV c l = (zv, false) := by rw [sumV, ← ht, if_neg c2]
      rw [e]
      exact .le (sB hs) (by simp [Vl.cN, zv, byN, byE, D.le]) (by simp)
def EndIN (H0 : HpD) (c sg : Int) (l : List Row) (k : Nat) (fr : FrD) (H : HpD) : Prop :=
  ∃ (i : Nat) (o : Vl), k = l.length - i ∧ i ≤ l.length ∧ o = endF c sg (l.take i) ∧ fr = [(1, .lit (.int .i64 c)), (2, .lit (.int .i64 sg)), (6, .ptr H0.next 0), (7, .ptr (H0.next + 1) 0), (12, rowsD l), (13, .lit (.int .i64 (l.length : Int))), (14, .lit (.int .i64 (i : Int)))] ∧
    Sub H0 H ∧ H.blk (H0.next + 1) = .cells o.cN false ∧ H.blk H0.next = .cells zeroC false ∧ H0.next + 1 < H.next
theorem aggr_endN (L : HAggr p ext F) {l : List Row} {c sg : Int} (hl : Fine l) (hsg : sg = 1 ∨ sg = -1) : FnD p ext (F 44) [rowsD l, .lit (.int .i64 c), .lit (.int .i64 sg)] (.agg (endF c sg l).cN) := by
  refine fn_of L.h44 (M := M44) rfl ok44 rfl fun H => sem_run 9000 _ ?_
  simp
  refine sem_weak (Weak.tell (b := H.next + 1) (ro := false) (cs := [.lit (.bool true), .lit (.int .i64 0), .lit (.int .i64 0), .lit .nilslice]) (cs' := nullV.cN) (by simp) (by simp [Vl.cN, nullV, byN, byE, D.le, D.les])) ?_
  refine sem_loop (EndIN H c sg l) ?_ (k := l.length) ⟨0, nullV, by simp, by simp, by simp [endF], rfl, sR, by simp, by simp [zeroC], by simp⟩
  rintro k fr H' ⟨i, o, rfl, hi, ho, rfl, hs, h1, h0, hlt⟩
  refine sem_run 9000 _ ?_
  simp
  have hl1 := hl.1
  by_cases c1 : i < l.length
  · have hx' : l[i]? = some l[i] := by simp
    simp [c1]
    refine sf (schm_atN L.schm) ?_
    simp
    have hw : wr .i64 ((i : Int) + 1) = ((i + 1 : Nat) : Int) := by rw [wr_of] <;> omega
    have hterm := endF_snoc (c := c) (sg := sg) hx'
    rw [← ho] at hterm
    have hne : H.next + 1 ≠ H'.next := by omega
    have hne0 : H.next ≠ H'.next := by omega
    have hlt2 : H.next + 1 < H'.next + 1 := by omega
    cases hnul : (atV l[i] c).null with
    | true =>
      simp [hne, h1, vlN_setk]
      refine sem_ok ?_
      refine ⟨_, by omega, i + 1, setKind o (atV l[i] c).kind, rfl, by omega, ?_, by simp [hw], (sB hs), by simp, ?_, by simp; omega⟩
      · rw [hterm, endS, if_pos hnul]
      · simp [hne0, h0]
    | false =>
      cases honul : o.null with
      | true =>
        simp [hne, h1, honul]
        refine sem_ok ?_
        refine ⟨_, by omega, i + 1, atV l[i] c, rfl, by omega, ?_, by simp [hw], (sB hs), by simp, ?_, by simp; omega⟩
        · rw [hterm, endS, if_neg (by simp [hnul]), if_pos (.inl honul)]
        · simp [hne0, h0]
      | false =>
        simp [hne, h1, honul]
        refine sf (schm_compare L.schm (a := atV l[i] c) (b := o)) ?_
        simp
        have hab := cmpV_abs (a := atV l[i] c) (b := o)
        have hm : -1 ≤ cmpV (atV l[i] c) o * sg ∧ cmpV (atV l[i] c) o * sg ≤ 1 := by
          rcases hsg with rfl | rfl <;> omega
        rw [wr_of (by omega) (by omega)]
        by_cases c3 : 0 < cmpV (atV l[i] c) o * sg
        · simp [c3, hne, h1]
          refine sem_ok ?_
          refine ⟨_, by omega, i + 1, atV l[i] c, rfl, by omega, ?_, by simp [hw], (sB hs), by simp, ?_, by simp; omega⟩
          · rw [hterm, endS, if_neg (by simp [hnul]), if_pos (.inr c3)]
          · simp [hne0, h0]
        · simp [c3]
          refine sem_ok ?_
          refine ⟨_, by omega, i + 1, o, rfl, by omega, ?_, by simp [hw], (sB hs), by simp [hne, h1], ?_, by simp; omega⟩
          · rw [hterm, endS, if_neg (by simp [hnul]), if_neg (by simp [honul, c3])]
          · simp [hne0, h0]
  · have : i = l.length := by omega
    subst this
    simp
    refine sem_exit (sem_run 9000 _ ?_)
    have hlt0 : H.next < H'.next := by omega
    simp [h1, h0, zeroC]
    refine sem_ret ?_
    simp [M44]
    rw [List.take_length] at ho
    rw [← ho]
    exact .le (sB hs) (by simp) (by simp)
theorem aggr_oneN (L : HAggr p ext F) (hx : ∀ args h, ext (F 45) args h = extV .add64 args h) {l : List Row} {a : Ag} (hl : Fine l) (ha : AgOk l a) : FnD p ext (F 41) [rowsD l, .agg a.c] (.tup [.agg (oneF l a).1.cN, .lit (.bool (oneF l a).2)]) := by
  refine fn_of L.h41 (M := M41) rfl ok41 rfl fun H => sem_run 9000 _ ?_
  simp [Ag.c]
  have e : ∀ {x y : Vl × Bool} {c : Prop} [Decidable c], c → (if c then x else y) = x := fun h => if_pos h
  refine sem_if (fun c1 => ?_) fun c1 => ?_
  · simp
    refine sem_ret ?_
    simp [M41]
    rw [oneF, if_pos c1]
    exact .le sR (by simp [Vl.cN, numV, byN, byE, D.le]) (by simp)
  simp
  refine sem_if (fun c2 => ?_) fun c2 => ?_
  · simp
    refine sf (aggr_sumN L hx hl (ha c2)) ?_
    simp
    refine sem_ret ?_
    simp [M41]
    rw [oneF, if_neg c1, if_pos c2]
    exact .le sR (by simp) (by simp)
  simp
  refine sem_if (fun c3 => ?_) fun c3 => ?_
  · simp
    refine sf (aggr_endN L hl (.inr rfl)) ?_
    simp
    refine sem_ret ?_
    simp [M41]
    rw [oneF, if_neg c1, if_neg c2, if_pos c3]
    exact .le sR (by simp) (by simp)
  simp
  refine sf (aggr_endN L hl (.inl rfl)) ?_
  simp
  refine sem_ret ?_
  simp [M41]
  rw [oneF, if_neg c1, if_neg c2, if_neg c3]
  exact .le sR (by simp) (by simp)
def AllIN (H0 : HpD) (r : Row) (l : List Row) (ags : List Ag) (k : Nat) (fr : FrD) (H : HpD) : Prop :=
  ∃ (i : Nat) (s : D), k = ags.length - i ∧ i ≤ ags.length ∧ fr = [(1, rowsD l), (8, s), (14, agsD ags), (15, .lit (.int .i64 (ags.length : Int))), (16, .lit (.int .i64 (i : Int)))] ∧ Gr H0 H 4 s (rowEN (r ++ vals l (ags.take i))) ∧ oks l (ags.take i) = true
def AllRN (H0 : HpD) (r : Row) (l : List Row) (ags : List Ag) (d : D) (H' : HpD) : Prop :=
  (oks l ags = true ∧ ∃ s', d = .tup [s', .lit (.bool true)] ∧ Gr H0 H' 4 s' (rowEN (r ++ vals l ags))) ∨ (oks l ags = false ∧ d = .tup [.lit .nilslice, .lit (.bool false)] ∧ Sub H0 H')
theorem all_ownN (L : HAggr p ext F) (hx : ∀ args h, ext (F 45) args h = extV .add64 args h) {H0 H : HpD} {s : D} {r : Row} {l : List Row} {ags : List Ag} (hl : Fine l) (ha : ∀ a, a ∈ ags → AgOk l a) (hb : r.length + ags.length < 1000) (g : Gr H0 H 4 s (rowEN r)) : WcD p ext (F 36) [s, rowsD l, agsD ags] H (fun d H' => AllRN H0 r l ags d H') := by
  refine wc_of L.h36 (M := M36) rfl ok36 rfl (sem_run 9000 _ ?_)
  simp
  refine sem_loop (AllIN H0 r l ags) ?_ (k := ags.length) ⟨0, s, by simp, by simp, rfl, by simpa [vals] using g, by simp [oks]⟩
  rintro k fr H' ⟨i, s, rfl, hi, rfl, g, hok⟩
  refine sem_run 9000 _ ?_
  simp
  by_cases c : i < ags.length
  · have hx' : ags[i]? = some ags[i] := by simp
    simp [c]
    refine sf (aggr_oneN L hx hl (ha ags[i] (by simp))) ?_
    simp
    have hw : wr .i64 ((i : Int) + 1) = ((i + 1 : Nat) : Int) := by rw [wr_of] <;> omega
    have ho := oks_snoc (l := l) hx'
    rw [hok, Bool.true_and] at ho
    have hv := vals_snoc (l := l) hx'
    cases hk : (oneF l ags[i]).2 with
    | false =>
      rw [hk] at ho
      simp
      refine sem_ret ?_
      simp [M36]
      refine sem_ret ?_
      simp
      exact .inr ⟨oks_take ho, rfl, (sB g.sub)⟩
    | true =>
      rw [hk] at ho
      simp
      refine sem_push (g.mono sR) rfl rfl (roomyD (by simp [rowEN_len, vals]; omega) (by simp [rowEN_len, vals]; omega)) fun s' H1 g1 _ _ => ?_
      simp
      refine sem_ok ?_
      have e : rowEN (r ++ vals l (ags.take i)) ++ [(oneF l ags[i]).1.cN] = rowEN (r ++ vals l (ags.take (i + 1))) := by rw [hv]; simp [rowEN]
      rw [e] at g1
      exact ⟨_, by omega, i + 1, s', rfl, by omega, by rw [hw], g1, ho⟩
  · have : i = ags.length := by omega
    subst this
    simp
    refine sem_exit (sem_run 9000 _ ?_)
    rw [List.take_length] at g hok
    simp
    refine sem_call (clip4_own L.schm g) fun d H2 g2 => ?_
    refine sem_run 9000 _ ?_
    simp
    refine sem_ret ?_
    simp [M36]
    exact .inl ⟨hok, d, rfl, g2⟩
theorem all_rowN (L : HAggr p ext F) (hx : ∀ args h, ext (F 45) args h = extV .add64 args h) {H0 H : HpD} {s : D} {r : Row} {l : List Row} {ags : List Ag} (hl : Fine l) (ha : ∀ a, a ∈ ags → AgOk l a) (hb : r.length + ags.length < 1000) (g : Gr H0 H 4 s (rowEN r)) :
    WcD p ext (F 36) [s, rowsD l, agsD ags] H fun d H' => d = .tup [rowDN (if oks l ags then r ++ vals l ags else []), .lit (.bool (oks l ags))] ∧ Sub H0 H' := by
  refine WcD.weak ((all_ownN L hx hl ha hb g).mono ?_)
  rintro d H' (⟨hk, s', rfl, g'⟩ | ⟨hk, rfl, hs⟩)
  · obtain ⟨H2, w, sub, _⟩ := g'.finN rowN_underss
    refine ⟨_, H2, WeakV.tup2 w, ?_, sub⟩
    rw [hk]; rfl
  · refine ⟨_, H', WeakV.tup2 (WeakV.le (d' := rowDN []) (by simp [rowDN, rowEN, D.le])), ?_, hs⟩
    rw [hk]; rfl
theorem cmpC_okN (L : HAggr p ext F) {c : Int} {k : Int} : Cmp p ext rowEncN (fun r => (atV r c).kind = k) (.func (F 38) [] [.rptr [.lit (.int .i64 c)] 0]) (cmpC c) :=
  ⟨⟨F 38, [], [.rptr [.lit (.int .i64 c)] 0], rfl, fun x y _ _ H => (groups1 L (a := x) (b := y) H).args (by simp [rowEncN, D.le_refl])⟩, fun x y hx hy => cmpV_ord.anti _ _ hx hy, fun x y z hx hy hz => cmpV_ord.trans _ _ _ hx hy hz⟩
def GrpIN (H0 : HpD) (c : Int) (ags : List Ag) (l' : List Row) (k : Nat) (fr : FrD) (H : HpD) : Prop :=
  ∃ (rest done : List Row) (s : D), k = rest.length ∧ (∀ r, r ∈ rest → r ∈ l') ∧ done.length + rest.length ≤ l'.length ∧ fr = [(2, agsD ags), (4, .rptr [.lit (.int .i64 c)] 0), (10, rowsD rest), (11, s)] ∧ Gr H0 H 1 s (rowsEN done) ∧
    runG c ags l'.length l' = (if (runG c ags rest.length rest).2 then (done ++ (runG c ags rest.length rest).1, true) else ([], false))
def CntIN (H0 : HpD) (c : Int) (ags : List Ag) (r : Row) (t : List Row) (s : D) (k : Nat) (fr : FrD) (H : HpD) : Prop :=
  ∃ i : Nat, k = t.length + 1 - i ∧ 1 ≤ i ∧ i ≤ t.length + 1 ∧ (∀ q x, q + 1 < i → t[q]? = some x → cmpV (atV x c) (atV r c) = 0) ∧
    (lk fr 2 = agsD ags ∧ lk fr 4 = .rptr [.lit (.int .i64 c)] 0 ∧ lk fr 10 = rowsD (r :: t) ∧ lk fr 11 = s ∧ lk fr 12 = .rptr (atV r c).cN 0 ∧ lk fr 13 = .lit (.int .i64 (i : Int))) ∧ Sub H0 H
def GrpRN (c : Int) (ags : List Ag) (l : List Row) (d : D) : Prop :=
  ∃ l' : List Row, l'.Perm l ∧ Srt (cmpC c) l' 0 l.length ∧ d = .tup [rowsDN (runG c ags l'.length l').1, .lit (.bool (runG c ags l'.length l').2)]
def GrpQN (H0 : HpD) (c : Int) (ags : List Ag) (l : List Row) (d : D) (H' : HpD) : Prop := ∃ d2 H2, WeakV d H' d2 H2 ∧ GrpRN c ags l d2 ∧ Sub H0 H2
set_option maxHeartbeats 1000000 in
theorem groups_ownN (L : HAggr p ext F) (hx : ∀ args h, ext (F 45) args h = extV .add64 args h) {l : List Row} {c k : Int} {ags : List Ag} {H : HpD} (hl : Fine l) (hk : ∀ r, r ∈ l → (atV r c).kind = k) (ha : ∀ l', (∀ r, r ∈ l' → r ∈ l) → ∀ a, a ∈ ags → AgOk l' a) (hb : ags.length < 900) (hc : ¬ c < 0) : WcD p ext (F 32) [rowsD l, .lit (.int .i64 c), agsD ags] H (fun d H' => GrpQN H c ags l d H') := by
  refine wc_of L.h32 (M := M32) rfl ok32 rfl (sem_run 9000 _ ?_)
  simp [hc]
  refine sem_call (still_ownN L hl) fun d H1 g1 => ?_
  refine sem_run 9000 _ ?_
  simp
  refine sem_exact_call g1 fun H2 g2 _ _ => ?_
  refine sem_call (sort_ownN L (cmpC_okN L (c := c) (k := k)) hl.1 hk g2) ?_
  rintro _ H3 ⟨rfl, l', g3, hp1, hsrt⟩
  refine sem_turn_ops g3 10 (by simp) fun H4 s4 k4 n4 => sem_run 9000 _ ?_
  simp
  have hl' : Fine l' := ⟨by rw [hp1.length_eq]; exact hl.1, fun r hr => hl.2 r (hp1.mem_iff.1 hr)⟩
  have hl1 := hl'.1
  refine sem_as [(2, agsD ags), (4, .rptr [.lit (.int .i64 c)] 0), (10, rowsD l'), (11, .lit .nilslice)] (by simp [rowsD, D.le, rowsN_less]) ?_
  refine sem_loop (GrpIN H4 c ags l') ?_ (k := l'.length) ⟨l', [], .lit .nilslice, rfl, fun _ h => h, by simp, rfl, by simpa [rowsEN] using Gr.start, by
    cases h : (runG c ags l'.length l').2 with
    | true => simp [← h]
    | false => rw [runG_false h]; simp⟩
  rintro k' fr H' ⟨rest, done, s, rfl, hsub, hlen, rfl, g, heq⟩
  refine sem_run 9000 _ ?_
  simp
  cases rest with
  | nil =>
    simp
    refine sem_exit (sem_run 9000 _ ?_)
    simp [runG] at heq
    simp
    refine sem_call (clip_own L g) fun d H5 g5 => ?_
    refine sem_run 9000 _ ?_
    simp
    refine sem_ret ?_
    simp [M32]
    obtain ⟨H6, w, sub, _⟩ := g5.finN rowsN_underss
    refine ⟨_, H6, WeakV.tup2 w, ⟨l', hp1, hsrt, ?_⟩, s4.trans sub⟩
    rw [heq]; rfl
  | cons r t =>
    simp
    refine sem_dfn (schm_atN L.schm) (by first | exact D.les_refl _ | simp) (sem_run 9000 _ ?_)
    simp
    have hlt : H'.next < H'.next + 1 := by omega
    refine sem_box (b := H'.next) (cs := (atV r c).cN) (ro := false) 12 (by simp) (by simp) ?_
    refine sem_loop (CntIN H' c ags r t s) ?_ (k := t.length) ⟨1, by omega, by omega, by omega, fun q x h => by omega, by simp, sR⟩
    rintro k'' fr H5 ⟨i, rfl, hi1, hi2, hq, ⟨e2, e4, e10, e11, e12, e13⟩, hs5⟩
    refine sem_run 9000 _ ?_
    simp [e10, e13]
    have hlen' : i ≤ l'.length := by simp at hlen; omega
    have hw : wr .i64 ((i : Int) + 1) = ((i + 1 : Nat) : Int) := by rw [wr_of] <;> omega
    by_cases c1 : i < t.length + 1
    · have c1' : (i : Int) < (t.length : Int) + 1 := by omega
      obtain ⟨x, gx⟩ : ∃ x, t[i - 1]? = some x := ⟨t[i - 1]'(by omega), by simp⟩
      have gx' : (r :: t)[i]? = some x := by rw [List.getElem?_cons, if_neg (by omega)]; exact gx
      simp [c1', gx', e4, e10, e13]
      refine sem_dfn (schm_at L.schm) (by first | exact D.les_refl _ | simp) (sem_run 9000 _ ?_)
      simp [e4, e12]
      refine sem_dfn (schm_compare L.schm (a := atV x c) (b := atV r c)) (by first | exact D.les_refl _ | simp) (sem_run 9000 _ ?_)
      simp [e2, e4, e10, e11, e12, e13]
      by_cases c2 : cmpV (atV x c) (atV r c) = 0
      · simp [c2, hw]
        refine sem_ok ?_
        refine ⟨t.length + 1 - (i + 1), by omega, i + 1, rfl, by omega, by omega, fun q y h e => ?_, by simp, hs5⟩
        by_cases hqi : q + 1 < i
        · exact hq q y hqi e
        · obtain rfl : q = i - 1 := by omega
          rw [gx] at e; cases e; exact c2
      · have hcnt := cnt_eq hi1 hi2 hq (.inr ⟨x, gx, c2⟩)
        simp [c2]
        refine sem_exit (sem_run 9000 _ ?_)
        simp [slc_take (l := r :: t) (i := i) (by simpa using hi2)]
        have gl : Gr H5 (H5.new (.cells (atV r c).cN false)) 4 (.slice H5.next 0 4 1 1 true) (rowEN [atV r c]) := Gr.lit Sub.refl (by simp [rowEN]) (by simp [rowEN]) (by simp [rowEN])
        refine sem_dcall (all_rowN L hx (H0 := H5) (r := [atV r c]) (l := (r :: t).take i) (ags := ags) ⟨by simp only [List.length_take, List.length_cons]; omega, fun y hy => hl'.2 y (hsub y (List.mem_of_mem_take hy))⟩ (ha _ fun y hy => hp1.mem_iff.1 (hsub y (List.mem_of_mem_take hy))) (by simp only [List.length_cons, List.length_nil]; omega) gl) ?_
        rintro _ H6 ⟨rfl, hs6⟩
        refine sem_run 9000 _ ?_
        cases hok : oks ((r :: t).take i) ags with
        | false =>
          rw [runG_stop hcnt hok] at heq
          simp
          refine sem_ret ?_
          simp
          refine sem_ret ?_
          simp [M32]
          refine ⟨_, H6, WeakV.tup2 (WeakV.le (d' := rowsDN []) (by simp [rowsDN, rowsEN, D.le])), ⟨l', hp1, hsrt, ?_⟩, s4.trans (g.sub.trans (hs5.trans hs6))⟩
          rw [heq]; rfl
        | true =>
          rw [runG_step hcnt hok] at heq
          simp
          simp only [List.length_cons] at hlen
          refine sem_push (g.mono (hs5.trans hs6)) rfl rfl (roomyD (by simp; omega) (by simp; omega)) fun s' H7 g7 _ _ => ?_
          simp [slc_drop (l := r :: t) (i := i) (by simpa using hi2)]
          refine sem_ok ?_
          have e : rowsEN done ++ [[rowDN (atV r c :: vals ((r :: t).take i) ags)]] = rowsEN (done ++ [atV r c :: vals ((r :: t).take i) ags]) := by simp [rowsEN]
          rw [e] at g7
          refine ⟨((r :: t).drop i).length, by simp only [List.length_drop, List.length_cons]; omega, (r :: t).drop i, done ++ [atV r c :: vals ((r :: t).take i) ags], s', rfl, fun y hy => hsub y (List.mem_of_mem_drop hy), by simp only [List.length_drop, List.length_cons, List.length_append, List.length_nil]; omega, by simp, g7, ?_⟩
          rw [heq]
          cases hz : (runG c ags ((r :: t).drop i).length ((r :: t).drop i)).2 <;> simp
    · have c1' : ¬ (i : Int) < (t.length : Int) + 1 := by omega
      have hcnt := cnt_eq hi1 hi2 hq (.inl (by omega))
      simp [c1', e2, e4, e10, e11, e12, e13]
      refine sem_exit (sem_run 9000 _ ?_)
      simp [slc_take (l := r :: t) (i := i) (by simpa using hi2)]
      have gl : Gr H5 (H5.new (.cells (atV r c).cN false)) 4 (.slice H5.next 0 4 1 1 true) (rowEN [atV r c]) := Gr.lit Sub.refl (by simp [rowEN]) (by simp [rowEN]) (by simp [rowEN])
      refine sem_dcall (all_rowN L hx (H0 := H5) (r := [atV r c]) (l := (r :: t).take i) (ags := ags) ⟨by simp only [List.length_take, List.length_cons]; omega, fun y hy => hl'.2 y (hsub y (List.mem_of_mem_take hy))⟩ (ha _ fun y hy => hp1.mem_iff.1 (hsub y (List.mem_of_mem_take hy))) (by simp only [List.length_cons, List.length_nil]; omega) gl) ?_
      rintro _ H6 ⟨rfl, hs6⟩
      refine sem_run 9000 _ ?_
      cases hok : oks ((r :: t).take i) ags with
      | false =>
        rw [runG_stop hcnt hok] at heq
        simp
        refine sem_ret ?_
        simp
        refine sem_ret ?_
        simp [M32]
        refine ⟨_, H6, WeakV.tup2 (WeakV.le (d' := rowsDN []) (by simp [rowsDN, rowsEN, D.le])), ⟨l', hp1, hsrt, ?_⟩, s4.trans (g.sub.trans (hs5.trans hs6))⟩
        rw [heq]; rfl
      | true =>
        rw [runG_step hcnt hok] at heq
        simp
        simp only [List.length_cons] at hlen
        refine sem_push (g.mono (hs5.trans hs6)) rfl rfl (roomyD (by simp; omega) (by simp; omega)) fun s' H7 g7 _ _ => ?_
        simp [slc_drop (l := r :: t) (i := i) (by simpa using hi2)]
        refine sem_ok ?_
        have e : rowsEN done ++ [[rowDN (atV r c :: vals ((r :: t).take i) ags)]] = rowsEN (done ++ [atV r c :: vals ((r :: t).take i) ags]) := by simp [rowsEN]
        rw [e] at g7
        refine ⟨((r :: t).drop i).length, by simp only [List.length_drop, List.length_cons]; omega, (r :: t).drop i, done ++ [atV r c :: vals ((r :: t).take i) ags], s', rfl, fun y hy => hsub y (List.mem_of_mem_drop hy), by simp only [List.length_drop, List.length_cons, List.length_append, List.length_nil]; omega, by simp, g7, ?_⟩
        rw [heq]
        cases hz : (runG c ags ((r :: t).drop i).length ((r :: t).drop i)).2 <;> simp
theorem groups_posN (L : HAggr p ext F) (hx : ∀ args h, ext (F 45) args h = extV .add64 args h) {l : List Row} {c k : Int} {ags : List Ag} {H : HpD} (hl : Fine l) (hk : ∀ r, r ∈ l → (atV r c).kind = k) (ha : ∀ l', (∀ r, r ∈ l' → r ∈ l) → ∀ a, a ∈ ags → AgOk l' a) (hb : ags.length < 900) (hc : ¬ c < 0) :
    WcD p ext (F 32) [rowsD l, .lit (.int .i64 c), agsD ags] H fun d H' => GrpRN c ags l d ∧ Sub H H' :=
  WcD.weak ((groups_ownN L hx hl hk ha hb hc).mono fun _ _ ⟨d2, H2, w, h⟩ => ⟨d2, H2, w, h⟩)
end Go.Lib
end

section
set_option maxRecDepth 10000
namespace Go.Lib
open Go.Vm Go.Dv Go.Srt
variable {p : Prog} {ext : Ext} {F : Nat → Nat}
def setDN (o : Option Row) : D := .tup [rowDN (o.getD []), .lit (.bool o.isSome)]
def SetIN (H0 : HpD) (r0 : Row) (l : List Sx) (k : Nat) (fr : FrD) (H : HpD) : Prop :=
  ∃ (i : Nat) (r : Row) (s : D), k = l.length - i ∧ i ≤ l.length ∧ r.length = r0.length ∧ (∀ v, v ∈ r → In64 v.n) ∧ setF r0 l = setF r (l.drop i) ∧ fr = [(6, s), (14, sxsD l), (15, .lit (.int .i64 (l.length : Int))), (16, .lit (.int .i64 (i : Int)))] ∧ Gr H0 H 4 s (rowEN r)
theorem aggr_set_ownN (L : HAggr p ext F) (hx : ∀ args h, ext (F 45) args h = extV .add64 args h) {r : Row} {l : List Sx} {H : HpD} (hr : r.length < 1000) (hl : l.length < 1000) (hn : ∀ v, v ∈ r → In64 v.n) (hv : ∀ x, x ∈ l → In64 x.v.n) : WcD p ext (F 35) [rowD r, sxsD l] H (fun d H' => (∃ r' s', setF r l = some r' ∧ d = .tup [s', .lit (.bool true)] ∧ Gr H H' 4 s' (rowEN r')) ∨ setF r l = none ∧ d = .tup [.lit .nilslice, .lit (.bool false)] ∧ Sub H H') := by
  refine wc_of L.h35 (M := M35) rfl ok35 rfl (sem_run 9000 _ ?_)
  simp
  refine sem_call (row_ownN L.schm (by omega)) fun d H1 g1 => ?_
  refine sem_run 9000 _ ?_
  simp
  refine sem_loop (SetIN H r l) ?_ (k := l.length) ⟨0, r, d, by simp, by simp, rfl, hn, by simp, rfl, g1⟩
  rintro k fr H' ⟨i, r', s, rfl, hi, hlen, hn', hset, rfl, g⟩
  refine sem_exact g fun H2 gx _ _ => ?_
  refine sem_run 9000 _ ?_
  simp
  have wi : wr .i64 ((i : Int) + 1) = ((i + 1 : Nat) : Int) := by rw [wr_of] <;> omega
  by_cases c : i < l.length
  · obtain ⟨x, hx'⟩ : ∃ x, l[i]? = some x := ⟨l[i], by simp⟩
    have hdrop : l.drop i = x :: l.drop (i + 1) := by
      rw [List.drop_eq_getElem_cons c]; congr; exact (List.getElem?_eq_some_iff.1 hx').2
    rw [hdrop] at hset
    have hxn := hv x (List.mem_of_getElem? hx')
    by_cases c0 : x.col < 0
    · simp [c, hx', c0, -getElem?_pos]
      refine sem_ok ?_
      exact ⟨_, by omega, i + 1, r', s, rfl, by omega, hlen, hn', by rw [hset, setF, setS, if_pos (.inl c0)], by rw [wi], gx.gr.mono sR⟩
    · obtain ⟨n, hn0⟩ : ∃ n : Nat, x.col = n := ⟨x.col.toNat, by omega⟩
      have hnn : ¬ (n : Int) < 0 := by omega
      by_cases c1 : r'.length ≤ n
      · simp [c, hx', hn0, hnn, c1, gx.gr.lenb, -getElem?_pos]
        refine sem_ok ?_
        exact ⟨_, by omega, i + 1, r', s, rfl, by omega, hlen, hn', by rw [hset, setF, setS, if_pos (.inr (by omega))], by rw [wi], gx.gr.mono sR⟩
      · rcases gx.at_ with ⟨rfl, he⟩ | ⟨b, ex, rfl, h1, h2, h3⟩
        · have : r' = [] := by simpa [rowEN] using he
          subst this; simp at c1
        · have hnl : n < r'.length := by omega
          obtain ⟨v, hv'⟩ : ∃ v, r'[n]? = some v := ⟨r'[n], by simp⟩
          have hat : atV r' x.col = v := by rw [hn0, atV, if_neg (by omega)]; simp [hv']
          have hve : (rowEN r')[n]? = some v.cN := by simp [rowEN, hv']
          have hne : b ≠ H2.next := by omega
          have hnl4 : n * 4 + 4 ≤ (rowEN r').flatten.length := by rw [flatten_len rowN_four, rowEN_len]; omega
          have gxk : ∀ H3, Sub H2 H3 → H3.blk b = H2.blk b → GrX H H3 4 (.slice b 0 4 (rowEN r').length (rowEN r').length ex) (rowEN r') := fun H3 hs hb => gx.keep hs fun y hy => by simp only [D.hasB] at hy; subst hy; exact hb
          have hin : ∀ y, y ∈ r'.set n x.v → In64 y.n := fun y hy => by
            rcases List.mem_or_eq_of_mem_set hy with hy | rfl
            · exact hn' y hy
            · exact hxn
          have hlt1 : b < H2.next + 1 := by omega
          by_cases ca : x.add = true
          · have f0 : (rowEN r').flatten[n * 4]? = some (.lit (.bool v.null)) := flat_get (j := 0) rowN_four hve (by omega)
            have f2 : (rowEN r').flatten[n * 4 + 2]? = some (.lit (.int .i64 v.n)) := flat_get (j := 2) rowN_four hve (by omega)
            have hvi := hn' v (List.mem_of_getElem? hv')
            cases hvn : v.null with
            | true =>
              simp [c, hx', hn0, hnn, c1, hnl, ca, hne, h3, f0, hvn, -getElem?_pos, -List.length_flatten]
              refine sem_ok ?_
              refine ⟨_, by omega, i + 1, r', _, rfl, by omega, hlen, hn', ?_, by rw [wi], by simpa using (gxk _ sR (by simp [hne])).gr⟩
              rw [hset, setF, setS, if_neg (by omega), if_neg (by simp [ca]), hat, if_pos hvn]
            | false =>
              simp [c, hx', hn0, hnn, c1, hnl, ca, hne, h3, f0, f2, hvn, hlt1, -getElem?_pos, -List.length_flatten]
              refine sem_dfn (aggr_more L hx hvi hxn) (by first | exact D.les_refl _ | simp) (sem_run 9000 _ ?_)
              by_cases ci : In64 (v.n + x.v.n)
              · have hnl3 : n * 4 + 2 + 1 ≤ (rowEN r').flatten.length := by omega
                simp [ci, hne, h3, hnl3, wide_low ci, -List.length_flatten]
                refine sem_ok ?_
                have g3 := (gxk ((H2.new (.cells [.lit (.int .i64 0), .lit (.bool false), .lit (.bool false), .lit (.int .i64 0), .lit (.int .i64 0), .lit .nilslice] false)).put H2.next (.cells x.c false)) sR (by simp [hne])).cell (x := .lit (.int .i64 (v.n + x.v.n))) (j := 2) hve (by omega) h1 (by simp; omega)
                have e : (rowEN r').set n (v.cN.set 2 (.lit (.int .i64 (v.n + x.v.n)))) = rowEN (r'.set n (withN v (v.n + x.v.n))) := by unfold rowEN; rw [List.map_set]; rfl
                rw [e] at g3
                refine ⟨_, by omega, i + 1, r'.set n (withN v (v.n + x.v.n)), _, rfl, by omega, by simpa using hlen, fun y hy => ?_, ?_, by rw [wi], by simpa using g3.gr⟩
                · rcases List.mem_or_eq_of_mem_set hy with hy | rfl
                  · exact hn' y hy
                  · exact ci
                · rw [hset, setF, setS, if_neg (by omega), if_neg (by simp [ca]), hat, if_neg (by simp [hvn]), if_pos ci, hn0]; rfl
              · simp [ci]
                refine sem_ret ?_
                simp
                refine sem_ret ?_
                simp [M35]
                refine ⟨?_, (sB gx.gr.sub)⟩
                rw [hset, setF, setS, if_neg (by omega), if_neg (by simp [ca]), hat, if_neg (by simp [hvn]), if_neg ci]
          · simp [c, hx', hn0, hnn, c1, hnl, ca, -getElem?_pos, -List.length_flatten]
            refine sf (schm_valN L.schm (v := x.v)) ?_
            simp [hne, h3, hnl4, -List.length_flatten]
            refine sem_ok ?_
            have g3 := (gxk ((H2.new (.cells [.lit (.int .i64 0), .lit (.bool false), .lit (.bool false), .lit (.int .i64 0), .lit (.int .i64 0), .lit .nilslice] false)).put H2.next (.cells x.c false)) sR (by simp [hne])).whole (x := x.v.cN) hve rfl h1 (by simp; omega)
            have e : (rowEN r').set n x.v.cN = rowEN (r'.set n x.v) := by unfold rowEN; rw [List.map_set]
            rw [e] at g3
            refine ⟨_, by omega, i + 1, r'.set n x.v, _, rfl, by omega, by simpa using hlen, hin, ?_, by rw [wi], by simpa using g3.gr⟩
            rw [hset, setF, setS, if_neg (by omega), if_pos (by simpa using ca), hn0]; rfl
  · have : i = l.length := by omega
    subst this
    simp
    refine sem_exit (sem_run 9000 _ ?_)
    simp
    refine sem_ret ?_
    simp [M35]
    rw [List.drop_length] at hset
    exact ⟨r', hset, gx.gr⟩
theorem aggr_setN (L : HAggr p ext F) (hx : ∀ args h, ext (F 45) args h = extV .add64 args h) {r : Row} {l : List Sx} (hr : r.length < 1000) (hl : l.length < 1000) (hn : ∀ v, v ∈ r → In64 v.n) (hv : ∀ x, x ∈ l → In64 x.v.n) : FnD p ext (F 35) [rowD r, sxsD l] (setDN (setF r l)) := by
  intro H
  refine WcD.drop ((aggr_set_ownN L hx hr hl hn hv).mono ?_)
  rintro d H' (⟨r', s', e, rfl, g⟩ | ⟨e, rfl, hs⟩)
  · obtain ⟨H2, w, s, u⟩ := g.finN rowN_underss
    rw [e]
    exact ⟨_, H2, WeakV.tup2 w, s, by simp, rfl, rfl⟩
  · rw [e]
    exact ⟨_, H', WeakV.tup2 (WeakV.le (d' := rowDN []) (by simp [rowDN, rowEN, D.le])), hs, by simp, rfl, rfl⟩
end Go.Lib
end

section
namespace Go.Lib
open Go.Vm Go.Dv
set_option maxRecDepth 100000
abbrev K70 (F : Nat → Nat) : KC := .seq (.region [⟨(some 3),(.a (.box (.tmp 0))),none⟩,⟨(some 5),(.a (.box (.tmp 2))),none⟩,⟨(some 6),(.p (.mov (.val (.nilslice)))),none⟩,⟨(some 7),(.a (.new [.int .i64 (.ofNat 0),.int .i64 (.ofNat 0),.nilslice])),none⟩] [3,5] [1,5,7])
 (.seq (.region [mv 14 1,⟨(some 15),(.e (.call (F 72) [(.tmp 14)])),none⟩,mv 1 15] [] [1,5,7])
 (.seq (.region [⟨(some 16),(.p (.mkfunc (F 73) [] [(.tmp 5)])),none⟩,mv 8 16] [] [1,5,7,8])
 (.seq (.region [⟨(some 9),(.p (.mov (.val (.nilslice)))),none⟩] [] [1,5,7,8,9])
 (.seq (.seq (.region [mv 17 1,lb 18 17,mi 19 0] [] [1,5,7,8,9,17,18,19])
 (.block 0 (.loop (.seq (.region [bt 20 .lss 19 18] [] [1,5,7,8,9,17,18,19,20])
 (.seq (.cond (.tmp 20) (.skip)
 (.exit 0))
 (.seq (.block 1 (.seq (.region [ix 21 1 17 19,l1 22 21,mv 11 22] [] [1,5,7,8,9,11,17,18,19])
 (.seq (.region [mv 23 8,mv 24 11,⟨(some 25),(.e (.callv (.tmp 23) [(.tmp 24)])),none⟩] [] [1,5,7,8,9,11,17,18,19,25])
 (.cond (.tmp 25) (.region [mv 26 9,mv 27 11,⟨(some 28),(.a (.bslice [.nilslice] 1 1 [(0,1,(.tmp 27))])),none⟩,⟨(some 29),(.e (.append 1 24 (.tmp 26) (.tmp 28))),none⟩,mv 9 29] [28] [1,5,7,8,9,17,18,19])
 (.skip)))))
 (.region [bi 30 .add 19 1,mv 19 30] [] [1,5,7,8,9,17,18,19])))))))
 (.seq (.seq (.region [fa 31 0 5,l1 32 31] [] [1,5,7,8,9,32])
 (.block 2 (.seq (.region [bi 34 .eql 32 1,mv 33 34] [] [1,5,7,8,9,32,33])
 (.cond (.tmp 33) (.seq (.region [mv 35 1,fa 36 1 5,l1 37 36,⟨(some 38),(.e (.call (F 74) [(.tmp 35),(.tmp 37)])),none⟩,et 39 38 0,et 40 38 1,mv 6 39,⟨none,(.e (.store 3 (.tmp 7) (.tmp 40))),none⟩] [] [6,7])
 (.ret))
 (.seq (.region [bi 42 .eql 32 2,mv 41 42] [] [1,5,7,8,9,32,41])
 (.cond (.tmp 41) (.seq (.region [mv 43 1,ln 44 14 5,⟨(some 45),(.e (.call (F 75) [(.tmp 43),(.tmp 44)])),none⟩,et 46 45 0,et 47 45 1,mv 6 46,⟨none,(.e (.store 3 (.tmp 7) (.tmp 47))),none⟩] [] [6,7])
 (.ret))
 (.seq (.region [bi 49 .eql 32 3,mv 48 49] [] [1,5,7,8,9,32,48])
 (.cond (.tmp 48) (.seq (.region [mv 50 1,mv 51 8,⟨(some 52),(.e (.call (F 76) [(.tmp 50),(.tmp 51)])),none⟩,⟨(some 53),(.e (.call (F 39) [(.tmp 52)])),none⟩,mv 54 9,lb 55 54,⟨(some 56),(.p (.build [.int .i64 (.ofNat 0),.int .i64 (.ofNat 0),.nilslice] [(1,1,(.tmp 55))])),none⟩,mv 6 53,⟨none,(.e (.store 3 (.tmp 7) (.tmp 56))),none⟩] [] [6,7])
 (.ret))
 (.seq (.region [bi 58 .eql 32 4,mv 57 58] [] [1,5,7,9,32,57])
 (.cond (.tmp 57) (.seq (.region [mv 59 1,mv 60 9,fa 61 11 5,l1 62 61,⟨(some 63),(.e (.call (F 34) [(.tmp 60),(.tmp 62)])),none⟩,⟨(some 64),(.p (.build [.int .i64 (.ofNat 0),.int .i64 (.ofNat 0),.nilslice] [(2,1,(.tmp 63))])),none⟩,mv 6 59,⟨none,(.e (.store 3 (.tmp 7) (.tmp 64))),none⟩] [] [6,7])
 (.ret))
 (.seq (.region [bi 66 .eql 32 5,mv 65 66] [] [1,5,7,9,32,65])
 (.cond (.tmp 65) (.seq (.region [mv 68 9,fa 69 12 5,l1 70 69,fa 71 13 5,l1 72 71,⟨(some 73),(.e (.call (F 32) [(.tmp 68),(.tmp 70),(.tmp 72)])),none⟩,mv 67 73,et 74 67 0,et 75 67 1,mv 12 74,mv 13 75] [] [1,7,12,13])
 (.seq (.seq (.region [mv 76 13,⟨(some 77),(.p (.not (.tmp 76))),none⟩] [] [1,7,12,77])
 (.cond (.tmp 77) (.seq (.region [mv 78 1,⟨(some 79),(.p (.build [.int .i64 (.ofNat 0),.int .i64 (.ofNat 0),.nilslice] [(0,1,(.val (.int .i64 (.ofNat 2))))])),none⟩,mv 6 78,⟨none,(.e (.store 3 (.tmp 7) (.tmp 79))),none⟩] [] [6,7])
 (.ret))
 (.skip)))
 (.seq (.region [mv 80 1,mv 81 12,⟨(some 82),(.p (.build [.int .i64 (.ofNat 0),.int .i64 (.ofNat 0),.nilslice] [(2,1,(.tmp 81))])),none⟩,mv 6 80,⟨none,(.e (.store 3 (.tmp 7) (.tmp 82))),none⟩] [] [6,7])
 (.ret))))
 (.seq (.region [bi 84 .eql 32 6,mv 83 84] [] [1,7,83])
 (.cond (.tmp 83) (.seq (.region [mv 85 1,⟨(some 86),(.p (.build [.int .i64 (.ofNat 0),.int .i64 (.ofNat 0),.nilslice] [(0,1,(.val (.int .i64 (.ofNat 3))))])),none⟩,mv 6 85,⟨none,(.e (.store 3 (.tmp 7) (.tmp 86))),none⟩] [] [6,7])
 (.ret))
 (.skip)))))))))))))))
 (.seq (.region [mv 87 1,⟨(some 88),(.p (.build [.int .i64 (.ofNat 0),.int .i64 (.ofNat 0),.nilslice] [])),none⟩,mv 6 87,⟨none,(.e (.store 3 (.tmp 7) (.tmp 88))),none⟩] [] [6,7])
 (.ret)))))))
def M70 (F : Nat → Nat) : Fun := ⟨89,3,(K70 F).erase,[.tmp 6,.celln 3 7]⟩
theorem ok70 {F : Nat → Nat} : (K70 F).ok = true := rfl
abbrev K71 (F : Nat → Nat) : KC := .seq (.region [⟨(some 3),(.a (.box (.tmp 0))),none⟩,⟨(some 6),(.p (.mov (.val (.nilslice)))),none⟩,⟨(some 7),(.p (.mov (.val (.nilslice)))),none⟩] [3] [1,2,3])
 (.seq (.region [mv 14 1,⟨(some 15),(.e (.call (F 72) [(.tmp 14)])),none⟩,mv 1 15] [] [1,2,3])
 (.seq (.region [mv 16 1,mv 8 16] [] [1,2,3,8])
 (.seq (.region [⟨(some 9),(.p (.mov (.val (.nilslice)))),none⟩] [] [1,2,3,8,9])
 (.seq (.seq (.region [mv 17 2,lb 18 17,mi 19 0] [] [1,3,8,9,17,18,19])
 (.block 0 (.loop (.seq (.region [bt 20 .lss 19 18] [] [1,3,8,9,17,18,19,20])
 (.seq (.cond (.tmp 20) (.skip)
 (.exit 0))
 (.seq (.block 1 (.seq (.region [ix 21 14 17 19,ln 22 14 21,⟨(some 11),(.a (.new [.int .i64 (.ofNat 0),.nilslice,.int .i64 (.ofNat 0),.int .i64 (.ofNat 0),.int .i64 (.ofNat 0),.bool false,.int .i64 (.ofNat 0),.int .i64 (.ofNat 0),.nilslice,.nilslice,.nilslice,.nilslice,.int .i64 (.ofNat 0),.nilslice])),none⟩,⟨none,(.e (.store 14 (.tmp 11) (.tmp 22))),none⟩] [] [1,3,8,9,11,17,18,19])
 (.seq (.region [ln 24 1 3,mv 25 8,ln 26 14 11,⟨(some 27),(.e (.call (F 70) [(.tmp 24),(.tmp 25),(.tmp 26)])),none⟩,mv 23 27,et 28 23 0,et 29 23 1,⟨(some 13),(.a (.new [.int .i64 (.ofNat 0),.int .i64 (.ofNat 0),.nilslice])),none⟩,mv 12 28,⟨none,(.e (.store 3 (.tmp 13) (.tmp 29))),none⟩] [] [1,3,9,12,13,17,18,19])
 (.seq (.region [mv 30 9,ln 31 3 13,⟨(some 32),(.a (.bslice [.int .i64 (.ofNat 0),.int .i64 (.ofNat 0),.nilslice] 3 1 [(0,3,(.tmp 31))])),none⟩,⟨(some 33),(.e (.append 3 40 (.tmp 30) (.tmp 32))),none⟩,mv 9 33] [32] [1,3,9,12,13,17,18,19])
 (.seq (.seq (.region [fa 34 0 13,l1 35 34,bi 36 .neq 35 0] [] [1,3,9,12,17,18,19,36])
 (.cond (.tmp 36) (.seq (.region [mv 37 1,mv 38 9,⟨(some 39),(.e (.call (F 77) [(.tmp 38)])),none⟩,mv 6 37,mv 7 39] [] [6,7])
 (.ret))
 (.skip)))
 (.region [mv 40 12,mv 8 40] [] [1,3,8,9,17,18,19]))))))
 (.region [bi 41 .add 19 1,mv 19 41] [] [1,3,8,9,17,18,19])))))))
 (.seq (.region [mv 42 8,mv 43 9,⟨(some 44),(.e (.call (F 77) [(.tmp 43)])),none⟩,mv 6 42,mv 7 44] [] [6,7])
 (.ret))))))
def M71 (F : Nat → Nat) : Fun := ⟨45,3,(K71 F).erase,[.tmp 6,.tmp 7]⟩
abbrev K72 (F : Nat → Nat) : KC := .seq (.region [⟨(some 2),(.p (.mov (.val (.nilslice)))),none⟩] [] [0])
 (.seq (.region [⟨(some 3),(.p (.mov (.val (.nilslice)))),none⟩] [] [0,3])
 (.seq (.seq (.region [mv 6 0,lb 7 6,mi 8 0] [] [3,6,7,8])
 (.block 0 (.loop (.seq (.region [bt 9 .lss 8 7] [] [3,6,7,8,9])
 (.seq (.cond (.tmp 9) (.skip)
 (.exit 0))
 (.seq (.block 1 (.seq (.region [ix 10 1 6 8,l1 11 10,mv 5 11] [] [3,5,6,7,8])
 (.region [mv 12 3,mv 13 5,⟨(some 14),(.e (.call (F 4) [(.tmp 13)])),none⟩,⟨(some 15),(.a (.bslice [.nilslice] 1 1 [(0,1,(.tmp 14))])),none⟩,⟨(some 16),(.e (.append 1 24 (.tmp 12) (.tmp 15))),none⟩,mv 3 16] [15] [3,6,7,8])))
 (.region [bi 17 .add 8 1,mv 8 17] [] [3,6,7,8])))))))
 (.seq (.region [mv 18 3,⟨(some 19),(.e (.call (F 39) [(.tmp 18)])),none⟩,mv 2 19] [] [2])
 (.ret))))
def M72 (F : Nat → Nat) : Fun := ⟨20,1,(K72 F).erase,[.tmp 2]⟩
theorem ok72 {F : Nat → Nat} : (K72 F).ok = true := rfl
abbrev K73 (F : Nat → Nat) : KC := .seq (.region [⟨(some 3),(.p (.mov (.val (.bool false)))),none⟩] [] [0,1])
 (.seq (.region [fa 4 2 1,ln 5 8 4,mv 6 0,⟨(some 7),(.e (.call (F 65) [(.tmp 5),(.tmp 6)])),none⟩,bi 8 .eql 7 1,mv 3 8] [] [3])
 (.ret))
def M73 (F : Nat → Nat) : Fun := ⟨9,2,(K73 F).erase,[.tmp 3]⟩
theorem ok73 {F : Nat → Nat} : (K73 F).ok = true := rfl
abbrev K74 (F : Nat → Nat) : KC := .seq (.region [⟨(some 4),(.p (.mov (.val (.nilslice)))),none⟩,⟨(some 5),(.a (.new [.int .i64 (.ofNat 0),.int .i64 (.ofNat 0),.nilslice])),none⟩] [] [0,1,5])
 (.seq (.region [mv 9 0,mv 10 1,⟨(some 11),(.e (.call (F 78) [(.tmp 10)])),none⟩,⟨(some 12),(.e (.call (F 79) [(.tmp 9),(.tmp 11),(.val (.func (F 80) [] []))])),none⟩,mv 8 12,et 13 8 0,et 14 8 1,mv 6 13,mv 7 14] [] [0,1,5,6,7])
 (.seq (.seq (.region [mv 15 7] [] [0,1,5,6,15])
 (.cond (.tmp 15) (.seq (.region [mv 16 0,⟨(some 17),(.p (.build [.int .i64 (.ofNat 0),.int .i64 (.ofNat 0),.nilslice] [(0,1,(.val (.int .i64 (.ofNat 1))))])),none⟩,mv 4 16,⟨none,(.e (.store 3 (.tmp 5) (.tmp 17))),none⟩] [] [4,5])
 (.ret))
 (.skip)))
 (.seq (.region [mv 18 0,mv 19 6,mv 20 1,⟨(some 21),(.e (.call (F 4) [(.tmp 20)])),none⟩,⟨(some 22),(.a (.bslice [.nilslice] 1 1 [(0,1,(.tmp 21))])),none⟩,⟨(some 23),(.e (.call (F 81) [(.tmp 18),(.tmp 19),(.tmp 22)])),none⟩,⟨(some 24),(.p (.build [.int .i64 (.ofNat 0),.int .i64 (.ofNat 0),.nilslice] [(1,1,(.val (.int .i64 (.ofNat 1))))])),none⟩,mv 4 23,⟨none,(.e (.store 3 (.tmp 5) (.tmp 24))),none⟩] [22] [4,5])
 (.ret))))
def M74 (F : Nat → Nat) : Fun := ⟨25,2,(K74 F).erase,[.tmp 4,.celln 3 5]⟩
theorem ok74 {F : Nat → Nat} : (K74 F).ok = true := rfl
abbrev K75 (F : Nat → Nat) : KC := .seq (.region [⟨(some 3),(.a (.box (.tmp 1))),none⟩,⟨(some 4),(.p (.mov (.val (.nilslice)))),none⟩,⟨(some 5),(.a (.new [.int .i64 (.ofNat 0),.int .i64 (.ofNat 0),.nilslice])),none⟩] [3] [0,3,5])
 (.seq (.region [mv 12 0,⟨(some 13),(.e (.call (F 72) [(.tmp 12)])),none⟩,mv 6 13] [] [0,3,5,6])
 (.seq (.region [mi 7 0] [] [0,3,5,6,7])
 (.seq (.seq (.region [mv 14 0,lb 15 14,mi 16 0] [] [0,3,5,6,7,14,15,16])
 (.block 0 (.loop (.seq (.region [bt 17 .lss 16 15] [] [0,3,5,6,7,14,15,16,17])
 (.seq (.cond (.tmp 17) (.skip)
 (.exit 0))
 (.seq (.block 1 (.seq (.region [mv 18 16,ix 19 1 14 16,l1 20 19,mv 8 18,mv 9 20] [] [0,3,5,6,7,8,9,14,15,16])
 (.seq (.seq (.region [fa 21 2 3,ln 22 8 21,mv 23 9,⟨(some 24),(.e (.call (F 65) [(.tmp 22),(.tmp 23)])),none⟩,bi 25 .neq 24 1] [] [0,3,5,6,7,8,9,14,15,16,25])
 (.cond (.tmp 25) (.exit 1)
 (.skip)))
 (.seq (.region [mv 27 9,fa 28 10 3,l1 29 28,⟨(some 30),(.e (.call (F 35) [(.tmp 27),(.tmp 29)])),none⟩,mv 26 30,et 31 26 0,et 32 26 1,mv 10 31,mv 11 32] [] [0,3,5,6,7,8,10,11,14,15,16])
 (.seq (.seq (.region [mv 33 11,⟨(some 34),(.p (.not (.tmp 33))),none⟩] [] [0,3,5,6,7,8,10,14,15,16,34])
 (.cond (.tmp 34) (.seq (.region [mv 35 0,⟨(some 36),(.p (.build [.int .i64 (.ofNat 0),.int .i64 (.ofNat 0),.nilslice] [(0,1,(.val (.int .i64 (.ofNat 2))))])),none⟩,mv 4 35,⟨none,(.e (.store 3 (.tmp 5) (.tmp 36))),none⟩] [] [4,5])
 (.ret))
 (.skip)))
 (.seq (.region [mv 37 6,mv 38 8,mv 39 10,ix 40 1 37 38,⟨none,(.e (.store 1 (.tmp 40) (.tmp 39))),none⟩] [] [0,3,5,6,7,14,15,16])
 (.region [mv 41 7,bi 42 .add 41 1,mv 7 42] [] [0,3,5,6,7,14,15,16])))))))
 (.region [bi 43 .add 16 1,mv 16 43] [] [0,3,5,6,7,14,15,16])))))))
 (.seq (.region [mv 44 6,mv 45 7,⟨(some 46),(.p (.build [.int .i64 (.ofNat 0),.int .i64 (.ofNat 0),.nilslice] [(1,1,(.tmp 45))])),none⟩,mv 4 44,⟨none,(.e (.store 3 (.tmp 5) (.tmp 46))),none⟩] [] [4,5])
 (.ret)))))
def M75 (F : Nat → Nat) : Fun := ⟨47,2,(K75 F).erase,[.tmp 4,.celln 3 5]⟩
theorem ok75 {F : Nat → Nat} : (K75 F).ok = true := rfl
abbrev K76 (F : Nat → Nat) : KC := .seq (.region [⟨(some 4),(.p (.mov (.val (.nilslice)))),none⟩] [] [0,1])
 (.seq (.region [mv 8 0,mv 9 1,⟨(some 10),(.e (.call (F 82) [(.tmp 8),(.tmp 9)])),none⟩,mv 5 10] [] [0,1,5])
 (.seq (.seq (.region [mv 11 5,⟨(some 12),(.p (.bin .eql (.tmp 11) (.val (.int .i64 (.negSucc 0))))),none⟩] [] [0,1,5,12])
 (.cond (.tmp 12) (.seq (.region [mv 13 0,mv 4 13] [] [4])
 (.ret))
 (.skip)))
 (.seq (.seq (.region [mv 14 5,bi 15 .add 14 1,mv 6 15] [] [0,1,5,6])
 (.block 0 (.loop (.seq (.seq (.region [mv 16 6,mv 17 0,lb 18 17,bt 19 .lss 16 18] [] [0,1,5,6,19])
 (.cond (.tmp 19) (.skip)
 (.exit 0)))
 (.seq (.block 1 (.seq (.region [mv 22 0,mv 23 6,ix 24 1 22 23,l1 25 24,mv 7 25] [] [0,1,5,6,7])
 (.seq (.region [mv 26 1,mv 27 7,⟨(some 28),(.e (.callv (.tmp 26) [(.tmp 27)])),none⟩,⟨(some 29),(.p (.not (.tmp 28))),none⟩] [] [0,1,5,6,7,29])
 (.cond (.tmp 29) (.seq (.region [mv 30 0,mv 31 5,mv 32 7,ix 33 1 30 31,⟨none,(.e (.store 1 (.tmp 33) (.tmp 32))),none⟩] [] [0,1,5,6])
 (.region [mv 34 5,bi 35 .add 34 1,mv 5 35] [] [0,1,5,6]))
 (.skip)))))
 (.region [mv 20 6,bi 21 .add 20 1,mv 6 21] [] [0,1,5,6]))))))
 (.seq (.region [mv 36 0,mv 37 5,⟨(some 38),(.p (.slc 1 (.tmp 36) (some (.tmp 37)) none none)),none⟩,⟨none,(.e (.clear [.nilslice] (.tmp 38))),none⟩] [] [0,5])
 (.seq (.region [mv 39 0,mv 40 5,⟨(some 41),(.p (.slc 1 (.tmp 39) none (some (.tmp 40)) none)),none⟩,mv 4 41] [] [4])
 (.ret))))))
def M76 (F : Nat → Nat) : Fun := ⟨42,2,(K76 F).erase,[.tmp 4]⟩
theorem ok76 {F : Nat → Nat} : (K76 F).ok = true := rfl
abbrev K77 (_F : Nat → Nat) : KC := .seq (.region [⟨(some 2),(.p (.mov (.val (.nilslice)))),none⟩] [] [0])
 (.seq (.region [mv 3 0,mv 4 0,lb 5 4,mv 6 0,lb 7 6,⟨(some 8),(.p (.slc 3 (.tmp 3) none (some (.tmp 5)) (some (.tmp 7)))),none⟩,mv 2 8] [] [2])
 (.ret))
def M77 (F : Nat → Nat) : Fun := ⟨9,1,(K77 F).erase,[.tmp 2]⟩
abbrev K78 (F : Nat → Nat) : KC := .seq (.region [mi 2 0] [] [0])
 (.seq (.region [mv 3 0,⟨(some 4),(.e (.call (F 3) [(.tmp 3),(.val (.int .i64 (.ofNat 0)))])),none⟩,⟨(some 5),(.p (.field1 2 (.tmp 4))),none⟩,mv 2 5] [] [2])
 (.ret))
def M78 (F : Nat → Nat) : Fun := ⟨6,1,(K78 F).erase,[.tmp 2]⟩
theorem ok78 {F : Nat → Nat} : (K78 F).ok = true := rfl
abbrev K79 (_F : Nat → Nat) : KC := .seq (.region [mi 6 0,⟨(some 7),(.p (.mov (.val (.bool false)))),none⟩] [] [0,1,2])
 (.seq (.region [mv 12 0,lb 13 12,mv 8 13] [] [0,1,2,8])
 (.seq (.region [mv 14 8,mi 9 0,mv 10 14] [] [0,1,2,8,9,10])
 (.seq (.block 0 (.loop (.seq (.seq (.region [mv 15 9,mv 16 10,bt 17 .lss 15 16] [] [0,1,2,8,9,10,17])
 (.cond (.tmp 17) (.skip)
 (.exit 0)))
 (.block 1 (.seq (.region [mv 18 9,mv 19 10,bt 20 .add 18 19,⟨(some 21),(.p (.conv (.int .u64) (.tmp 20))),none⟩,⟨(some 22),(.p (.bin .shr (.tmp 21) (.val (.int .u64 (.ofNat 1))))),none⟩,⟨(some 23),(.p (.conv (.int .i64) (.tmp 22))),none⟩,mv 11 23] [] [0,1,2,8,9,10,11])
 (.seq (.region [mv 24 2,mv 25 0,mv 26 11,ix 27 1 25 26,l1 28 27,mv 29 1,⟨(some 30),(.e (.callv (.tmp 24) [(.tmp 28),(.tmp 29)])),none⟩,bi 31 .lss 30 0] [] [0,1,2,8,9,10,11,31])
 (.cond (.tmp 31) (.region [mv 32 11,bi 33 .add 32 1,mv 9 33] [] [0,1,2,8,9,10])
 (.region [mv 34 11,mv 10 34] [] [0,1,2,8,9,10]))))))))
 (.seq (.region [mv 35 9,mv 36 9,mv 37 8,bt 38 .lss 36 37,mv 39 38,⟨(some 40),(.p (.mov (.tmp 2))),(some (39,true))⟩,⟨(some 41),(.p (.mov (.tmp 0))),(some (39,true))⟩,⟨(some 42),(.p (.mov (.tmp 9))),(some (39,true))⟩,⟨(some 43),(.p (.iaddr 1 (.tmp 41) (.tmp 42))),(some (39,true))⟩,⟨(some 44),(.load1 (.tmp 43)),(some (39,true))⟩,⟨(some 45),(.p (.mov (.tmp 1))),(some (39,true))⟩,⟨(some 46),(.e (.callv (.tmp 40) [(.tmp 44),(.tmp 45)])),(some (39,true))⟩,⟨(some 47),(.p (.bin .eql (.tmp 46) (.val (.int .i64 (.ofNat 0))))),(some (39,true))⟩,⟨(some 48),(.p (.pick (.tmp 39) (.tmp 47) (.val (.bool false)))),none⟩,mv 6 35,mv 7 48] [] [6,7])
 (.ret)))))
def M79 (F : Nat → Nat) : Fun := ⟨49,3,(K79 F).erase,[.tmp 6,.tmp 7]⟩
theorem ok79 {F : Nat → Nat} : (K79 F).ok = true := rfl
abbrev K80 (F : Nat → Nat) : KC := .seq (.region [mi 4 0] [] [0,1])
 (.seq (.region [mv 5 0,⟨(some 6),(.e (.call (F 78) [(.tmp 5)])),none⟩,mv 7 1,⟨(some 8),(.e (.call (F 10) [(.tmp 6),(.tmp 7)])),none⟩,mv 4 8] [] [4])
 (.ret))
def M80 (F : Nat → Nat) : Fun := ⟨9,2,(K80 F).erase,[.tmp 4]⟩
theorem ok80 {F : Nat → Nat} : (K80 F).ok = true := rfl
abbrev K81 (F : Nat → Nat) : KC := .seq (.region [⟨(some 6),(.p (.mov (.val (.nilslice)))),none⟩] [] [0,1,2])
 (.seq (.region [mv 10 0,mv 11 1,⟨(some 12),(.p (.slc 1 (.tmp 10) (some (.tmp 11)) none none)),none⟩] [] [0,1,2])
 (.seq (.region [mv 13 2,lb 14 13,mv 7 14] [] [0,1,2,7])
 (.seq (.seq (.region [mv 15 7,bi 16 .eql 15 0] [] [0,1,2,7,16])
 (.cond (.tmp 16) (.seq (.region [mv 17 0,mv 6 17] [] [6])
 (.ret))
 (.skip)))
 (.seq (.region [mv 18 0,lb 19 18,mv 8 19] [] [0,1,2,7,8])
 (.seq (.seq (.region [mv 20 1,mv 21 8,bt 22 .eql 20 21] [] [0,1,2,7,8,22])
 (.cond (.tmp 22) (.seq (.region [mv 23 0,mv 24 2,⟨(some 25),(.e (.append 1 24 (.tmp 23) (.tmp 24))),none⟩,mv 6 25] [] [6])
 (.ret))
 (.skip)))
 (.seq (.seq (.region [mv 26 8,mv 27 7,bt 28 .add 26 27,mv 29 0,⟨(some 30),(.p (.caps (.tmp 29))),none⟩,bt 31 .gtr 28 30] [] [0,1,2,7,8,31])
 (.cond (.tmp 31) (.seq (.region [mv 32 0,mv 33 1,⟨(some 34),(.p (.slc 1 (.tmp 32) none (some (.tmp 33)) none)),none⟩,mv 35 8,mv 36 7,bt 37 .add 35 36,mv 38 1,bt 39 .sub 37 38,⟨(some 40),(.e (.appendz [.nilslice] 1 24 (.tmp 34) (.tmp 39))),none⟩,mv 9 40] [] [0,1,2,7,9])
 (.seq (.region [mv 41 9,mv 42 1,⟨(some 43),(.p (.slc 1 (.tmp 41) (some (.tmp 42)) none none)),none⟩,mv 44 2,⟨(some 45),(.e (.copy 1 (.tmp 43) (.tmp 44))),none⟩] [] [0,1,7,9])
 (.seq (.dregion [⟨mv 46 9,0,8⟩,⟨mv 47 1,0,8⟩,⟨mv 48 7,0,8⟩,⟨bt 49 .add 47 48,0,8⟩,⟨⟨(some 50),(.p (.slc 1 (.tmp 46) (some (.tmp 49)) none none)),none⟩,0,8⟩,⟨mv 51 0,0,8⟩,⟨mv 52 1,0,8⟩,⟨⟨(some 53),(.p (.slc 1 (.tmp 51) (some (.tmp 52)) none none)),none⟩,0,8⟩,⟨⟨(some 54),(.e (.copy 1 (.tmp 50) (.tmp 53))),none⟩,0,9⟩] [9])
 (.seq (.region [mv 55 9,mv 6 55] [] [6])
 (.ret)))))
 (.skip)))
 (.seq (.region [mv 56 0,mv 57 8,mv 58 7,bt 59 .add 57 58,⟨(some 60),(.p (.slc 1 (.tmp 56) none (some (.tmp 59)) none)),none⟩,mv 0 60] [] [0,1,2,7,8])
 (.seq (.seq (.region [mv 61 2,mv 62 0,mv 63 1,mv 64 7,bt 65 .add 63 64,⟨(some 66),(.p (.slc 1 (.tmp 62) (some (.tmp 65)) none none)),none⟩,⟨(some 67),(.e (.extern (F 83) [(.tmp 61),(.tmp 66)])),none⟩,⟨(some 68),(.p (.not (.tmp 67))),none⟩] [] [0,1,2,7,8,68])
 (.cond (.tmp 68) (.seq (.dregion [⟨mv 69 0,0,8⟩,⟨mv 70 1,0,8⟩,⟨mv 71 7,0,8⟩,⟨bt 72 .add 70 71,0,8⟩,⟨⟨(some 73),(.p (.slc 1 (.tmp 69) (some (.tmp 72)) none none)),none⟩,0,8⟩,⟨mv 74 0,0,8⟩,⟨mv 75 1,0,8⟩,⟨⟨(some 76),(.p (.slc 1 (.tmp 74) (some (.tmp 75)) none none)),none⟩,0,8⟩,⟨⟨(some 77),(.e (.copy 1 (.tmp 73) (.tmp 76))),none⟩,0,9⟩] [0,1,2])
 (.seq (.region [mv 78 0,mv 79 1,⟨(some 80),(.p (.slc 1 (.tmp 78) (some (.tmp 79)) none none)),none⟩,mv 81 2,⟨(some 82),(.e (.copy 1 (.tmp 80) (.tmp 81))),none⟩] [] [0])
 (.seq (.region [mv 83 0,mv 6 83] [] [6])
 (.ret))))
 (.skip)))
 (.seq (.region [mv 84 0,mv 85 8,⟨(some 86),(.p (.slc 1 (.tmp 84) (some (.tmp 85)) none none)),none⟩,mv 87 2,⟨(some 88),(.e (.copy 1 (.tmp 86) (.tmp 87))),none⟩] [] [0,1,7])
 (.seq (.region [mv 89 0,mv 90 1,⟨(some 91),(.p (.slc 1 (.tmp 89) (some (.tmp 90)) none none)),none⟩,mv 92 7,⟨(some 93),(.e (.call (F 84) [(.tmp 91),(.tmp 92)])),none⟩] [] [0])
 (.seq (.region [mv 94 0,mv 6 94] [] [6])
 (.ret))))))))))))
def M81 (F : Nat → Nat) : Fun := ⟨95,3,(K81 F).erase,[.tmp 6]⟩
theorem ok81 {F : Nat → Nat} : (K81 F).ok = true := rfl
abbrev K82 (_F : Nat → Nat) : KC := .seq (.region [mi 4 0] [] [0,1])
 (.seq (.seq (.region [mv 6 0,lb 7 6,mi 8 0] [] [0,1,7,8])
 (.block 0 (.loop (.seq (.region [bt 9 .lss 8 7] [] [0,1,7,8,9])
 (.seq (.cond (.tmp 9) (.skip)
 (.exit 0))
 (.seq (.block 1 (.seq (.region [mv 10 8,mv 5 10] [] [0,1,5,7,8])
 (.seq (.region [mv 11 1,mv 12 0,mv 13 5,ix 14 1 12 13,l1 15 14,⟨(some 16),(.e (.callv (.tmp 11) [(.tmp 15)])),none⟩] [] [0,1,5,7,8,16])
 (.cond (.tmp 16) (.seq (.region [mv 17 5,mv 4 17] [] [4])
 (.ret))
 (.skip)))))
 (.region [bi 18 .add 8 1,mv 8 18] [] [0,1,7,8])))))))
 (.seq (.region [⟨(some 4),(.p (.mov (.val (.int .i64 (.negSucc 0))))),none⟩] [] [4])
 (.ret)))
def M82 (F : Nat → Nat) : Fun := ⟨19,2,(K82 F).erase,[.tmp 4]⟩
theorem ok82 {F : Nat → Nat} : (K82 F).ok = true := rfl
abbrev K84 (F : Nat → Nat) : KC := .region [mv 4 0,mv 5 0,lb 6 5,mv 7 1,bt 8 .sub 6 7,⟨(some 9),(.e (.call (F 85) [(.tmp 4),(.tmp 8)])),none⟩] [] []
def M84 (F : Nat → Nat) : Fun := ⟨10,2,(K84 F).erase,[]⟩
abbrev K85 (F : Nat → Nat) : KC := .seq (.region [mv 4 0,mv 5 1,⟨(some 6),(.p (.slc 1 (.tmp 4) none (some (.tmp 5)) none)),none⟩,⟨(some 7),(.e (.call (F 86) [(.tmp 6)])),none⟩] [] [0,1])
 (.seq (.region [mv 8 0,mv 9 1,⟨(some 10),(.p (.slc 1 (.tmp 8) (some (.tmp 9)) none none)),none⟩,⟨(some 11),(.e (.call (F 86) [(.tmp 10)])),none⟩] [] [0])
 (.region [mv 12 0,⟨(some 13),(.e (.call (F 86) [(.tmp 12)])),none⟩] [] []))
def M85 (F : Nat → Nat) : Fun := ⟨14,2,(K85 F).erase,[]⟩
abbrev K86 (_F : Nat → Nat) : KC := .seq (.region [mv 4 0,lb 5 4,bi 6 .sub 5 1,mi 2 0,mv 3 6] [] [0,2,3])
 (.block 0 (.loop (.seq (.seq (.region [mv 7 2,mv 8 3,bt 9 .lss 7 8] [] [0,2,3,9])
 (.cond (.tmp 9) (.skip)
 (.exit 0)))
 (.seq (.block 1 (.dregion [⟨mv 14 0,0,11⟩,⟨mv 15 2,0,11⟩,⟨mv 18 0,0,11⟩,⟨mv 19 3,0,11⟩,⟨ix 20 1 18 19,0,11⟩,⟨l1 21 20,0,11⟩,⟨mv 22 0,0,11⟩,⟨mv 23 2,0,11⟩,⟨ix 24 1 22 23,0,11⟩,⟨l1 25 24,0,11⟩,⟨ix 26 1 14 15,0,11⟩,⟨⟨none,(.e (.store 1 (.tmp 26) (.tmp 21))),none⟩,0,15⟩,⟨mv 16 0,0,15⟩,⟨mv 17 3,0,15⟩,⟨ix 27 1 16 17,12,15⟩,⟨⟨none,(.e (.store 1 (.tmp 27) (.tmp 25))),none⟩,12,16⟩] [0,2,3]))
 (.region [mv 10 2,bi 11 .add 10 1,mv 12 3,bi 13 .sub 12 1,mv 2 11,mv 3 13] [] [0,2,3])))))
def M86 (F : Nat → Nat) : Fun := ⟨28,1,(K86 F).erase,[]⟩
end Go.Lib
end

section
namespace Go.Lib
open Go.Vm Go.Dv
set_option maxRecDepth 100000
abbrev K65 (F : Nat → Nat) : KC := .seq (.region [⟨(some 2),(.a (.box (.tmp 0))),none⟩,mi 4 0] [2] [1,2])
 (.seq (.seq (.region [fa 6 0 2,l1 7 6] [] [1,2,7])
 (.block 0 (.seq (.region [bi 9 .eql 7 1,mv 8 9] [] [1,2,7,8])
 (.cond (.tmp 8) (.seq (.region [mi 4 1] [] [4])
 (.ret))
 (.seq (.region [bi 11 .eql 7 2,mv 10 11] [] [1,2,7,10])
 (.cond (.tmp 10) (.seq (.region [mv 12 1,fa 13 1 2,l1 14 13,⟨(some 15),(.e (.call (F 3) [(.tmp 12),(.tmp 14)])),none⟩,⟨(some 5),(.a (.new [.bool false,.int .i64 (.ofNat 0),.int .i64 (.ofNat 0),.nilslice])),none⟩,⟨none,(.e (.store 4 (.tmp 5) (.tmp 15))),none⟩] [] [2,5])
 (.seq (.seq (.region [fa 16 0 5,l1 17 16] [] [2,5,17])
 (.cond (.tmp 17) (.seq (.region [mi 4 3] [] [4])
 (.ret))
 (.skip)))
 (.seq (.dregion [⟨ln 20 4 5,0,3⟩,⟨fa 21 3 2,0,3⟩,⟨ln 22 4 21,0,3⟩,⟨⟨(some 23),(.e (.call (F 1) [(.tmp 20),(.tmp 22)])),none⟩,0,6⟩,⟨fa 18 2 2,0,6⟩,⟨l1 19 18,0,6⟩,⟨⟨(some 24),(.e (.call (F 66) [(.tmp 19),(.tmp 23)])),none⟩,4,7⟩,⟨⟨(some 25),(.e (.call (F 67) [(.tmp 24)])),none⟩,7,9⟩,⟨mv 4 25,8,9⟩] [4])
 (.ret))))
 (.seq (.region [bi 27 .eql 7 3,mv 26 27] [] [1,2,7,26])
 (.cond (.tmp 26) (.seq (.region [mv 28 1,fa 29 1 2,l1 30 29,⟨(some 31),(.e (.call (F 3) [(.tmp 28),(.tmp 30)])),none⟩,⟨(some 32),(.p (.field1 0 (.tmp 31))),none⟩,⟨(some 33),(.e (.call (F 67) [(.tmp 32)])),none⟩,mv 4 33] [] [4])
 (.ret))
 (.seq (.region [bi 35 .eql 7 4,mv 34 35] [] [1,2,7,34])
 (.cond (.tmp 34) (.seq (.region [ln 36 8 2,mv 37 1,⟨(some 38),(.e (.call (F 68) [(.tmp 36),(.tmp 37),(.val (.int .i64 (.ofNat 2))),(.val (.int .i64 (.ofNat 1)))])),none⟩,mv 4 38] [] [4])
 (.ret))
 (.seq (.region [bi 40 .eql 7 5,mv 39 40] [] [1,2,7,39])
 (.cond (.tmp 39) (.seq (.region [ln 41 8 2,mv 42 1,⟨(some 43),(.e (.call (F 68) [(.tmp 41),(.tmp 42),(.val (.int .i64 (.ofNat 1))),(.val (.int .i64 (.ofNat 2)))])),none⟩,mv 4 43] [] [4])
 (.ret))
 (.seq (.region [bi 45 .eql 7 6,mv 44 45] [] [1,2,44])
 (.cond (.tmp 44) (.seq (.region [fa 46 7 2,l1 47 46,lb 48 47,bi 49 .gtr 48 0] [] [1,2,49])
 (.cond (.tmp 49) (.seq (.region [fa 50 7 2,l1 51 50,⟨(some 52),(.p (.iaddr 8 (.tmp 51) (.val (.int .i64 (.ofNat 0))))),none⟩,ln 53 8 52,mv 54 1,⟨(some 55),(.e (.call (F 65) [(.tmp 53),(.tmp 54)])),none⟩,⟨(some 56),(.e (.call (F 69) [(.tmp 55)])),none⟩,mv 4 56] [] [4])
 (.ret))
 (.skip)))
 (.skip)))))))))))))))
 (.seq (.region [mi 4 3] [] [4])
 (.ret)))
def M65 (F : Nat → Nat) : Fun := ⟨57,2,(K65 F).erase,[.tmp 4]⟩
theorem ok65 {F : Nat → Nat} : (K65 F).ok = true := rfl
abbrev K66 (_F : Nat → Nat) : KC := .seq (.region [⟨(some 4),(.p (.mov (.val (.bool false)))),none⟩] [] [0,1])
 (.seq (.seq (.region [mv 5 0] [] [1,5])
 (.block 0 (.seq (.region [bi 7 .eql 5 1,mv 6 7] [] [1,5,6])
 (.cond (.tmp 6) (.seq (.region [mv 8 1,bi 9 .eql 8 0,mv 4 9] [] [4])
 (.ret))
 (.seq (.region [bi 11 .eql 5 2,mv 10 11] [] [1,5,10])
 (.cond (.tmp 10) (.seq (.region [mv 12 1,bi 13 .neq 12 0,mv 4 13] [] [4])
 (.ret))
 (.seq (.region [bi 15 .eql 5 3,mv 14 15] [] [1,5,14])
 (.cond (.tmp 14) (.seq (.region [mv 16 1,bi 17 .lss 16 0,mv 4 17] [] [4])
 (.ret))
 (.seq (.region [bi 19 .eql 5 4,mv 18 19] [] [1,5,18])
 (.cond (.tmp 18) (.seq (.region [mv 20 1,bi 21 .leq 20 0,mv 4 21] [] [4])
 (.ret))
 (.seq (.region [bi 23 .eql 5 5,mv 22 23] [] [1,5,22])
 (.cond (.tmp 22) (.seq (.region [mv 24 1,bi 25 .gtr 24 0,mv 4 25] [] [4])
 (.ret))
 (.seq (.region [bi 27 .eql 5 6,mv 26 27] [] [1,26])
 (.cond (.tmp 26) (.seq (.region [mv 28 1,bi 29 .geq 28 0,mv 4 29] [] [4])
 (.ret))
 (.skip)))))))))))))))
 (.seq (.region [⟨(some 4),(.p (.mov (.val (.bool false)))),none⟩] [] [4])
 (.ret)))
def M66 (F : Nat → Nat) : Fun := ⟨30,2,(K66 F).erase,[.tmp 4]⟩
theorem ok66 {F : Nat → Nat} : (K66 F).ok = true := rfl
abbrev K67 (_F : Nat → Nat) : KC := .seq (.region [mi 2 0] [] [0])
 (.seq (.seq (.region [mv 3 0] [] [3])
 (.cond (.tmp 3) (.seq (.region [mi 2 1] [] [2])
 (.ret))
 (.skip)))
 (.seq (.region [mi 2 2] [] [2])
 (.ret)))
def M67 (F : Nat → Nat) : Fun := ⟨4,1,(K67 F).erase,[.tmp 2]⟩
theorem ok67 {F : Nat → Nat} : (K67 F).ok = true := rfl
abbrev K68 (F : Nat → Nat) : KC := .seq (.region [⟨(some 4),(.a (.box (.tmp 0))),none⟩,mi 8 0] [4] [1,2,3,4])
 (.seq (.region [mv 13 3,mv 9 13] [] [1,2,4,9])
 (.seq (.seq (.region [fa 14 7 4,l1 15 14,lb 16 15,mi 17 0] [] [1,2,9,15,16,17])
 (.block 0 (.loop (.seq (.region [bt 18 .lss 17 16] [] [1,2,9,15,16,17,18])
 (.seq (.cond (.tmp 18) (.skip)
 (.exit 0))
 (.seq (.block 1 (.seq (.region [ix 19 8 15 17,ln 20 8 19,⟨(some 11),(.a (.new [.int .i64 (.ofNat 0),.int .i64 (.ofNat 0),.int .i64 (.ofNat 0),.bool false,.int .i64 (.ofNat 0),.int .i64 (.ofNat 0),.nilslice,.nilslice])),none⟩,⟨none,(.e (.store 8 (.tmp 11) (.tmp 20))),none⟩] [] [1,2,9,11,15,16,17])
 (.seq (.region [ln 21 8 11,mv 22 1,⟨(some 23),(.e (.call (F 65) [(.tmp 21),(.tmp 22)])),none⟩,mv 12 23] [] [1,2,9,12,15,16,17])
 (.seq (.region [mv 24 12] [] [1,2,9,15,16,17,24])
 (.block 2 (.seq (.region [mv 26 2,bt 27 .eql 24 26,mv 25 27] [] [1,2,9,15,16,17,24,25])
 (.cond (.tmp 25) (.seq (.region [mv 28 2,mv 8 28] [] [8])
 (.ret))
 (.seq (.region [bi 30 .eql 24 3,mv 29 30] [] [1,2,9,15,16,17,29])
 (.cond (.tmp 29) (.region [mi 9 3] [] [1,2,9,15,16,17])
 (.skip))))))))))
 (.region [bi 31 .add 17 1,mv 17 31] [] [1,2,9,15,16,17])))))))
 (.seq (.region [mv 32 9,mv 8 32] [] [8])
 (.ret))))
def M68 (F : Nat → Nat) : Fun := ⟨33,4,(K68 F).erase,[.tmp 8]⟩
theorem ok68 {F : Nat → Nat} : (K68 F).ok = true := rfl
abbrev K69 (_F : Nat → Nat) : KC := .seq (.region [mi 2 0] [] [0])
 (.seq (.seq (.region [mv 3 0] [] [3])
 (.block 0 (.seq (.region [bi 5 .eql 3 1,mv 4 5] [] [3,4])
 (.cond (.tmp 4) (.seq (.region [mi 2 2] [] [2])
 (.ret))
 (.seq (.region [bi 7 .eql 3 2,mv 6 7] [] [6])
 (.cond (.tmp 6) (.seq (.region [mi 2 1] [] [2])
 (.ret))
 (.skip)))))))
 (.seq (.region [mi 2 3] [] [2])
 (.ret)))
def M69 (F : Nat → Nat) : Fun := ⟨8,1,(K69 F).erase,[.tmp 2]⟩
theorem ok69 {F : Nat → Nat} : (K69 F).ok = true := rfl
end Go.Lib
end
