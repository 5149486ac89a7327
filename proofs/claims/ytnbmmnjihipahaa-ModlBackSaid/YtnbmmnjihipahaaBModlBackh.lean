/-
  Texts that the claim's last one rests on, joined.
-/
import Derived.Test.YtnbmmnjihipahaaBModlBackg
import Derived.Test.YtnbmmnjihipahaaBModlBackc
import Derived.Test.YtnbmmnjihipahaaBModlBackf

section
namespace Go.Lib
open Go.Vm Go.Dv
abbrev By := Fin 256
structure Vl where
  null : Bool
  kind : Int
  n : Int
  bytes : List By
  small : bytes.length < 1000000
def byE (b : List By) : List (List D) := b.map fun c => [.lit (.int .u8 (c.val : Int))]
def byD (b : List By) : D := .row 1 .p (byE b)
def Vl.c (v : Vl) : List D := [.lit (.bool v.null), .lit (.int .i64 v.kind), .lit (.int .i64 v.n), byD v.bytes]
abbrev Row := List Vl
def rowE (r : Row) : List (List D) := r.map Vl.c
def rowD (r : Row) : D := .row 4 .p (rowE r)
def rowsE (l : List Row) : List (List D) := l.map fun r => [rowD r]
def rowsD (l : List Row) : D := .row 1 .p (rowsE l)
theorem by_under {n : Nat} {b : List By} : (byD b).under n := by
  simp only [byD, D.under]; exact underss_map (fun _ => by simp) _
theorem vl_unders {n : Nat} {v : Vl} : D.unders n v.c := by simp [Vl.c, by_under]
theorem row_under {n : Nat} {r : Row} : (rowD r).under n := by
  simp only [rowD, D.under]; exact underss_map (fun _ => vl_unders) _
theorem rows_under {n : Nat} {l : List Row} : (rowsD l).under n := by
  simp only [rowsD, D.under]; exact underss_map (fun _ => by simp [row_under]) _
theorem by_underss {n : Nat} {b : List By} : D.underss n (byE b) := underss_map (fun _ => by simp) _
theorem row_underss {n : Nat} {r : Row} : D.underss n (rowE r) := underss_map (fun _ => vl_unders) _
theorem rows_underss {n : Nat} {l : List Row} : D.underss n (rowsE l) := underss_map (fun _ => by simp [row_under]) _
theorem by_flat {b : List By} : flatD (byD b) = true := rfl
theorem row_flat {r : Row} : flatD (rowD r) = true := rfl
theorem rows_flat {l : List Row} : flatD (rowsD l) = true := rfl
theorem vl_len {v : Vl} : v.c.length = 4 := rfl
theorem vl_flats {v : Vl} : flatsD v.c = true := rfl
theorem vl_0 {v : Vl} : v.c[0]? = some (.lit (.bool v.null)) := rfl
theorem vl_1 {v : Vl} : v.c[1]? = some (.lit (.int .i64 v.kind)) := rfl
theorem vl_2 {v : Vl} : v.c[2]? = some (.lit (.int .i64 v.n)) := rfl
theorem vl_3 {v : Vl} : v.c[3]? = some (byD v.bytes) := rfl
theorem vl_take {v : Vl} : v.c.take 4 = v.c := rfl
theorem vl_drop {v : Vl} : v.c.drop 4 = [] := rfl
theorem by_len {b : List By} : (byE b).length = b.length := by simp [byE]
theorem row_len {r : Row} : (rowE r).length = r.length := by simp [rowE]
theorem rows_len {l : List Row} : (rowsE l).length = l.length := by simp [rowsE]
theorem lenb_by {b : List By} : lenbD (byD b) = some (.lit (.int .i64 (b.length : Int))) := by simp [byD, by_len]
theorem lenb_row {r : Row} : lenbD (rowD r) = some (.lit (.int .i64 (r.length : Int))) := by simp [rowD, row_len]
theorem lenb_rows {l : List Row} : lenbD (rowsD l) = some (.lit (.int .i64 (l.length : Int))) := by simp [rowsD, rows_len]
theorem cellsD_by {b : List By} : cellsD (byD b) = some [byD b] := rfl
theorem cellsD_rowD {r : Row} : cellsD (rowD r) = some [rowD r] := rfl
theorem cellsD_rowsD {l : List Row} : cellsD (rowsD l) = some [rowsD l] := rfl
def bys (b : List By) : List Nat := b.map fun c => c.val
theorem bys_inj {a b : List By} : bys a = bys b ↔ a = b := by
  constructor
  · intro h
    induction a generalizing b with
    | nil => cases b with
      | nil => rfl
      | cons y b => simp [bys] at h
    | cons x a ih => cases b with
      | nil => simp [bys] at h
      | cons y b =>
        simp only [bys, List.map_cons, List.cons.injEq] at h
        rw [Fin.ext h.1, ih h.2]
  · rintro rfl; rfl
theorem toVs_by : ∀ b : List By, toVs (byE b).flatten = some (b.map fun c => V.int .u8 (c.val : Int))
  | [] => rfl
  | c :: b => by
    have := toVs_by b
    simp only [byE] at this
    simp only [byE, List.map_cons, List.flatten_cons, List.singleton_append, toVs, toV, this]
theorem bytesOf_by : ∀ b : List By, eV.bytesOf (b.map fun c => V.int .u8 (c.val : Int)) = some (bys b)
  | [] => rfl
  | c :: b => by
    show cond (Nat.blt c.val 256) _ none = _
    rw [show Nat.blt c.val 256 = true from nblt.2 c.isLt, cond_true, bytesOf_by b]; rfl
theorem text_by {H : HpD} {b : List By} : textD H (byD b) = some (.lit (.str (bys b)), H) := by
  simp only [byD, textD, Nat.beq, cond_true, strD, toVs_by, bytesOf_by]
theorem neqs_iff : ∀ {a b : List Nat}, neqs a b = true ↔ a = b
  | [], [] => by simp [neqs]
  | [], _ :: _ => by simp [neqs]
  | _ :: _, [] => by simp [neqs]
  | x :: a, y :: b => by
    simp only [neqs, cond_eq_ite]
    by_cases h : Nat.beq x y = true
    · rw [if_pos h, neqs_iff]; rw [nbeq] at h; simp [h]
    · rw [if_neg h]; rw [nbeq] at h; simp [h]
theorem neqs_bys {a b : List By} : neqs (bys a) (bys b) = decide (a = b) := by
  rw [Bool.eq_iff_iff, neqs_iff, bys_inj, decide_eq_true_iff]
theorem str_eql {tab : Tab} {a b : List Nat} : binV tab .eql (.str a) (.str b) = some (.bool (neqs a b)) := rfl
theorem str_neq {tab : Tab} {a b : List Nat} : binV tab .neq (.str a) (.str b) = some (.bool (!neqs a b)) := rfl
theorem str_lss {tab : Tab} {a b : List Nat} : binV tab .lss (.str a) (.str b) = some (.bool (slt a b)) := rfl
theorem bytesV_by {h : Hp} {ψ : Nat → Option Nat} {S : Nat → Prop} {b : List By} {v : V} (k : VD h ψ S (byD b) v) : bytesV h v = some (bys b) := by
  simp only [byD, VD] at k
  rcases k with ⟨rfl, hb⟩ | ⟨c, o, cp, ex, rfl, h1, h2, k⟩
  · cases b with
    | nil => rfl
    | cons x b => simp [byE] at hb
  · rcases k with ⟨hm, _⟩ | ⟨cs, ro, hs, hb, hp⟩
    · cases hm
    · obtain ⟨us, e1, k1⟩ := VDss.cells hp
      rw [Nat.mul_one] at e1
      have := toVs_ok _ (toVs_by b) k1
      subst this
      have hr : h.read c o (byE b).length = some (b.map fun c => V.int .u8 (c.val : Int)) := by unfold Hp.read; rw [hb]; exact e1
      simp only [bytesV, hr]
      exact bytesOf_by b
theorem vl_set3 {v : Vl} : spliceD v.c 3 [byD v.bytes] = v.c := rfl
theorem by_one {b : List By} : ∀ e, e ∈ byE b → e.length = 1 := by simp [byE]
theorem by_flats {b : List By} : ∀ e, e ∈ byE b → flatsD e = true := by simp [byE]
theorem row_four {r : Row} : ∀ e, e ∈ rowE r → e.length = 4 := by simp [rowE]; exact fun _ _ => rfl
theorem at_row {r : Row} {n : Nat} : atO 4 (rowD r) (some n) = elemD (r[n]?.map Vl.c) := by simp [rowD, rowE]
theorem at_rows {l : List Row} {n : Nat} : atO 1 (rowsD l) (some n) = elemD (l[n]?.map fun r => [rowD r]) := by simp [rowsD, rowsE]
theorem at_by {b : List By} {n : Nat} : atO 1 (byD b) (some n) = elemD (b[n]?.map fun c => [.lit (.int .u8 (c.val : Int))]) := by simp [byD, byE]
theorem rowE_snoc {r : Row} {i : Nat} {x : Vl} (hx : r[i]? = some x) : rowE (r.take i) ++ [x.c] = rowE (r.take (i + 1)) := by
  rw [List.take_add_one, hx]; simp [rowE]
theorem rowsE_snoc {l : List Row} {i : Nat} {x : Row} (hx : l[i]? = some x) : rowsE (l.take i) ++ [[rowD x]] = rowsE (l.take (i + 1)) := by
  rw [List.take_add_one, hx]; simp [rowsE]
attribute [simp] at_row at_rows at_by
theorem rows_one {l : List Row} : ∀ e, e ∈ rowsE l → e.length = 1 := by simp [rowsE]
theorem rows_flats {l : List Row} : ∀ e, e ∈ rowsE l → flatsD e = true := by simp [rowsE]; exact fun _ _ => rfl
def zv : Vl := ⟨false, 0, 0, [], by simp⟩
theorem zv_le : D.le (.agg [.lit (.bool false), .lit (.int .i64 0), .lit (.int .i64 0), .lit .nilslice]) (.agg zv.c) := by
  simp [Vl.c, zv, byD, byE, D.le]
attribute [simp] vl_set3 vl_0 vl_1 vl_2 vl_3 vl_take vl_drop by_len row_len rows_len lenb_by lenb_row lenb_rows cellsD_by cellsD_rowD cellsD_rowsD text_by neqs_bys str_eql str_neq str_lss
attribute [simp] by_underss row_underss rows_underss by_under vl_unders row_under rows_under by_flat row_flat rows_flat vl_len vl_flats
end Go.Lib
end

section
set_option maxRecDepth 10000
namespace Go.Lib
open Go.Vm Go.Dv
variable {p : Prog} {ext : Ext} {F : Nat → Nat}
structure HSchm (p : Prog) (ext : Ext) (F : Nat → Nat) : Prop where
  h1 : Has p ext F 1 M1
  h2 : Has p ext F 2 M2
  h3 : Has p ext F 3 M3
  h4 : Has p ext F 4 M4
  h5 : Has p ext F 5 M5
  h6 : Has p ext F 6 M6
  h7 : Has p ext F 7 M7
  h8 : Has p ext F 8 M8
  h9 : Has p ext F 9 M9
  h10 : Has p ext F 10 M10
  h11 : Has p ext F 11 M11
  h12 : Has p ext F 12 M12
  h13 : Has p ext F 13 M13
  h14 : Has p ext F 14 M14
  h15 : Has p ext F 15 M15
  h16 : Has p ext F 16 M16
  h17 : Has p ext F 17 M17
  h18 : Has p ext F 18 M18
  h19 : Has p ext F 19 M19
  h21 : Has p ext F 21 M21
  x20 : ∀ args h, ext (F 20) args h = extV .cmp args h
theorem isNaN_int (L : HSchm p ext F) {n : Int} : FnD p ext (F 18) [.lit (.int .i64 n)] (.lit (.bool false)) := by
  refine fn_of L.h18 (M := M18) rfl ok18 rfl fun H => sem_run 9000 _ ?_
  simp
  refine sem_ret ?_
  simp [M18]
  exact .same (by simp)
theorem isNaN_int64 (L : HSchm p ext F) {n : Int} : FnD p ext (F 19) [.lit (.int .i64 n)] (.lit (.bool false)) := by
  refine fn_of L.h19 (M := M19) rfl ok19 rfl fun H => sem_run 9000 _ ?_
  simp
  refine sem_ret ?_
  simp [M19]
  exact .same (by simp)
def cmpI (a b : Int) : Int := if a < b then -1 else if b < a then 1 else 0
theorem compare_int (L : HSchm p ext F) {a b : Int} : FnD p ext (F 9) [.lit (.int .i64 a), .lit (.int .i64 b)] (.lit (.int .i64 (cmpI a b))) := by
  refine fn_of L.h9 (M := M9) rfl ok9 rfl fun H => sem_run 9000 _ ?_
  simp
  refine sem_fn (isNaN_int L) (by first | exact D.les_refl _ | simp) (sem_run 9000 _ ?_)
  simp
  refine sem_fn (isNaN_int L) (by first | exact D.les_refl _ | simp) (sem_run 9000 _ ?_)
  simp
  refine sem_if (fun h => ?_) fun h => ?_
  · simp
    refine sem_ret ?_
    simp [M9, cmpI, h]
    exact .same (by simp)
  · simp
    refine sem_if (fun h2 => ?_) fun h2 => ?_
    · simp
      refine sem_ret ?_
      simp [M9, cmpI, h, h2]
      exact .same (by simp)
    · simp
      refine sem_ret ?_
      simp [M9, cmpI, h, h2]
      exact .same (by simp)
theorem compare_int64 (L : HSchm p ext F) {a b : Int} : FnD p ext (F 10) [.lit (.int .i64 a), .lit (.int .i64 b)] (.lit (.int .i64 (cmpI a b))) := by
  refine fn_of L.h10 (M := M10) rfl ok10 rfl fun H => sem_run 9000 _ ?_
  simp
  refine sem_fn (isNaN_int64 L) (by first | exact D.les_refl _ | simp) (sem_run 9000 _ ?_)
  simp
  refine sem_fn (isNaN_int64 L) (by first | exact D.les_refl _ | simp) (sem_run 9000 _ ?_)
  simp
  refine sem_if (fun h => ?_) fun h => ?_
  · simp
    refine sem_ret ?_
    simp [M10, cmpI, h]
    exact .same (by simp)
  · simp
    refine sem_if (fun h2 => ?_) fun h2 => ?_
    · simp
      refine sem_ret ?_
      simp [M10, cmpI, h, h2]
      exact .same (by simp)
    · simp
      refine sem_ret ?_
      simp [M10, cmpI, h, h2]
      exact .same (by simp)
def rankV (v : Vl) : Int := if v.null then 0 else 1
theorem rank (L : HSchm p ext F) {v : Vl} : FnD p ext (F 8) [.agg v.c] (.lit (.int .i64 (rankV v))) := by
  refine fn_of L.h8 (M := M8) rfl ok8 rfl fun H => sem_run 9000 _ ?_
  simp [Vl.c]
  refine sem_br (fun h => ?_) fun h => ?_
  · simp
    refine sem_ret ?_
    simp [M8, rankV, h]
    exact .same (by simp)
  · simp
    refine sem_ret ?_
    simp [M8, rankV, h]
    exact .same (by simp)
def cmpB (a b : List By) : Int := cmpL (bys a) (bys b)
theorem cmp_ext (L : HSchm p ext F) {a b : List By} : FnD p ext (F 20) [byD a, byD b] (.lit (.int .i64 (cmpB a b))) := by
  intro H ψ S h vs s k
  simp only [VDl] at k
  obtain ⟨v, r, rfl, k1, w, r2, rfl, k2, rfl⟩ := k
  refine wpc_ext (v := .int .i64 (cmpB a b)) (h' := h) ?_ ⟨ψ, S, _, H, .refl, s, ?_, rfl, rfl⟩
  · rw [L.x20]
    simp only [extV, bytesV_by k1, bytesV_by k2]
    rfl
  · simp [VD, atomV]
theorem bytes_compare (L : HSchm p ext F) {a b : List By} : FnD p ext (F 11) [byD a, byD b] (.lit (.int .i64 (cmpB a b))) := by
  refine fn_of L.h11 (M := M11) rfl ok11 rfl fun H => sem_run 9000 _ ?_
  simp
  refine sem_fn (cmp_ext L) (by first | exact D.les_refl _ | simp) (sem_run 9000 _ ?_)
  simp
  refine sem_ret ?_
  simp [M11]
  exact .same (by simp)
def cmpV (a b : Vl) : Int := if cmpI (rankV a) (rankV b) ≠ 0 ∨ a.null = true then cmpI (rankV a) (rankV b) else if a.kind = 1 then cmpI a.n b.n else if a.kind = 2 then cmpB a.bytes b.bytes else 0
theorem schm_compare (L : HSchm p ext F) {a b : Vl} : FnD p ext (F 1) [.agg a.c, .agg b.c] (.lit (.int .i64 (cmpV a b))) := by
  refine fn_of L.h1 (M := M1) rfl ok1 rfl fun H => sem_run 9000 _ ?_
  simp
  refine sem_dfn (rank L) (by first | exact D.les_refl _ | simp) (sem_run 9000 _ ?_)
  simp
  refine sem_dfn (rank L) (by first | exact D.les_refl _ | simp) (sem_run 9000 _ ?_)
  simp
  refine sem_dfn (compare_int L) (by first | exact D.les_refl _ | simp) (sem_run 9000 _ ?_)
  simp
  by_cases h1 : cmpI (rankV a) (rankV b) = 0
  · cases h2 : a.null
    · by_cases h3 : a.kind = 1
      · simp [h1, h2, h3]
        refine sem_fn (compare_int64 L) (by first | exact D.les_refl _ | simp) (sem_run 9000 _ ?_)
        simp
        refine sem_ret ?_
        simp [M1, cmpV, h1, h2, h3]
        exact .same (by simp)
      · by_cases h4 : a.kind = 2
        · simp [h1, h2, h4]
          refine sem_fn (bytes_compare L) (by first | exact D.les_refl _ | simp) (sem_run 9000 _ ?_)
          simp
          refine sem_ret ?_
          simp [M1, cmpV, h1, h2, h4]
          exact .same (by simp)
        · simp [h1, h2, h3, h4]
          refine sem_ret ?_
          simp [M1, cmpV, h1, h2, h3, h4]
          exact .same (by simp)
    · simp [h1, h2]
      refine sem_ret ?_
      simp [M1, cmpV, h1, h2]
      exact .same (by simp)
  · simp [h1]
    refine sem_ret ?_
    simp [M1, cmpV, h1]
    exact .same (by simp)
theorem slcRow_eq {sz : Nat} {m : Md} {l : List (List D)} {lo hi mx : Option V} : slcD sz (.row sz m l) (lo.map .lit) (hi.map .lit) (mx.map .lit) = cond (needH hi mx) (slcRow sz m l lo hi mx) none := by
  cases lo <;> cases hi <;> cases mx <;> simp only [slcD, Option.map, bndD, beq_d, decide_true, cond_true]
theorem slc_clip {sz : Nat} {m : Md} {l : List (List D)} (hm : m ≠ .w) : slcD sz (.row sz m l) none (some (.lit (.int .i64 (l.length : Int)))) (some (.lit (.int .i64 (l.length : Int)))) = some (.row sz .c l) := by
  have := slcRow_eq (sz := sz) (m := m) (l := l) (lo := none) (hi := some (.int .i64 (l.length : Int))) (mx := some (.int .i64 (l.length : Int)))
  simp only [Option.map] at this
  rw [this]
  simp only [needH, cond_true, slcRow, boundM, natOf_cast, ble_d, Nat.le_refl, decide_true, boundH, boundL, cutMd, beq_d]
  cases m <;> simp at hm ⊢
theorem clip_val (L : HSchm p ext F) {r : Row} : FnD p ext (F 13) [rowD r] (rowD r) := by
  refine fn_of L.h13 (M := M13) rfl ok13 rfl fun H => sem_run 9000 _ ?_
  simp [rowD]
  have := slc_clip (sz := 4) (m := .p) (l := rowE r) (by simp)
  simp only [row_len] at this
  simp [this]
  refine sem_ret ?_
  simp [M13]
  exact .le .refl (by simp [D.le]) (by simp)
theorem clone_by (L : HSchm p ext F) {b : List By} (hb : b.length < 1000000) : FnD p ext (F 14) [byD b] (byD b) := by
  refine fn_of L.h14 (M := M14) rfl ok14 rfl fun H => sem_run 9000 _ ?_
  simp [byD]
  refine ⟨?_, ?_⟩
  · intro h0
    refine sem_ret ?_
    simp [M14]
    exact .le .refl (by rw [h0]; simp [D.le]) (by simp)
  · obtain ⟨s', H', e, g, _⟩ := (Gr.lit (el := []) (sz := 1) (H := H) (ex := true) (c := []) (n := 0) Sub.refl (by simp) rfl rfl).app (by_ := 1) (m := .p) (new := byE b) by_one by_flats (roomyD (by simp; omega) (by simp; omega))
    simp [e]
    refine sem_ret ?_
    simp [M14]
    exact g.fin (by simp) (by simp)
theorem schm_val (L : HSchm p ext F) {v : Vl} : FnD p ext (F 5) [.agg v.c] (.agg v.c) := by
  refine fn_of L.h5 (M := M5) rfl ok5 rfl fun H => sem_run 9000 _ ?_
  simp
  refine sem_fn (clone_by L v.small) (by first | exact D.les_refl _ | simp) (sem_run 9000 _ ?_)
  simp
  refine sem_ret ?_
  simp [M5, Vl.c]
  exact .le (by repeat (first | exact Sub.refl | apply Sub.new | refine Sub.put ?_ (by first | omega | (simp only [put_next, new_next]; omega)))) (by simp) (by simp)
def RowI (H0 : HpD) (r : Row) (k : Nat) (fr : FrD) (H : HpD) : Prop :=
  ∃ (i : Nat) (s : D), k = r.length - i ∧ i ≤ r.length ∧ fr = [(3, s), (6, rowD r), (7, .lit (.int .i64 (r.length : Int))), (8, .lit (.int .i64 (i : Int)))] ∧ Gr H0 H 4 s (rowE (r.take i))
theorem schm_row (L : HSchm p ext F) {r : Row} (hr : r.length < 1000000) : FnD p ext (F 4) [rowD r] (rowD r) := by
  refine fn_of L.h4 (M := M4) rfl ok4 rfl fun H => sem_run 9000 _ ?_
  simp
  refine sem_loop (RowI H r) ?_ (k := r.length) ⟨0, .lit .nilslice, by simp, by simp, rfl, by simpa [rowE] using Gr.start⟩
  rintro k fr H' ⟨i, s, rfl, hi, rfl, g⟩
  refine sem_run 9000 _ ?_
  simp
  by_cases c : i < r.length
  · have hx : r[i]? = some r[i] := by simp
    simp [c]
    refine sem_fn (schm_val L) (by first | exact D.les_refl _ | simp) (sem_run 9000 _ ?_)
    simp
    refine sem_push (g.mono (by repeat (first | exact Sub.refl | apply Sub.new | refine Sub.put ?_ (by first | omega | (simp only [put_next, new_next]; omega))))) rfl rfl (roomyD (by simp; omega) (by simp; omega)) fun s' H1 g1 _ _ => ?_
    simp
    refine sem_ok ?_
    have hw : wr .i64 ((i : Int) + 1) = ((i + 1 : Nat) : Int) := by rw [wr_of] <;> omega
    rw [rowE_snoc hx] at g1
    exact ⟨_, by omega, i + 1, s', rfl, by omega, by rw [hw], g1⟩
  · simp [c]
    refine sem_exit (sem_run 9000 _ ?_)
    have : i = r.length := by omega
    subst this
    rw [List.take_length] at g
    simp
    refine sem_row g 0 rfl fun H2 s2 _ _ => ?_
    refine sem_fn (clip_val L) (by first | exact D.les_refl _ | simp) (sem_run 9000 _ ?_)
    simp
    refine sem_ret ?_
    simp [M4]
    exact .le s2 (D.le_refl _) (by simp)
def atV (r : Row) (c : Int) : Vl := if c < 0 then zv else (r[c.toNat]?).getD zv
theorem schm_at (L : HSchm p ext F) {r : Row} {c : Int} : FnD p ext (F 3) [rowD r, .lit (.int .i64 c)] (.agg (atV r c).c) := by
  refine fn_of L.h3 (M := M3) rfl ok3 rfl fun H => sem_run 9000 _ ?_
  simp
  by_cases h1 : c < 0
  · simp [h1]
    refine sem_ret ?_
    simp [M3]
    exact .le (by repeat (first | exact Sub.refl | apply Sub.new | refine Sub.put ?_ (by first | omega | (simp only [put_next, new_next]; omega)))) (by rw [atV, if_pos h1]; exact zv_le) (by simp)
  · obtain ⟨n, rfl⟩ : ∃ n : Nat, c = n := ⟨c.toNat, by omega⟩
    by_cases h2 : r.length ≤ n
    · simp [h1, h2]
      refine sem_ret ?_
      simp [M3]
      exact .le (by repeat (first | exact Sub.refl | apply Sub.new | refine Sub.put ?_ (by first | omega | (simp only [put_next, new_next]; omega)))) (by rw [atV, if_neg h1]; simp [h2]; exact zv_le) (by simp)
    · have h3 : n < r.length := by omega
      simp [h1, h2, h3]
      refine sem_fn (schm_val L) (by first | exact D.les_refl _ | simp) (sem_run 9000 _ ?_)
      simp
      refine sem_ret ?_
      simp [M3]
      exact .le (by repeat (first | exact Sub.refl | apply Sub.new | refine Sub.put ?_ (by first | omega | (simp only [put_next, new_next]; omega)))) (by rw [atV, if_neg h1]; simp [h3]) (by simp)
def cmpRow (cmp : Vl → Vl → Int) : Row → Row → Int
  | [], [] => 0
  | [], _ :: _ => -1
  | _ :: _, [] => 1
  | a :: x, b :: y => if cmp a b ≠ 0 then cmp a b else cmpRow cmp x y
theorem compareFunc (L : HSchm p ext F) {f : Nat} {cmp : Vl → Vl → Int} (hf : ∀ a b : Vl, FnD p ext f [.agg a.c, .agg b.c] (.lit (.int .i64 (cmp a b)))) {x y : Row} (hx : x.length < 1000000) : FnD p ext (F 12) [rowD x, rowD y, .func f [] []] (.lit (.int .i64 (cmpRow cmp x y))) := by
  refine fn_of L.h12 (M := M12) rfl ok12 rfl fun H => sem_run 9000 _ ?_
  simp
  refine sem_loop (fun k fr H' => ∃ i : Nat, k = x.length - i ∧ i ≤ x.length ∧ i ≤ y.length ∧ cmpRow cmp x y = cmpRow cmp (x.drop i) (y.drop i) ∧ fr = [(0, rowD x), (1, rowD y), (2, .func f [] []), (11, rowD x), (12, .lit (.int .i64 (x.length : Int))), (13, .lit (.int .i64 (i : Int)))] ∧ Sub H H') ?_ (k := x.length) ⟨0, by simp, by simp, by simp, by simp, rfl, .refl⟩
  rintro k fr H' ⟨i, rfl, hi, hi2, hc, rfl, hs⟩
  refine sem_run 9000 _ ?_
  simp
  by_cases c : i < x.length
  · by_cases c2 : y.length ≤ i
    · simp [c, c2]
      refine sem_ret ?_
      simp
      refine sem_ret ?_
      simp [M12]
      have : y.drop i = [] := List.drop_eq_nil_of_le (by omega)
      rw [hc, this, List.drop_eq_getElem_cons c]
      exact .le (by have := hs.next; repeat (first | exact hs | apply Sub.new | refine Sub.put ?_ (by first | omega | (simp only [put_next, new_next]; omega)))) (by simp [cmpRow]) trivial
    · have c3 : i < y.length := by omega
      simp [c, c2, c3]
      refine sem_fn (hf x[i] y[i]) (by first | exact D.les_refl _ | simp) (sem_run 9000 _ ?_)
      simp
      rw [List.drop_eq_getElem_cons c, List.drop_eq_getElem_cons c3] at hc
      by_cases c4 : cmp x[i] y[i] = 0
      · simp [c4]
        refine sem_ok ?_
        have hw : wr .i64 ((i : Int) + 1) = ((i + 1 : Nat) : Int) := by rw [wr_of] <;> omega
        exact ⟨_, by omega, i + 1, rfl, by omega, by omega, by rw [hc]; simp [cmpRow, c4], by rw [hw], (by have := hs.next; repeat (first | exact hs | apply Sub.new | refine Sub.put ?_ (by first | omega | (simp only [put_next, new_next]; omega))))⟩
      · simp [c4]
        refine sem_ret ?_
        simp
        refine sem_ret ?_
        simp [M12]
        exact .le (by have := hs.next; repeat (first | exact hs | apply Sub.new | refine Sub.put ?_ (by first | omega | (simp only [put_next, new_next]; omega)))) (by rw [hc]; simp [cmpRow, c4]) trivial
  · simp [c]
    refine sem_exit (sem_run 9000 _ ?_)
    have hd : x.drop i = [] := List.drop_eq_nil_of_le (by omega)
    have hl : i = x.length := by omega
    by_cases c2 : x.length < y.length
    · simp [c2]
      refine sem_ret ?_
      simp [M12]
      rw [hc, hd, List.drop_eq_getElem_cons (by omega)]
      exact .le (by have := hs.next; repeat (first | exact hs | apply Sub.new | refine Sub.put ?_ (by first | omega | (simp only [put_next, new_next]; omega)))) (by simp [cmpRow]) trivial
    · simp [c2]
      refine sem_ret ?_
      simp [M12]
      rw [hc, hd, List.drop_eq_nil_of_le (by omega : y.length ≤ i)]
      exact .le (by have := hs.next; repeat (first | exact hs | apply Sub.new | refine Sub.put ?_ (by first | omega | (simp only [put_next, new_next]; omega)))) (by simp [cmpRow]) trivial
theorem schm_rows (L : HSchm p ext F) {x y : Row} (hx : x.length < 1000000) : FnD p ext (F 2) [rowD x, rowD y] (.lit (.int .i64 (cmpRow cmpV x y))) := by
  refine fn_of L.h2 (M := M2) rfl ok2 rfl fun H => sem_run 9000 _ ?_
  simp
  refine sem_fn (compareFunc L (fun a b => schm_compare L) hx) (by first | exact D.les_refl _ | simp) (sem_run 9000 _ ?_)
  simp
  refine sem_ret ?_
  simp [M2]
  exact .same (by simp)
theorem vl_ext {a b : Vl} : a = b ↔ a.null = b.null ∧ a.kind = b.kind ∧ a.n = b.n ∧ a.bytes = b.bytes := by
  cases a; cases b; simp
instance : DecidableEq Vl := fun _a _b => decidable_of_iff _ vl_ext.symm
end Go.Lib
end

section
set_option maxRecDepth 10000
namespace Go.Lib
open Go.Vm Go.Dv
variable {α : Type}
structure Ord3 (G : α → Prop) (cmp : α → α → Int) : Prop where
  sym : ∀ x y, G x → G y → cmp x y = - cmp y x
  tr : ∀ x y z, G x → G y → G z → cmp x y ≤ 0 → cmp y z ≤ 0 → cmp x z ≤ 0
namespace Ord3
variable {G : α → Prop} {cmp : α → α → Int}
theorem lt_le (o : Ord3 G cmp) {x y z : α} (hx : G x) (hy : G y) (hz : G z) (h1 : cmp x y < 0) (h2 : cmp y z ≤ 0) : cmp x z < 0 := by
  have h3 := o.tr x y z hx hy hz (by omega) h2
  rcases Int.lt_or_eq_of_le h3 with h | h
  · exact h
  · have := o.sym x z hx hz
    have h4 := o.tr y z x hy hz hx h2 (by omega)
    have := o.sym x y hx hy
    omega
theorem le_lt (o : Ord3 G cmp) {x y z : α} (hx : G x) (hy : G y) (hz : G z) (h1 : cmp x y ≤ 0) (h2 : cmp y z < 0) : cmp x z < 0 := by
  have h3 := o.tr x y z hx hy hz h1 (by omega)
  rcases Int.lt_or_eq_of_le h3 with h | h
  · exact h
  · have := o.sym x z hx hz
    have h4 := o.tr z x y hz hx hy (by omega) h1
    have := o.sym y z hy hz
    omega
theorem eq_eq (o : Ord3 G cmp) {x y z : α} (hx : G x) (hy : G y) (hz : G z) (h1 : cmp x y = 0) (h2 : cmp y z = 0) : cmp x z = 0 := by
  have h3 := o.tr x y z hx hy hz (by omega) (by omega)
  have e1 := o.sym x y hx hy
  have e2 := o.sym y z hy hz
  have e3 := o.sym x z hx hz
  have h4 := o.tr z y x hz hy hx (by omega) (by omega)
  omega
theorem anti (o : Ord3 G cmp) : ∀ x y, G x → G y → cmp x y < 0 → ¬ cmp y x < 0 := fun x y hx hy h => by
  have := o.sym x y hx hy; omega
theorem trans (o : Ord3 G cmp) : ∀ x y z, G x → G y → G z → ¬ cmp y x < 0 → ¬ cmp z y < 0 → ¬ cmp z x < 0 := fun x y z hx hy hz h1 h2 => by
  have e1 := o.sym x y hx hy
  have e2 := o.sym y z hy hz
  have e3 := o.sym x z hx hz
  have := o.tr x y z hx hy hz (by omega) (by omega)
  omega
end Ord3
theorem cmpI_ord : Ord3 (fun _ => True) cmpI :=
  ⟨fun x y _ _ => by unfold cmpI; repeat' split <;> omega, fun x y z _ _ _ h1 h2 => by unfold cmpI at *; split at h1 <;> split at h2 <;> (repeat' split) <;> omega⟩
theorem cmpI_eq {x y : Int} : cmpI x y = 0 ↔ x = y := by unfold cmpI; repeat' split <;> omega
theorem cmpL_cons {a b : Nat} {x y : List Nat} : cmpL (a :: x) (b :: y) = if cmpI a b ≠ 0 then cmpI a b else cmpL x y := by
  simp only [cmpL, cmpI, cond_eq_ite, nblt]
  repeat' split
  all_goals first | rfl | omega
theorem cmpL_ord : Ord3 (fun _ => True) cmpL := by
  refine ⟨fun x y _ _ => ?_, fun x y z _ _ _ => ?_⟩
  · induction x generalizing y with
    | nil => cases y <;> rfl
    | cons a x ih => cases y with
      | nil => rfl
      | cons b y =>
        rw [cmpL_cons, cmpL_cons]
        have := cmpI_ord.sym (a : Int) b trivial trivial
        have := ih y
        split <;> split <;> omega
  · induction x generalizing y z with
    | nil => intro _ _; cases z <;> simp [cmpL]
    | cons a x ih => cases y with
      | nil => intro h; simp [cmpL] at h
      | cons b y => cases z with
        | nil => intro _ h; simp [cmpL] at h
        | cons c z =>
          rw [cmpL_cons, cmpL_cons, cmpL_cons]
          intro h1 h2
          have ih := ih y z
          have o := cmpI_ord
          have t := o.tr (a : Int) b c trivial trivial trivial
          have t1 := o.lt_le (x := (a : Int)) (y := b) (z := c) trivial trivial trivial
          have t2 := o.le_lt (x := (a : Int)) (y := b) (z := c) trivial trivial trivial
          have t3 := o.eq_eq (x := (a : Int)) (y := b) (z := c) trivial trivial trivial
          split at h1 <;> split at h2 <;> split <;> first | omega | (exact ih (by omega) (by omega)) | skip
theorem cmpB_ord : Ord3 (fun _ => True) cmpB := ⟨fun _ _ _ _ => cmpL_ord.sym _ _ trivial trivial, fun _ _ _ _ _ _ h1 h2 => cmpL_ord.tr _ _ _ trivial trivial trivial h1 h2⟩
theorem cmpL_eq : ∀ {x y : List Nat}, cmpL x y = 0 ↔ x = y
  | [], [] => by simp [cmpL]
  | [], _ :: _ => by simp [cmpL]
  | _ :: _, [] => by simp [cmpL]
  | a :: x, b :: y => by
    rw [cmpL_cons]
    have := cmpI_eq (x := (a : Int)) (y := b)
    split
    · constructor
      · intro h; omega
      · intro h; simp only [List.cons.injEq] at h; omega
    · rw [cmpL_eq]
      constructor
      · rintro rfl; simp; omega
      · intro h; exact (List.cons.inj h).2
theorem cmpB_eq {x y : List By} : cmpB x y = 0 ↔ x = y := by unfold cmpB; rw [cmpL_eq, bys_inj]
theorem cmpV_null {a b : Vl} : cmpV a b = if a.null = true then (if b.null = true then 0 else -1) else if b.null = true then 1 else if a.kind = 1 then cmpI a.n b.n else if a.kind = 2 then cmpB a.bytes b.bytes else 0 := by
  unfold cmpV rankV cmpI
  cases a.null <;> cases b.null <;> simp
theorem cmpV_ord {k : Int} : Ord3 (fun v : Vl => v.kind = k) cmpV := by
  refine ⟨fun x y hx hy => ?_, fun x y z hx hy hz h1 h2 => ?_⟩
  · rw [cmpV_null, cmpV_null, hx, hy]
    have := cmpI_ord.sym x.n y.n trivial trivial
    have := cmpB_ord.sym x.bytes y.bytes trivial trivial
    repeat' split
    all_goals omega
  · rw [cmpV_null] at *
    rw [hx] at *
    rw [hy] at h2
    have := cmpI_ord.tr x.n y.n z.n trivial trivial trivial
    have := cmpB_ord.tr x.bytes y.bytes z.bytes trivial trivial trivial
    cases hx0 : x.null <;> cases hy0 : y.null <;> cases hz0 : z.null <;> simp [hx0, hy0, hz0] at h1 h2 ⊢
    split at h1
    · rename_i e
      simp only [e] at h2 ⊢
      simp at h2 ⊢; omega
    · rename_i e
      simp only [e] at h2 ⊢
      split at h1
      · rename_i e2
        simp [e2] at h2 ⊢; omega
      · rename_i e2
        simp [e2]
theorem cmpL_abs : ∀ {x y : List Nat}, -1 ≤ cmpL x y ∧ cmpL x y ≤ 1
  | [], [] => by simp [cmpL]
  | [], _ :: _ => by simp [cmpL]
  | _ :: _, [] => by simp [cmpL]
  | a :: x, b :: y => by
    rw [cmpL_cons]
    have := cmpL_abs (x := x) (y := y)
    unfold cmpI
    repeat' split
    all_goals omega
theorem cmpV_abs {a b : Vl} : -1 ≤ cmpV a b ∧ cmpV a b ≤ 1 := by
  rw [cmpV_null]
  have := cmpL_abs (x := bys a.bytes) (y := bys b.bytes)
  unfold cmpI cmpB
  repeat' split
  all_goals omega
def Kin (ks : List Int) (r : Row) : Prop := r.map Vl.kind = ks
theorem cmpRow_ord : ∀ {ks : List Int}, Ord3 (Kin ks) (cmpRow cmpV) := by
  intro ks
  refine ⟨?_, ?_⟩
  · induction ks with
    | nil =>
      intro x y hx hy
      simp only [Kin, List.map_eq_nil_iff] at hx hy
      subst hx; subst hy; rfl
    | cons k ks ih =>
      intro x y hx hy
      cases x with
      | nil => simp [Kin] at hx
      | cons a x => cases y with
        | nil => simp [Kin] at hy
        | cons b y =>
          simp only [Kin, List.map_cons, List.cons.injEq] at hx hy
          have := ih x y hx.2 hy.2
          have := (cmpV_ord (k := k)).sym a b hx.1 hy.1
          simp only [cmpRow]
          split <;> split <;> omega
  · induction ks with
    | nil =>
      intro x y z hx hy hz
      simp only [Kin, List.map_eq_nil_iff] at hx hy hz
      subst hx; subst hy; subst hz; simp [cmpRow]
    | cons k ks ih =>
      intro x y z hx hy hz
      cases x with
      | nil => simp [Kin] at hx
      | cons a x => cases y with
        | nil => simp [Kin] at hy
        | cons b y => cases z with
          | nil => simp [Kin] at hz
          | cons c z =>
            simp only [Kin, List.map_cons, List.cons.injEq] at hx hy hz
            have ih := ih x y z hx.2 hy.2 hz.2
            have o := cmpV_ord (k := k)
            have t := o.tr a b c hx.1 hy.1 hz.1
            have t1 := o.lt_le hx.1 hy.1 hz.1
            have t2 := o.le_lt hx.1 hy.1 hz.1
            have t3 := o.eq_eq hx.1 hy.1 hz.1
            simp only [cmpRow]
            intro h1 h2
            split at h1 <;> split at h2 <;> split <;> first | omega | (exact ih (by omega) (by omega)) | skip
end Go.Lib
end

section
set_option maxRecDepth 10000
namespace Go.Lib
open Go.Vm Go.Dv
variable {p : Prog} {ext : Ext} {F : Nat → Nat}
structure HRef6 (p : Prog) (ext : Ext) (F : Nat → Nat) : Prop where
  h46 : Has p ext F 46 M46
  h47 : Has p ext F 47 M47
  h48 : Has p ext F 48 M48
  h49 : Has p ext F 49 M49
  h50 : Has p ext F 50 M50
end Go.Lib
end

section
namespace Go.Lib
open Go.Vm Go.Dv
set_option maxRecDepth 100000
abbrev K32 (F : Nat → Nat) : KC := .seq (.region [⟨(some 4),(.a (.box (.tmp 1))),none⟩,⟨(some 6),(.p (.mov (.val (.nilslice)))),none⟩,⟨(some 7),(.p (.mov (.val (.bool false)))),none⟩] [4] [0,2,4])
 (.seq (.seq (.region [⟨(some 16),(.load1 (.tmp 4)),none⟩,⟨(some 17),(.p (.bin .lss (.tmp 16) (.val (.int .i64 (.ofNat 0))))),none⟩] [] [0,2,4,17])
 (.cond (.tmp 17) (.seq (.region [⟨(some 19),(.p (.mov (.tmp 0))),none⟩,⟨(some 20),(.p (.mov (.tmp 2))),none⟩,⟨(some 21),(.e (.call (F 36) [(.val (.nilslice)),(.tmp 19),(.tmp 20)])),none⟩,⟨(some 18),(.p (.mov (.tmp 21))),none⟩,⟨(some 22),(.p (.ext (.tmp 18) 0)),none⟩,⟨(some 23),(.p (.ext (.tmp 18) 1)),none⟩,⟨(some 8),(.p (.mov (.tmp 22))),none⟩,⟨(some 9),(.p (.mov (.tmp 23))),none⟩] [] [8,9])
 (.seq (.seq (.region [⟨(some 24),(.p (.mov (.tmp 9))),none⟩,⟨(some 25),(.p (.not (.tmp 24))),none⟩] [] [8,25])
 (.cond (.tmp 25) (.seq (.region [⟨(some 6),(.p (.mov (.val (.nilslice)))),none⟩,⟨(some 7),(.p (.mov (.val (.bool false)))),none⟩] [] [6,7])
 (.ret))
 (.skip)))
 (.seq (.region [⟨(some 26),(.p (.mov (.tmp 8))),none⟩,⟨(some 27),(.a (.bslice [.nilslice] 1 1 [(0,1,(.tmp 26))])),none⟩,⟨(some 6),(.p (.mov (.tmp 27))),none⟩,⟨(some 7),(.p (.mov (.val (.bool true)))),none⟩] [27] [6,7])
 (.ret))))
 (.skip)))
 (.seq (.region [⟨(some 28),(.p (.mov (.tmp 0))),none⟩,⟨(some 29),(.e (.call (F 37) [(.tmp 28)])),none⟩,⟨(some 10),(.p (.mov (.tmp 29))),none⟩] [] [2,4,10])
 (.seq (.region [⟨(some 30),(.p (.mov (.tmp 10))),none⟩,⟨(some 31),(.p (.mkfunc (F 38) [] [(.tmp 4)])),none⟩,⟨(some 32),(.e (.call (F 26) [(.tmp 30),(.tmp 31)])),none⟩] [] [2,4,10])
 (.seq (.region [⟨(some 11),(.p (.mov (.val (.nilslice)))),none⟩] [] [2,4,10,11])
 (.seq (.block 0 (.loop (.seq (.seq (.region [⟨(some 33),(.p (.mov (.tmp 10))),none⟩,⟨(some 34),(.p (.lenb (.tmp 33))),none⟩,⟨(some 35),(.p (.bin .gtr (.tmp 34) (.val (.int .i64 (.ofNat 0))))),none⟩] [] [2,4,10,11,35])
 (.cond (.tmp 35) (.skip)
 (.exit 0)))
 (.block 1 (.seq (.dregion [⟨⟨(some 36),(.p (.mov (.tmp 10))),none⟩,0,4⟩,⟨⟨(some 37),(.p (.iaddr 1 (.tmp 36) (.val (.int .i64 (.ofNat 0))))),none⟩,0,4⟩,⟨⟨(some 38),(.load1 (.tmp 37)),none⟩,0,4⟩,⟨⟨(some 39),(.load1 (.tmp 4)),none⟩,0,4⟩,⟨⟨(some 40),(.e (.call (F 3) [(.tmp 38),(.tmp 39)])),none⟩,0,6⟩,⟨⟨(some 12),(.a (.new [.bool false,.int .i64 (.ofNat 0),.int .i64 (.ofNat 0),.nilslice])),none⟩,0,6⟩,⟨⟨none,(.e (.store 4 (.tmp 12) (.tmp 40))),none⟩,5,7⟩] [2,4,10,11,12])
 (.seq (.region [⟨(some 13),(.p (.mov (.val (.int .i64 (.ofNat 1))))),none⟩] [] [2,4,10,11,12,13])
 (.seq (.block 2 (.loop (.seq (.seq (.dregion [⟨⟨(some 41),(.p (.mov (.tmp 13))),none⟩,0,10⟩,⟨⟨(some 42),(.p (.mov (.tmp 10))),none⟩,0,10⟩,⟨⟨(some 43),(.p (.lenb (.tmp 42))),none⟩,0,10⟩,⟨⟨(some 44),(.p (.bin .lss (.tmp 41) (.tmp 43))),none⟩,0,10⟩,⟨⟨(some 45),(.p (.mov (.tmp 44))),none⟩,0,10⟩,⟨⟨(some 46),(.p (.mov (.tmp 10))),(some (45,true))⟩,0,10⟩,⟨⟨(some 47),(.p (.mov (.tmp 13))),(some (45,true))⟩,0,10⟩,⟨⟨(some 48),(.p (.iaddr 1 (.tmp 46) (.tmp 47))),(some (45,true))⟩,0,10⟩,⟨⟨(some 49),(.load1 (.tmp 48)),(some (45,true))⟩,0,10⟩,⟨⟨(some 50),(.load1 (.tmp 4)),(some (45,true))⟩,0,10⟩,⟨⟨(some 51),(.e (.call (F 3) [(.tmp 49),(.tmp 50)])),(some (45,true))⟩,0,12⟩,⟨⟨(some 52),(.loadn 4 (.tmp 12)),(some (45,true))⟩,0,12⟩,⟨⟨(some 53),(.e (.call (F 1) [(.tmp 51),(.tmp 52)])),(some (45,true))⟩,11,15⟩,⟨⟨(some 54),(.p (.bin .eql (.tmp 53) (.val (.int .i64 (.ofNat 0))))),(some (45,true))⟩,13,15⟩,⟨⟨(some 55),(.p (.pick (.tmp 45) (.tmp 54) (.val (.bool false)))),none⟩,13,15⟩] [2,4,10,11,12,13,55])
 (.cond (.tmp 55) (.skip)
 (.exit 2)))
 (.block 3 (.region [⟨(some 56),(.p (.mov (.tmp 13))),none⟩,⟨(some 57),(.p (.bin .add (.tmp 56) (.val (.int .i64 (.ofNat 1))))),none⟩,⟨(some 13),(.p (.mov (.tmp 57))),none⟩] [] [2,4,10,11,12,13])))))
 (.seq (.dregion [⟨⟨(some 59),(.loadn 4 (.tmp 12)),none⟩,0,6⟩,⟨⟨(some 60),(.a (.bslice [.bool false,.int .i64 (.ofNat 0),.int .i64 (.ofNat 0),.nilslice] 4 1 [(0,4,(.tmp 59))])),none⟩,0,6⟩,⟨⟨(some 61),(.p (.mov (.tmp 10))),none⟩,0,6⟩,⟨⟨(some 62),(.p (.mov (.tmp 13))),none⟩,0,6⟩,⟨⟨(some 63),(.p (.slc 1 (.tmp 61) none (some (.tmp 62)) none)),none⟩,0,6⟩,⟨⟨(some 64),(.p (.mov (.tmp 2))),none⟩,0,6⟩,⟨⟨(some 65),(.e (.call (F 36) [(.tmp 60),(.tmp 63),(.tmp 64)])),none⟩,0,12⟩,⟨⟨(some 58),(.p (.mov (.tmp 65))),none⟩,7,12⟩,⟨⟨(some 66),(.p (.ext (.tmp 58) 0)),none⟩,7,12⟩,⟨⟨(some 67),(.p (.ext (.tmp 58) 1)),none⟩,7,12⟩,⟨⟨(some 14),(.p (.mov (.tmp 66))),none⟩,7,12⟩,⟨⟨(some 15),(.p (.mov (.tmp 67))),none⟩,7,12⟩] [2,4,10,11,13,14,15])
 (.seq (.seq (.region [⟨(some 68),(.p (.mov (.tmp 15))),none⟩,⟨(some 69),(.p (.not (.tmp 68))),none⟩] [] [2,4,10,11,13,14,69])
 (.cond (.tmp 69) (.seq (.region [⟨(some 6),(.p (.mov (.val (.nilslice)))),none⟩,⟨(some 7),(.p (.mov (.val (.bool false)))),none⟩] [] [6,7])
 (.ret))
 (.skip)))
 (.seq (.region [⟨(some 70),(.p (.mov (.tmp 11))),none⟩,⟨(some 71),(.p (.mov (.tmp 14))),none⟩,⟨(some 72),(.a (.bslice [.nilslice] 1 1 [(0,1,(.tmp 71))])),none⟩,⟨(some 73),(.e (.append 1 24 (.tmp 70) (.tmp 72))),none⟩,⟨(some 11),(.p (.mov (.tmp 73))),none⟩] [72] [2,4,10,11,13])
 (.region [⟨(some 74),(.p (.mov (.tmp 10))),none⟩,⟨(some 75),(.p (.mov (.tmp 13))),none⟩,⟨(some 76),(.p (.slc 1 (.tmp 74) (some (.tmp 75)) none none)),none⟩,⟨(some 10),(.p (.mov (.tmp 76))),none⟩] [] [2,4,10,11])))))))))))
 (.seq (.region [⟨(some 77),(.p (.mov (.tmp 11))),none⟩,⟨(some 78),(.e (.call (F 39) [(.tmp 77)])),none⟩,⟨(some 6),(.p (.mov (.tmp 78))),none⟩,⟨(some 7),(.p (.mov (.val (.bool true)))),none⟩] [] [6,7])
 (.ret)))))))
def M32 (F : Nat → Nat) : Fun := ⟨79,3,(K32 F).erase,[.tmp 6,.tmp 7]⟩
theorem ok32 {F : Nat → Nat} : (K32 F).ok = true := rfl
abbrev K33 (F : Nat → Nat) : KC := .seq (.region [⟨(some 2),(.p (.mov (.val (.nilslice)))),none⟩] [] [0])
 (.seq (.region [⟨(some 4),(.p (.mov (.tmp 0))),none⟩,⟨(some 5),(.e (.call (F 37) [(.tmp 4)])),none⟩,⟨(some 3),(.p (.mov (.tmp 5))),none⟩] [] [3])
 (.seq (.region [⟨(some 6),(.p (.mov (.tmp 3))),none⟩,⟨(some 7),(.e (.call (F 26) [(.tmp 6),(.val (.func (F 2) [] []))])),none⟩] [] [3])
 (.seq (.region [⟨(some 8),(.p (.mov (.tmp 3))),none⟩,⟨(some 2),(.p (.mov (.tmp 8))),none⟩] [] [2])
 (.ret))))
def M33 (F : Nat → Nat) : Fun := ⟨9,1,(K33 F).erase,[.tmp 2]⟩
theorem ok33 {F : Nat → Nat} : (K33 F).ok = true := rfl
abbrev K34 (F : Nat → Nat) : KC := .seq (.region [⟨(some 4),(.p (.mov (.val (.nilslice)))),none⟩] [] [0,1])
 (.seq (.region [⟨(some 5),(.p (.mov (.val (.nilslice)))),none⟩] [] [0,1,5])
 (.seq (.seq (.region [⟨(some 11),(.p (.mov (.tmp 0))),none⟩,⟨(some 12),(.p (.lenb (.tmp 11))),none⟩,⟨(some 13),(.p (.mov (.val (.int .i64 (.ofNat 0))))),none⟩] [] [1,5,11,12,13])
 (.block 0 (.loop (.seq (.region [⟨(some 14),(.p (.bin .lss (.tmp 13) (.tmp 12))),none⟩] [] [1,5,11,12,13,14])
 (.seq (.cond (.tmp 14) (.skip)
 (.exit 0))
 (.seq (.block 1 (.seq (.region [⟨(some 15),(.p (.iaddr 1 (.tmp 11) (.tmp 13))),none⟩,⟨(some 16),(.load1 (.tmp 15)),none⟩,⟨(some 7),(.p (.mov (.tmp 16))),none⟩] [] [1,5,7,11,12,13])
 (.seq (.region [⟨(some 8),(.p (.mov (.val (.nilslice)))),none⟩] [] [1,5,7,8,11,12,13])
 (.seq (.seq (.region [⟨(some 17),(.p (.mov (.tmp 1))),none⟩,⟨(some 18),(.p (.lenb (.tmp 17))),none⟩,⟨(some 19),(.p (.mov (.val (.int .i64 (.ofNat 0))))),none⟩] [] [1,5,7,8,11,12,13,17,18,19])
 (.block 2 (.loop (.seq (.region [⟨(some 20),(.p (.bin .lss (.tmp 19) (.tmp 18))),none⟩] [] [1,5,7,8,11,12,13,17,18,19,20])
 (.seq (.cond (.tmp 20) (.skip)
 (.exit 2))
 (.seq (.block 3 (.seq (.region [⟨(some 21),(.p (.iaddr 1 (.tmp 17) (.tmp 19))),none⟩,⟨(some 22),(.load1 (.tmp 21)),none⟩,⟨(some 10),(.p (.mov (.tmp 22))),none⟩] [] [1,5,7,8,10,11,12,13,17,18,19])
 (.region [⟨(some 23),(.p (.mov (.tmp 8))),none⟩,⟨(some 24),(.p (.mov (.tmp 7))),none⟩,⟨(some 25),(.p (.mov (.tmp 10))),none⟩,⟨(some 26),(.e (.call (F 3) [(.tmp 24),(.tmp 25)])),none⟩,⟨(some 27),(.a (.bslice [.bool false,.int .i64 (.ofNat 0),.int .i64 (.ofNat 0),.nilslice] 4 1 [(0,4,(.tmp 26))])),none⟩,⟨(some 28),(.e (.append 4 48 (.tmp 23) (.tmp 27))),none⟩,⟨(some 8),(.p (.mov (.tmp 28))),none⟩] [27] [1,5,7,8,11,12,13,17,18,19])))
 (.region [⟨(some 29),(.p (.bin .add (.tmp 19) (.val (.int .i64 (.ofNat 1))))),none⟩,⟨(some 19),(.p (.mov (.tmp 29))),none⟩] [] [1,5,7,8,11,12,13,17,18,19])))))))
 (.region [⟨(some 30),(.p (.mov (.tmp 5))),none⟩,⟨(some 31),(.p (.mov (.tmp 8))),none⟩,⟨(some 32),(.a (.bslice [.nilslice] 1 1 [(0,1,(.tmp 31))])),none⟩,⟨(some 33),(.e (.append 1 24 (.tmp 30) (.tmp 32))),none⟩,⟨(some 5),(.p (.mov (.tmp 33))),none⟩] [32] [1,5,11,12,13])))))
 (.region [⟨(some 34),(.p (.bin .add (.tmp 13) (.val (.int .i64 (.ofNat 1))))),none⟩,⟨(some 13),(.p (.mov (.tmp 34))),none⟩] [] [1,5,11,12,13])))))))
 (.seq (.region [⟨(some 35),(.p (.mov (.tmp 5))),none⟩,⟨(some 36),(.e (.call (F 33) [(.tmp 35)])),none⟩,⟨(some 4),(.p (.mov (.tmp 36))),none⟩] [] [4])
 (.ret))))
def M34 (F : Nat → Nat) : Fun := ⟨37,2,(K34 F).erase,[.tmp 4]⟩
theorem ok34 {F : Nat → Nat} : (K34 F).ok = true := rfl
abbrev K35 (F : Nat → Nat) : KC := .seq (.region [⟨(some 4),(.p (.mov (.val (.nilslice)))),none⟩,⟨(some 5),(.p (.mov (.val (.bool false)))),none⟩] [] [0,1])
 (.seq (.region [⟨(some 12),(.p (.mov (.tmp 0))),none⟩,⟨(some 13),(.e (.call (F 4) [(.tmp 12)])),none⟩,⟨(some 6),(.p (.mov (.tmp 13))),none⟩] [] [1,6])
 (.seq (.seq (.region [⟨(some 14),(.p (.mov (.tmp 1))),none⟩,⟨(some 15),(.p (.lenb (.tmp 14))),none⟩,⟨(some 16),(.p (.mov (.val (.int .i64 (.ofNat 0))))),none⟩] [] [6,14,15,16])
 (.block 0 (.loop (.seq (.region [⟨(some 17),(.p (.bin .lss (.tmp 16) (.tmp 15))),none⟩] [] [6,14,15,16,17])
 (.seq (.cond (.tmp 17) (.skip)
 (.exit 0))
 (.seq (.block 1 (.seq (.region [⟨(some 18),(.p (.iaddr 6 (.tmp 14) (.tmp 16))),none⟩,⟨(some 19),(.loadn 6 (.tmp 18)),none⟩,⟨(some 8),(.a (.new [.int .i64 (.ofNat 0),.bool false,.bool false,.int .i64 (.ofNat 0),.int .i64 (.ofNat 0),.nilslice])),none⟩,⟨none,(.e (.store 6 (.tmp 8) (.tmp 19))),none⟩] [] [6,8,14,15,16])
 (.seq (.seq (.region [⟨(some 20),(.p (.faddr 0 (.tmp 8))),none⟩,⟨(some 21),(.load1 (.tmp 20)),none⟩,⟨(some 22),(.p (.bin .lss (.tmp 21) (.val (.int .i64 (.ofNat 0))))),none⟩,⟨(some 23),(.p (.mov (.tmp 22))),none⟩,⟨(some 24),(.p (.faddr 0 (.tmp 8))),(some (23,false))⟩,⟨(some 25),(.load1 (.tmp 24)),(some (23,false))⟩,⟨(some 26),(.p (.mov (.tmp 6))),(some (23,false))⟩,⟨(some 27),(.p (.lenb (.tmp 26))),(some (23,false))⟩,⟨(some 28),(.p (.bin .geq (.tmp 25) (.tmp 27))),(some (23,false))⟩,⟨(some 29),(.p (.pick (.tmp 23) (.val (.bool true)) (.tmp 28))),none⟩] [] [6,8,14,15,16,29])
 (.cond (.tmp 29) (.exit 1)
 (.skip)))
 (.seq (.region [⟨(some 30),(.p (.mov (.tmp 6))),none⟩,⟨(some 31),(.p (.faddr 0 (.tmp 8))),none⟩,⟨(some 32),(.load1 (.tmp 31)),none⟩,⟨(some 33),(.p (.iaddr 4 (.tmp 30) (.tmp 32))),none⟩,⟨(some 9),(.p (.mov (.tmp 33))),none⟩] [] [6,8,9,14,15,16])
 (.block 2 (.seq (.region [⟨(some 35),(.p (.faddr 1 (.tmp 8))),none⟩,⟨(some 36),(.load1 (.tmp 35)),none⟩,⟨(some 37),(.p (.not (.tmp 36))),none⟩,⟨(some 34),(.p (.mov (.tmp 37))),none⟩] [] [6,8,9,14,15,16,34])
 (.cond (.tmp 34) (.region [⟨(some 38),(.p (.mov (.tmp 9))),none⟩,⟨(some 39),(.p (.faddr 2 (.tmp 8))),none⟩,⟨(some 40),(.loadn 4 (.tmp 39)),none⟩,⟨(some 41),(.e (.call (F 5) [(.tmp 40)])),none⟩,⟨(some 42),(.p (.nilchk (.tmp 38))),none⟩,⟨none,(.e (.store 4 (.tmp 42) (.tmp 41))),none⟩] [] [6,14,15,16])
 (.seq (.region [⟨(some 44),(.p (.mov (.tmp 9))),none⟩,⟨(some 45),(.p (.nilchk (.tmp 44))),none⟩,⟨(some 46),(.p (.faddr 0 (.tmp 45))),none⟩,⟨(some 47),(.load1 (.tmp 46)),none⟩,⟨(some 48),(.p (.not (.tmp 47))),none⟩,⟨(some 43),(.p (.mov (.tmp 48))),none⟩] [] [6,8,9,14,15,16,43])
 (.cond (.tmp 43) (.seq (.dregion [⟨⟨(some 50),(.p (.mov (.tmp 9))),none⟩,0,7⟩,⟨⟨(some 51),(.p (.nilchk (.tmp 50))),none⟩,0,7⟩,⟨⟨(some 52),(.p (.faddr 2 (.tmp 51))),none⟩,0,7⟩,⟨⟨(some 53),(.load1 (.tmp 52)),none⟩,0,7⟩,⟨⟨(some 54),(.p (.faddr 2 (.tmp 8))),none⟩,0,7⟩,⟨⟨(some 55),(.p (.faddr 2 (.tmp 54))),none⟩,0,7⟩,⟨⟨(some 56),(.load1 (.tmp 55)),none⟩,0,7⟩,⟨⟨(some 57),(.e (.call (F 40) [(.tmp 53),(.tmp 56)])),none⟩,0,13⟩,⟨⟨(some 49),(.p (.mov (.tmp 57))),none⟩,8,13⟩,⟨⟨(some 58),(.p (.ext (.tmp 49) 0)),none⟩,8,13⟩,⟨⟨(some 59),(.p (.ext (.tmp 49) 1)),none⟩,8,13⟩,⟨⟨(some 10),(.p (.mov (.tmp 58))),none⟩,8,13⟩,⟨⟨(some 11),(.p (.mov (.tmp 59))),none⟩,8,13⟩] [6,9,10,11,14,15,16])
 (.seq (.seq (.region [⟨(some 60),(.p (.mov (.tmp 11))),none⟩,⟨(some 61),(.p (.not (.tmp 60))),none⟩] [] [6,9,10,14,15,16,61])
 (.cond (.tmp 61) (.seq (.region [⟨(some 4),(.p (.mov (.val (.nilslice)))),none⟩,⟨(some 5),(.p (.mov (.val (.bool false)))),none⟩] [] [4,5])
 (.ret))
 (.skip)))
 (.region [⟨(some 62),(.p (.mov (.tmp 9))),none⟩,⟨(some 63),(.p (.mov (.tmp 10))),none⟩,⟨(some 64),(.p (.nilchk (.tmp 62))),none⟩,⟨(some 65),(.p (.faddr 2 (.tmp 64))),none⟩,⟨none,(.e (.store 1 (.tmp 65) (.tmp 63))),none⟩] [] [6,14,15,16])))
 (.skip))))))))))
 (.region [⟨(some 66),(.p (.bin .add (.tmp 16) (.val (.int .i64 (.ofNat 1))))),none⟩,⟨(some 16),(.p (.mov (.tmp 66))),none⟩] [] [6,14,15,16])))))))
 (.seq (.region [⟨(some 67),(.p (.mov (.tmp 6))),none⟩,⟨(some 4),(.p (.mov (.tmp 67))),none⟩,⟨(some 5),(.p (.mov (.val (.bool true)))),none⟩] [] [4,5])
 (.ret))))
def M35 (F : Nat → Nat) : Fun := ⟨68,2,(K35 F).erase,[.tmp 4,.tmp 5]⟩
theorem ok35 {F : Nat → Nat} : (K35 F).ok = true := rfl
abbrev K36 (F : Nat → Nat) : KC := .seq (.region [⟨(some 6),(.p (.mov (.val (.nilslice)))),none⟩,⟨(some 7),(.p (.mov (.val (.bool false)))),none⟩] [] [0,1,2])
 (.seq (.region [⟨(some 13),(.p (.mov (.tmp 0))),none⟩,⟨(some 8),(.p (.mov (.tmp 13))),none⟩] [] [1,2,8])
 (.seq (.seq (.region [⟨(some 14),(.p (.mov (.tmp 2))),none⟩,⟨(some 15),(.p (.lenb (.tmp 14))),none⟩,⟨(some 16),(.p (.mov (.val (.int .i64 (.ofNat 0))))),none⟩] [] [1,8,14,15,16])
 (.block 0 (.loop (.seq (.region [⟨(some 17),(.p (.bin .lss (.tmp 16) (.tmp 15))),none⟩] [] [1,8,14,15,16,17])
 (.seq (.cond (.tmp 17) (.skip)
 (.exit 0))
 (.seq (.block 1 (.seq (.region [⟨(some 18),(.p (.iaddr 2 (.tmp 14) (.tmp 16))),none⟩,⟨(some 19),(.loadn 2 (.tmp 18)),none⟩,⟨(some 10),(.a (.new [.int .i64 (.ofNat 0),.int .i64 (.ofNat 0)])),none⟩,⟨none,(.e (.store 2 (.tmp 10) (.tmp 19))),none⟩] [] [1,8,10,14,15,16])
 (.seq (.region [⟨(some 21),(.p (.mov (.tmp 1))),none⟩,⟨(some 22),(.loadn 2 (.tmp 10)),none⟩,⟨(some 23),(.e (.call (F 41) [(.tmp 21),(.tmp 22)])),none⟩,⟨(some 20),(.p (.mov (.tmp 23))),none⟩,⟨(some 24),(.p (.ext (.tmp 20) 0)),none⟩,⟨(some 25),(.p (.ext (.tmp 20) 1)),none⟩,⟨(some 11),(.a (.new [.bool false,.int .i64 (.ofNat 0),.int .i64 (.ofNat 0),.nilslice])),none⟩,⟨none,(.e (.store 4 (.tmp 11) (.tmp 24))),none⟩,⟨(some 12),(.p (.mov (.tmp 25))),none⟩] [] [1,8,11,12,14,15,16])
 (.seq (.seq (.region [⟨(some 26),(.p (.mov (.tmp 12))),none⟩,⟨(some 27),(.p (.not (.tmp 26))),none⟩] [] [1,8,11,14,15,16,27])
 (.cond (.tmp 27) (.seq (.region [⟨(some 6),(.p (.mov (.val (.nilslice)))),none⟩,⟨(some 7),(.p (.mov (.val (.bool false)))),none⟩] [] [6,7])
 (.ret))
 (.skip)))
 (.region [⟨(some 28),(.p (.mov (.tmp 8))),none⟩,⟨(some 29),(.loadn 4 (.tmp 11)),none⟩,⟨(some 30),(.a (.bslice [.bool false,.int .i64 (.ofNat 0),.int .i64 (.ofNat 0),.nilslice] 4 1 [(0,4,(.tmp 29))])),none⟩,⟨(some 31),(.e (.append 4 48 (.tmp 28) (.tmp 30))),none⟩,⟨(some 8),(.p (.mov (.tmp 31))),none⟩] [30] [1,8,14,15,16])))))
 (.region [⟨(some 32),(.p (.bin .add (.tmp 16) (.val (.int .i64 (.ofNat 1))))),none⟩,⟨(some 16),(.p (.mov (.tmp 32))),none⟩] [] [1,8,14,15,16])))))))
 (.seq (.region [⟨(some 33),(.p (.mov (.tmp 8))),none⟩,⟨(some 34),(.e (.call (F 13) [(.tmp 33)])),none⟩,⟨(some 6),(.p (.mov (.tmp 34))),none⟩,⟨(some 7),(.p (.mov (.val (.bool true)))),none⟩] [] [6,7])
 (.ret))))
def M36 (F : Nat → Nat) : Fun := ⟨35,3,(K36 F).erase,[.tmp 6,.tmp 7]⟩
theorem ok36 {F : Nat → Nat} : (K36 F).ok = true := rfl
abbrev K37 (F : Nat → Nat) : KC := .seq (.region [⟨(some 2),(.p (.mov (.val (.nilslice)))),none⟩] [] [0])
 (.seq (.region [⟨(some 3),(.p (.mov (.val (.nilslice)))),none⟩] [] [0,3])
 (.seq (.seq (.region [⟨(some 6),(.p (.mov (.tmp 0))),none⟩,⟨(some 7),(.p (.lenb (.tmp 6))),none⟩,⟨(some 8),(.p (.mov (.val (.int .i64 (.ofNat 0))))),none⟩] [] [3,6,7,8])
 (.block 0 (.loop (.seq (.region [⟨(some 9),(.p (.bin .lss (.tmp 8) (.tmp 7))),none⟩] [] [3,6,7,8,9])
 (.seq (.cond (.tmp 9) (.skip)
 (.exit 0))
 (.seq (.block 1 (.seq (.region [⟨(some 10),(.p (.iaddr 1 (.tmp 6) (.tmp 8))),none⟩,⟨(some 11),(.load1 (.tmp 10)),none⟩,⟨(some 5),(.p (.mov (.tmp 11))),none⟩] [] [3,5,6,7,8])
 (.region [⟨(some 12),(.p (.mov (.tmp 3))),none⟩,⟨(some 13),(.p (.mov (.tmp 5))),none⟩,⟨(some 14),(.e (.call (F 4) [(.tmp 13)])),none⟩,⟨(some 15),(.a (.bslice [.nilslice] 1 1 [(0,1,(.tmp 14))])),none⟩,⟨(some 16),(.e (.append 1 24 (.tmp 12) (.tmp 15))),none⟩,⟨(some 3),(.p (.mov (.tmp 16))),none⟩] [15] [3,6,7,8])))
 (.region [⟨(some 17),(.p (.bin .add (.tmp 8) (.val (.int .i64 (.ofNat 1))))),none⟩,⟨(some 8),(.p (.mov (.tmp 17))),none⟩] [] [3,6,7,8])))))))
 (.seq (.region [⟨(some 18),(.p (.mov (.tmp 3))),none⟩,⟨(some 19),(.e (.call (F 39) [(.tmp 18)])),none⟩,⟨(some 2),(.p (.mov (.tmp 19))),none⟩] [] [2])
 (.ret))))
def M37 (F : Nat → Nat) : Fun := ⟨20,1,(K37 F).erase,[.tmp 2]⟩
theorem ok37 {F : Nat → Nat} : (K37 F).ok = true := rfl
abbrev K38 (F : Nat → Nat) : KC := .seq (.region [⟨(some 5),(.p (.mov (.val (.int .i64 (.ofNat 0))))),none⟩] [] [0,1,2])
 (.seq (.dregion [⟨⟨(some 6),(.p (.mov (.tmp 0))),none⟩,0,2⟩,⟨⟨(some 7),(.load1 (.tmp 2)),none⟩,0,2⟩,⟨⟨(some 8),(.e (.call (F 3) [(.tmp 6),(.tmp 7)])),none⟩,0,5⟩,⟨⟨(some 9),(.p (.mov (.tmp 1))),none⟩,0,5⟩,⟨⟨(some 10),(.load1 (.tmp 2)),none⟩,0,5⟩,⟨⟨(some 11),(.e (.call (F 3) [(.tmp 9),(.tmp 10)])),none⟩,3,6⟩,⟨⟨(some 12),(.e (.call (F 1) [(.tmp 8),(.tmp 11)])),none⟩,6,8⟩,⟨⟨(some 5),(.p (.mov (.tmp 12))),none⟩,7,8⟩] [5])
 (.ret))
def M38 (F : Nat → Nat) : Fun := ⟨13,3,(K38 F).erase,[.tmp 5]⟩
theorem ok38 {F : Nat → Nat} : (K38 F).ok = true := rfl
abbrev K39 (_F : Nat → Nat) : KC := .seq (.region [⟨(some 2),(.p (.mov (.val (.nilslice)))),none⟩] [] [0])
 (.seq (.region [⟨(some 3),(.p (.mov (.tmp 0))),none⟩,⟨(some 4),(.p (.mov (.tmp 0))),none⟩,⟨(some 5),(.p (.lenb (.tmp 4))),none⟩,⟨(some 6),(.p (.mov (.tmp 0))),none⟩,⟨(some 7),(.p (.lenb (.tmp 6))),none⟩,⟨(some 8),(.p (.slc 1 (.tmp 3) none (some (.tmp 5)) (some (.tmp 7)))),none⟩,⟨(some 2),(.p (.mov (.tmp 8))),none⟩] [] [2])
 (.ret))
def M39 (F : Nat → Nat) : Fun := ⟨9,1,(K39 F).erase,[.tmp 2]⟩
theorem ok39 {F : Nat → Nat} : (K39 F).ok = true := rfl
abbrev K40 (F : Nat → Nat) : KC := .seq (.region [⟨(some 4),(.p (.mov (.val (.int .i64 (.ofNat 0))))),none⟩,⟨(some 5),(.p (.mov (.val (.bool false)))),none⟩] [] [0,1])
 (.seq (.region [⟨(some 6),(.a (.new [.int .i64 (.ofNat 0),.int .u64 (.ofNat 0)])),none⟩] [] [0,1,6])
 (.seq (.region [⟨(some 7),(.p (.mov (.tmp 0))),none⟩,⟨(some 8),(.e (.call (F 42) [(.tmp 6),(.tmp 7)])),none⟩] [] [1,6])
 (.seq (.region [⟨(some 9),(.p (.mov (.tmp 1))),none⟩,⟨(some 10),(.e (.call (F 42) [(.tmp 6),(.tmp 9)])),none⟩] [] [6])
 (.seq (.dregion [⟨⟨(some 11),(.p (.faddr 1 (.tmp 6))),none⟩,0,12⟩,⟨⟨(some 12),(.load1 (.tmp 11)),none⟩,0,12⟩,⟨⟨(some 13),(.p (.conv (.int .i64) (.tmp 12))),none⟩,0,12⟩,⟨⟨(some 14),(.p (.faddr 0 (.tmp 6))),none⟩,0,12⟩,⟨⟨(some 15),(.load1 (.tmp 14)),none⟩,0,12⟩,⟨⟨(some 16),(.p (.faddr 1 (.tmp 6))),none⟩,0,12⟩,⟨⟨(some 17),(.load1 (.tmp 16)),none⟩,0,12⟩,⟨⟨(some 18),(.p (.conv (.int .i64) (.tmp 17))),none⟩,0,12⟩,⟨⟨(some 19),(.p (.bin .shr (.tmp 18) (.val (.int .u64 (.ofNat 63))))),none⟩,0,12⟩,⟨⟨(some 20),(.p (.bin .eql (.tmp 15) (.tmp 19))),none⟩,0,12⟩,⟨⟨(some 4),(.p (.mov (.tmp 13))),none⟩,0,12⟩,⟨⟨(some 5),(.p (.mov (.tmp 20))),none⟩,0,12⟩] [4,5])
 (.ret)))))
def M40 (F : Nat → Nat) : Fun := ⟨21,2,(K40 F).erase,[.tmp 4,.tmp 5]⟩
theorem ok40 {F : Nat → Nat} : (K40 F).ok = true := rfl
abbrev K41 (F : Nat → Nat) : KC := .seq (.region [⟨(some 3),(.a (.box (.tmp 1))),none⟩,⟨(some 4),(.a (.new [.bool false,.int .i64 (.ofNat 0),.int .i64 (.ofNat 0),.nilslice])),none⟩,⟨(some 5),(.p (.mov (.val (.bool false)))),none⟩] [3] [0,3,4])
 (.seq (.seq (.region [⟨(some 6),(.p (.faddr 0 (.tmp 3))),none⟩,⟨(some 7),(.load1 (.tmp 6)),none⟩] [] [0,3,4,7])
 (.block 0 (.seq (.region [⟨(some 9),(.p (.bin .eql (.tmp 7) (.val (.int .i64 (.ofNat 1))))),none⟩,⟨(some 8),(.p (.mov (.tmp 9))),none⟩] [] [0,3,4,7,8])
 (.cond (.tmp 8) (.seq (.region [⟨(some 10),(.p (.mov (.tmp 0))),none⟩,⟨(some 11),(.p (.lenb (.tmp 10))),none⟩,⟨(some 12),(.p (.build [.bool false,.int .i64 (.ofNat 0),.int .i64 (.ofNat 0),.nilslice] [(1,1,(.val (.int .i64 (.ofNat 1)))),(2,1,(.tmp 11))])),none⟩,⟨none,(.e (.store 4 (.tmp 4) (.tmp 12))),none⟩,⟨(some 5),(.p (.mov (.val (.bool true)))),none⟩] [] [4,5])
 (.ret))
 (.seq (.region [⟨(some 14),(.p (.bin .eql (.tmp 7) (.val (.int .i64 (.ofNat 2))))),none⟩,⟨(some 13),(.p (.mov (.tmp 14))),none⟩] [] [0,3,4,7,13])
 (.cond (.tmp 13) (.seq (.region [⟨(some 15),(.p (.mov (.tmp 0))),none⟩,⟨(some 16),(.p (.faddr 1 (.tmp 3))),none⟩,⟨(some 17),(.load1 (.tmp 16)),none⟩,⟨(some 18),(.e (.call (F 43) [(.tmp 15),(.tmp 17)])),none⟩,⟨(some 19),(.p (.ext (.tmp 18) 0)),none⟩,⟨(some 20),(.p (.ext (.tmp 18) 1)),none⟩,⟨none,(.e (.store 4 (.tmp 4) (.tmp 19))),none⟩,⟨(some 5),(.p (.mov (.tmp 20))),none⟩] [] [4,5])
 (.ret))
 (.seq (.region [⟨(some 22),(.p (.bin .eql (.tmp 7) (.val (.int .i64 (.ofNat 3))))),none⟩,⟨(some 21),(.p (.mov (.tmp 22))),none⟩] [] [0,3,4,21])
 (.cond (.tmp 21) (.seq (.region [⟨(some 23),(.p (.mov (.tmp 0))),none⟩,⟨(some 24),(.p (.faddr 1 (.tmp 3))),none⟩,⟨(some 25),(.load1 (.tmp 24)),none⟩,⟨(some 26),(.e (.call (F 44) [(.tmp 23),(.tmp 25),(.val (.int .i64 (.negSucc 0)))])),none⟩,⟨none,(.e (.store 4 (.tmp 4) (.tmp 26))),none⟩,⟨(some 5),(.p (.mov (.val (.bool true)))),none⟩] [] [4,5])
 (.ret))
 (.skip)))))))))
 (.seq (.region [⟨(some 27),(.p (.mov (.tmp 0))),none⟩,⟨(some 28),(.p (.faddr 1 (.tmp 3))),none⟩,⟨(some 29),(.load1 (.tmp 28)),none⟩,⟨(some 30),(.e (.call (F 44) [(.tmp 27),(.tmp 29),(.val (.int .i64 (.ofNat 1)))])),none⟩,⟨none,(.e (.store 4 (.tmp 4) (.tmp 30))),none⟩,⟨(some 5),(.p (.mov (.val (.bool true)))),none⟩] [] [4,5])
 (.ret)))
def M41 (F : Nat → Nat) : Fun := ⟨31,2,(K41 F).erase,[.celln 4 4,.tmp 5]⟩
theorem ok41 {F : Nat → Nat} : (K41 F).ok = true := rfl
abbrev K42 (F : Nat → Nat) : KC := .seq (.region [⟨(some 7),(.p (.mov (.tmp 0))),none⟩,⟨(some 8),(.p (.nilchk (.tmp 7))),none⟩,⟨(some 9),(.p (.faddr 1 (.tmp 8))),none⟩,⟨(some 10),(.load1 (.tmp 9)),none⟩,⟨(some 11),(.p (.mov (.tmp 1))),none⟩,⟨(some 12),(.p (.conv (.int .u64) (.tmp 11))),none⟩,⟨(some 13),(.e (.extern (F 45) [(.tmp 10),(.tmp 12),(.val (.int .u64 (.ofNat 0)))])),none⟩,⟨(some 6),(.p (.mov (.tmp 13))),none⟩,⟨(some 14),(.p (.ext (.tmp 6) 0)),none⟩,⟨(some 15),(.p (.ext (.tmp 6) 1)),none⟩,⟨(some 4),(.p (.mov (.tmp 14))),none⟩,⟨(some 5),(.p (.mov (.tmp 15))),none⟩] [] [0,1,4,5])
 (.seq (.region [⟨(some 16),(.p (.mov (.tmp 0))),none⟩,⟨(some 17),(.p (.mov (.tmp 4))),none⟩,⟨(some 18),(.p (.nilchk (.tmp 16))),none⟩,⟨(some 19),(.p (.faddr 1 (.tmp 18))),none⟩,⟨none,(.e (.store 1 (.tmp 19) (.tmp 17))),none⟩] [] [0,1,5])
 (.region [⟨(some 20),(.p (.mov (.tmp 0))),none⟩,⟨(some 21),(.p (.nilchk (.tmp 20))),none⟩,⟨(some 22),(.p (.faddr 0 (.tmp 21))),none⟩,⟨(some 23),(.load1 (.tmp 22)),none⟩,⟨(some 24),(.p (.mov (.tmp 1))),none⟩,⟨(some 25),(.p (.bin .shr (.tmp 24) (.val (.int .u64 (.ofNat 63))))),none⟩,⟨(some 26),(.p (.mov (.tmp 5))),none⟩,⟨(some 27),(.p (.conv (.int .i64) (.tmp 26))),none⟩,⟨(some 28),(.p (.bin .add (.tmp 25) (.tmp 27))),none⟩,⟨(some 29),(.p (.bin .add (.tmp 23) (.tmp 28))),none⟩,⟨(some 30),(.p (.nilchk (.tmp 20))),none⟩,⟨(some 31),(.p (.faddr 0 (.tmp 30))),none⟩,⟨none,(.e (.store 1 (.tmp 31) (.tmp 29))),none⟩] [] []))
def M42 (F : Nat → Nat) : Fun := ⟨32,2,(K42 F).erase,[]⟩
theorem ok42 {F : Nat → Nat} : (K42 F).ok = true := rfl
abbrev K43 (F : Nat → Nat) : KC := .seq (.region [⟨(some 4),(.a (.new [.bool false,.int .i64 (.ofNat 0),.int .i64 (.ofNat 0),.nilslice])),none⟩,⟨(some 5),(.p (.mov (.val (.bool false)))),none⟩] [] [0,1,4])
 (.seq (.region [⟨(some 6),(.a (.new [.int .i64 (.ofNat 0),.int .u64 (.ofNat 0)])),none⟩] [] [0,1,4,6])
 (.seq (.seq (.region [⟨(some 10),(.p (.mov (.tmp 0))),none⟩,⟨(some 11),(.p (.lenb (.tmp 10))),none⟩,⟨(some 12),(.p (.mov (.val (.int .i64 (.ofNat 0))))),none⟩] [] [1,4,6,10,11,12])
 (.block 0 (.loop (.seq (.region [⟨(some 13),(.p (.bin .lss (.tmp 12) (.tmp 11))),none⟩] [] [1,4,6,10,11,12,13])
 (.seq (.cond (.tmp 13) (.skip)
 (.exit 0))
 (.seq (.block 1 (.seq (.region [⟨(some 14),(.p (.iaddr 1 (.tmp 10) (.tmp 12))),none⟩,⟨(some 15),(.load1 (.tmp 14)),none⟩,⟨(some 8),(.p (.mov (.tmp 15))),none⟩] [] [1,4,6,8,10,11,12])
 (.seq (.region [⟨(some 16),(.p (.mov (.tmp 8))),none⟩,⟨(some 17),(.p (.mov (.tmp 1))),none⟩,⟨(some 18),(.e (.call (F 3) [(.tmp 16),(.tmp 17)])),none⟩,⟨(some 9),(.a (.new [.bool false,.int .i64 (.ofNat 0),.int .i64 (.ofNat 0),.nilslice])),none⟩,⟨none,(.e (.store 4 (.tmp 9) (.tmp 18))),none⟩] [] [1,4,6,9,10,11,12])
 (.seq (.region [⟨(some 19),(.p (.faddr 0 (.tmp 9))),none⟩,⟨(some 20),(.load1 (.tmp 19)),none⟩,⟨(some 21),(.p (.not (.tmp 20))),none⟩] [] [1,4,6,9,10,11,12,21])
 (.cond (.tmp 21) (.region [⟨(some 22),(.p (.faddr 2 (.tmp 9))),none⟩,⟨(some 23),(.load1 (.tmp 22)),none⟩,⟨(some 24),(.e (.call (F 42) [(.tmp 6),(.tmp 23)])),none⟩] [] [1,4,6,10,11,12])
 (.skip))))))
 (.region [⟨(some 25),(.p (.bin .add (.tmp 12) (.val (.int .i64 (.ofNat 1))))),none⟩,⟨(some 12),(.p (.mov (.tmp 25))),none⟩] [] [1,4,6,10,11,12])))))))
 (.seq (.seq (.region [⟨(some 26),(.p (.faddr 0 (.tmp 6))),none⟩,⟨(some 27),(.load1 (.tmp 26)),none⟩,⟨(some 28),(.p (.faddr 1 (.tmp 6))),none⟩,⟨(some 29),(.load1 (.tmp 28)),none⟩,⟨(some 30),(.p (.conv (.int .i64) (.tmp 29))),none⟩,⟨(some 31),(.p (.bin .shr (.tmp 30) (.val (.int .u64 (.ofNat 63))))),none⟩,⟨(some 32),(.p (.bin .neq (.tmp 27) (.tmp 31))),none⟩] [] [4,6,32])
 (.cond (.tmp 32) (.seq (.region [⟨(some 33),(.p (.build [.bool false,.int .i64 (.ofNat 0),.int .i64 (.ofNat 0),.nilslice] [])),none⟩,⟨none,(.e (.store 4 (.tmp 4) (.tmp 33))),none⟩,⟨(some 5),(.p (.mov (.val (.bool false)))),none⟩] [] [4,5])
 (.ret))
 (.skip)))
 (.seq (.region [⟨(some 34),(.p (.faddr 1 (.tmp 6))),none⟩,⟨(some 35),(.load1 (.tmp 34)),none⟩,⟨(some 36),(.p (.conv (.int .i64) (.tmp 35))),none⟩,⟨(some 37),(.p (.build [.bool false,.int .i64 (.ofNat 0),.int .i64 (.ofNat 0),.nilslice] [(1,1,(.val (.int .i64 (.ofNat 1)))),(2,1,(.tmp 36))])),none⟩,⟨none,(.e (.store 4 (.tmp 4) (.tmp 37))),none⟩,⟨(some 5),(.p (.mov (.val (.bool true)))),none⟩] [] [4,5])
 (.ret)))))
def M43 (F : Nat → Nat) : Fun := ⟨38,2,(K43 F).erase,[.celln 4 4,.tmp 5]⟩
theorem ok43 {F : Nat → Nat} : (K43 F).ok = true := rfl
abbrev K44 (F : Nat → Nat) : KC := .seq (.region [⟨(some 6),(.a (.new [.bool false,.int .i64 (.ofNat 0),.int .i64 (.ofNat 0),.nilslice])),none⟩] [] [0,1,2,6])
 (.seq (.region [⟨(some 11),(.p (.build [.bool false,.int .i64 (.ofNat 0),.int .i64 (.ofNat 0),.nilslice] [(0,1,(.val (.bool true)))])),none⟩,⟨(some 7),(.a (.new [.bool false,.int .i64 (.ofNat 0),.int .i64 (.ofNat 0),.nilslice])),none⟩,⟨none,(.e (.store 4 (.tmp 7) (.tmp 11))),none⟩] [] [0,1,2,6,7])
 (.seq (.seq (.region [⟨(some 12),(.p (.mov (.tmp 0))),none⟩,⟨(some 13),(.p (.lenb (.tmp 12))),none⟩,⟨(some 14),(.p (.mov (.val (.int .i64 (.ofNat 0))))),none⟩] [] [1,2,6,7,12,13,14])
 (.block 0 (.loop (.seq (.region [⟨(some 15),(.p (.bin .lss (.tmp 14) (.tmp 13))),none⟩] [] [1,2,6,7,12,13,14,15])
 (.seq (.cond (.tmp 15) (.skip)
 (.exit 0))
 (.seq (.block 1 (.seq (.region [⟨(some 16),(.p (.iaddr 1 (.tmp 12) (.tmp 14))),none⟩,⟨(some 17),(.load1 (.tmp 16)),none⟩,⟨(some 9),(.p (.mov (.tmp 17))),none⟩] [] [1,2,6,7,9,12,13,14])
 (.seq (.region [⟨(some 18),(.p (.mov (.tmp 9))),none⟩,⟨(some 19),(.p (.mov (.tmp 1))),none⟩,⟨(some 20),(.e (.call (F 3) [(.tmp 18),(.tmp 19)])),none⟩,⟨(some 10),(.a (.new [.bool false,.int .i64 (.ofNat 0),.int .i64 (.ofNat 0),.nilslice])),none⟩,⟨none,(.e (.store 4 (.tmp 10) (.tmp 20))),none⟩] [] [1,2,6,7,10,12,13,14])
 (.block 2 (.seq (.region [⟨(some 22),(.p (.faddr 0 (.tmp 10))),none⟩,⟨(some 23),(.load1 (.tmp 22)),none⟩,⟨(some 21),(.p (.mov (.tmp 23))),none⟩] [] [1,2,6,7,10,12,13,14,21])
 (.cond (.tmp 21) (.region [⟨(some 24),(.p (.faddr 1 (.tmp 10))),none⟩,⟨(some 25),(.load1 (.tmp 24)),none⟩,⟨(some 26),(.p (.faddr 1 (.tmp 7))),none⟩,⟨none,(.e (.store 1 (.tmp 26) (.tmp 25))),none⟩] [] [1,2,6,7,12,13,14])
 (.seq (.region [⟨(some 28),(.p (.faddr 0 (.tmp 7))),none⟩,⟨(some 29),(.load1 (.tmp 28)),none⟩,⟨(some 30),(.p (.mov (.tmp 29))),none⟩,⟨(some 31),(.loadn 4 (.tmp 10)),(some (30,false))⟩,⟨(some 32),(.loadn 4 (.tmp 7)),(some (30,false))⟩,⟨(some 33),(.e (.call (F 1) [(.tmp 31),(.tmp 32)])),(some (30,false))⟩,⟨(some 34),(.p (.mov (.tmp 2))),(some (30,false))⟩,⟨(some 35),(.p (.bin .mul (.tmp 33) (.tmp 34))),(some (30,false))⟩,⟨(some 36),(.p (.bin .gtr (.tmp 35) (.val (.int .i64 (.ofNat 0))))),(some (30,false))⟩,⟨(some 37),(.p (.pick (.tmp 30) (.val (.bool true)) (.tmp 36))),none⟩,⟨(some 27),(.p (.mov (.tmp 37))),none⟩] [] [1,2,6,7,10,12,13,14,27])
 (.cond (.tmp 27) (.region [⟨(some 38),(.loadn 4 (.tmp 10)),none⟩,⟨none,(.e (.store 4 (.tmp 7) (.tmp 38))),none⟩] [] [1,2,6,7,12,13,14])
 (.skip)))))))))
 (.region [⟨(some 39),(.p (.bin .add (.tmp 14) (.val (.int .i64 (.ofNat 1))))),none⟩,⟨(some 14),(.p (.mov (.tmp 39))),none⟩] [] [1,2,6,7,12,13,14])))))))
 (.seq (.region [⟨(some 40),(.loadn 4 (.tmp 7)),none⟩,⟨none,(.e (.store 4 (.tmp 6) (.tmp 40))),none⟩] [] [6])
 (.ret))))
def M44 (F : Nat → Nat) : Fun := ⟨41,3,(K44 F).erase,[.celln 4 6]⟩
theorem ok44 {F : Nat → Nat} : (K44 F).ok = true := rfl
end Go.Lib
end

section
set_option maxRecDepth 10000
namespace Go.Dv
open Go.Vm
variable {p : Prog} {ext : Ext} {Q : ResD → Prop} {H0 H : HpD} {sz : Nat} {s : D} {el : List (List D)}
theorem les_append : ∀ {a a' b b' : List D}, D.les a a' → D.les b b' → D.les (a ++ b) (a' ++ b')
  | [], [], _, _, _, h => h
  | d :: a, d' :: a', _, _, k, h => by
    simp only [D.les, List.cons_append] at k ⊢
    exact ⟨k.1, les_append k.2 h⟩
  | [], _ :: _, _, _, k, _ => by simp [D.les] at k
  | _ :: _, [], _, _, k, _ => by simp [D.les] at k
theorem les_flat : ∀ {l l' : List (List D)}, D.less l l' → D.les l.flatten l'.flatten
  | [], [], _ => by simp
  | e :: l, e' :: l', k => by
    simp only [D.less] at k
    simp only [List.flatten_cons]
    exact les_append k.1 (les_flat k.2)
  | [], _ :: _, k => by simp [D.less] at k
  | _ :: _, [], k => by simp [D.less] at k
theorem SR.tell {ψ : Nat → Option Nat} {S : Nat → Prop} {h : Hp} {b : Nat} {cs cs' : List D} {ro : Bool} (s : SR ψ S H h) (hb : H.blk b = .cells cs ro) (hl : D.les cs cs') : SR ψ S (H.put b (.cells cs' ro)) h :=
  ⟨s.inj, s.dom, s.frz, fun b' hg => by
    rw [put_blk] at hg ⊢
    by_cases e : b' = b
    · subst e
      obtain ⟨c, h1, h2, h3⟩ := s.live b' (by rw [hb]; rfl)
      rw [hb] at h3
      obtain ⟨l', e1, k⟩ := h3
      refine ⟨c, h1, h2, ?_⟩
      rw [if_pos rfl]
      exact ⟨l', e1, VDl.le _ _ hl k⟩
    · rw [if_neg e] at hg ⊢
      exact s.live b' hg⟩
theorem Weak.tell {a : List D} {fr : FrD} {b : Nat} {cs cs' : List D} {ro : Bool} (hb : H.blk b = .cells cs ro) (hl : D.les cs cs') : Weak a fr H a fr (H.put b (.cells cs' ro)) :=
  fun ψ S _ _ _ s k kv => ⟨ψ, S, .refl, s.tell hb hl, k, kv⟩
structure GrX (H0 H : HpD) (sz : Nat) (s : D) (el : List (List D)) : Prop where
  gr : Gr H0 H sz s el
  at_ : (s = .lit .nilslice ∧ el = []) ∨ ∃ b ex, s = .slice b 0 sz el.length el.length ex ∧ H0.next ≤ b ∧ b < H.next ∧ H.blk b = .cells el.flatten false
theorem Gr.exact (g : Gr H0 H sz s el) : ∃ H', (∀ a fr, Weak a fr H a fr H') ∧ GrX H0 H' sz s el ∧ (∀ x, ¬ s.hasB x → H'.blk x = H.blk x) ∧ H'.next = H.next := by
  rcases g.at_ with ⟨rfl, rfl⟩ | ⟨b, ex, el0, rfl, h1, h2, h3, h4⟩
  · exact ⟨H, fun _ _ => .refl, ⟨g, .inl ⟨rfl, rfl⟩⟩, fun _ _ => rfl, rfl⟩
  · refine ⟨H.put b (.cells el.flatten false), fun _ _ => Weak.tell h3 (les_flat h4), ⟨⟨g.sub.put h1, g.len, .inr ⟨b, ex, el, rfl, h1, h2, by simp, D.less_refl _⟩⟩, .inr ⟨b, ex, rfl, h1, h2, by simp⟩⟩, fun x hx => ?_, rfl⟩
    rw [put_blk, if_neg]
    rintro rfl
    exact hx rfl
theorem sem_exact_call {f : Nat} {args : List D} {dst : Option Nat} {l : List MO} {fz lv : List Nat} {K : List KD} {fr : FrD} (g : Gr H0 H sz s el)
    (hs : ∀ H', GrX H0 H' sz s el → (∀ x, ¬ s.hasB x → H'.blk x = H.blk x) → H'.next = H.next → Sem p ext Q (.call f args dst l fz lv K .mk fr H')) : Sem p ext Q (.call f args dst l fz lv K .mk fr H) := by
  obtain ⟨H', w, g', k, n⟩ := g.exact
  exact sem_weak_call (w _ _) (hs H' g' k n)
theorem Weak.box {a : List D} {fr : FrD} {b t : Nat} {cs : List D} {ro : Bool} (hb : H.blk b = .cells cs ro) (ht : lk fr t = .ptr b 0) : Weak a fr H a ((t, .rptr cs 0) :: fr) (H.put b .gone) := by
  intro ψ S h fv vs sr kf kv
  obtain ⟨c, hc, h2, h3⟩ := sr.live b (by rw [hb]; rfl)
  rw [hb] at h3
  obtain ⟨l', e1, k⟩ := h3
  obtain ⟨x0, s0⟩ := sr.freeze hc
  refine ⟨ψ, _, x0, s0, ?_, VDl.mono x0 _ kv⟩
  intro u
  rw [lk_cons]
  split
  · rename_i e; subst e
    have := kf t
    rw [ht] at this
    simp only [VD] at this ⊢
    obtain ⟨c', e, e2⟩ := this
    rw [hc] at e; cases e
    exact ⟨c, 0, l', ro, .inr rfl, by rw [e2], e1, by have := VDp.of (us := []) (VDl.mono x0 _ k); simpa using this⟩
  · exact kf.mono x0 u
theorem sem_box {b : Nat} {cs : List D} {ro : Bool} (t : Nat) {c : KC} {K : List KD} {fr : FrD} (hb : H.blk b = .cells cs ro) (ht : lk fr t = .ptr b 0)
    (hs : Sem p ext Q (.code c K .mk ((t, .rptr cs 0) :: fr) (H.put b .gone))) : Sem p ext Q (.code c K .mk fr H) := sem_weak (Weak.box hb ht) hs
end Go.Dv
end

section
namespace Go.Lib
open Go.Vm Go.Dv
set_option maxRecDepth 100000
abbrev K26 (F : Nat → Nat) : KC := .region [⟨(some 4),(.p (.mov (.tmp 0))),none⟩,⟨(some 5),(.p (.mov (.tmp 0))),none⟩,⟨(some 6),(.p (.lenb (.tmp 5))),none⟩,⟨(some 7),(.p (.mov (.tmp 1))),none⟩,⟨(some 8),(.e (.call (F 27) [(.tmp 4),(.tmp 6),(.tmp 7)])),none⟩] [] []
def M26 (F : Nat → Nat) : Fun := ⟨9,2,(K26 F).erase,[]⟩
theorem ok26 {F : Nat → Nat} : (K26 F).ok = true := rfl
abbrev K27 (F : Nat → Nat) : KC := .seq (.region [⟨(some 6),(.p (.mov (.val (.int .i64 (.ofNat 20))))),none⟩] [] [0,1,2,6])
 (.seq (.region [⟨(some 10),(.p (.mov (.tmp 6))),none⟩,⟨(some 7),(.p (.mov (.val (.int .i64 (.ofNat 0))))),none⟩,⟨(some 8),(.p (.mov (.tmp 10))),none⟩] [] [0,1,2,6,7,8])
 (.seq (.block 0 (.loop (.seq (.seq (.region [⟨(some 11),(.p (.mov (.tmp 8))),none⟩,⟨(some 12),(.p (.mov (.tmp 1))),none⟩,⟨(some 13),(.p (.bin .leq (.tmp 11) (.tmp 12))),none⟩] [] [0,1,2,6,7,8,13])
 (.cond (.tmp 13) (.skip)
 (.exit 0)))
 (.block 1 (.seq (.region [⟨(some 14),(.p (.mov (.tmp 0))),none⟩,⟨(some 15),(.p (.mov (.tmp 7))),none⟩,⟨(some 16),(.p (.mov (.tmp 8))),none⟩,⟨(some 17),(.p (.mov (.tmp 2))),none⟩,⟨(some 18),(.e (.call (F 28) [(.tmp 14),(.tmp 15),(.tmp 16),(.tmp 17)])),none⟩] [] [0,1,2,6,8])
 (.seq (.region [⟨(some 19),(.p (.mov (.tmp 8))),none⟩,⟨(some 7),(.p (.mov (.tmp 19))),none⟩] [] [0,1,2,6,7,8])
 (.region [⟨(some 20),(.p (.mov (.tmp 8))),none⟩,⟨(some 21),(.p (.mov (.tmp 6))),none⟩,⟨(some 22),(.p (.bin .add (.tmp 20) (.tmp 21))),none⟩,⟨(some 8),(.p (.mov (.tmp 22))),none⟩] [] [0,1,2,6,7,8])))))))
 (.seq (.region [⟨(some 23),(.p (.mov (.tmp 0))),none⟩,⟨(some 24),(.p (.mov (.tmp 7))),none⟩,⟨(some 25),(.p (.mov (.tmp 1))),none⟩,⟨(some 26),(.p (.mov (.tmp 2))),none⟩,⟨(some 27),(.e (.call (F 28) [(.tmp 23),(.tmp 24),(.tmp 25),(.tmp 26)])),none⟩] [] [0,1,2,6])
 (.block 2 (.loop (.seq (.seq (.region [⟨(some 28),(.p (.mov (.tmp 6))),none⟩,⟨(some 29),(.p (.mov (.tmp 1))),none⟩,⟨(some 30),(.p (.bin .lss (.tmp 28) (.tmp 29))),none⟩] [] [0,1,2,6,30])
 (.cond (.tmp 30) (.skip)
 (.exit 2)))
 (.block 3 (.seq (.region [⟨(some 31),(.p (.mov (.tmp 6))),none⟩,⟨(some 32),(.p (.bin .mul (.val (.int .i64 (.ofNat 2))) (.tmp 31))),none⟩,⟨(some 7),(.p (.mov (.val (.int .i64 (.ofNat 0))))),none⟩,⟨(some 8),(.p (.mov (.tmp 32))),none⟩] [] [0,1,2,6,7,8])
 (.seq (.block 4 (.loop (.seq (.seq (.region [⟨(some 33),(.p (.mov (.tmp 8))),none⟩,⟨(some 34),(.p (.mov (.tmp 1))),none⟩,⟨(some 35),(.p (.bin .leq (.tmp 33) (.tmp 34))),none⟩] [] [0,1,2,6,7,8,35])
 (.cond (.tmp 35) (.skip)
 (.exit 4)))
 (.block 5 (.seq (.region [⟨(some 36),(.p (.mov (.tmp 0))),none⟩,⟨(some 37),(.p (.mov (.tmp 7))),none⟩,⟨(some 38),(.p (.mov (.tmp 7))),none⟩,⟨(some 39),(.p (.mov (.tmp 6))),none⟩,⟨(some 40),(.p (.bin .add (.tmp 38) (.tmp 39))),none⟩,⟨(some 41),(.p (.mov (.tmp 8))),none⟩,⟨(some 42),(.p (.mov (.tmp 2))),none⟩,⟨(some 43),(.e (.call (F 29) [(.tmp 36),(.tmp 37),(.tmp 40),(.tmp 41),(.tmp 42)])),none⟩] [] [0,1,2,6,8])
 (.seq (.region [⟨(some 44),(.p (.mov (.tmp 8))),none⟩,⟨(some 7),(.p (.mov (.tmp 44))),none⟩] [] [0,1,2,6,7,8])
 (.region [⟨(some 45),(.p (.mov (.tmp 8))),none⟩,⟨(some 46),(.p (.mov (.tmp 6))),none⟩,⟨(some 47),(.p (.bin .mul (.val (.int .i64 (.ofNat 2))) (.tmp 46))),none⟩,⟨(some 48),(.p (.bin .add (.tmp 45) (.tmp 47))),none⟩,⟨(some 8),(.p (.mov (.tmp 48))),none⟩] [] [0,1,2,6,7,8])))))))
 (.seq (.seq (.region [⟨(some 49),(.p (.mov (.tmp 7))),none⟩,⟨(some 50),(.p (.mov (.tmp 6))),none⟩,⟨(some 51),(.p (.bin .add (.tmp 49) (.tmp 50))),none⟩,⟨(some 9),(.p (.mov (.tmp 51))),none⟩] [] [0,1,2,6,7,9])
 (.seq (.region [⟨(some 52),(.p (.mov (.tmp 9))),none⟩,⟨(some 53),(.p (.mov (.tmp 1))),none⟩,⟨(some 54),(.p (.bin .lss (.tmp 52) (.tmp 53))),none⟩] [] [0,1,2,6,7,9,54])
 (.cond (.tmp 54) (.region [⟨(some 55),(.p (.mov (.tmp 0))),none⟩,⟨(some 56),(.p (.mov (.tmp 7))),none⟩,⟨(some 57),(.p (.mov (.tmp 9))),none⟩,⟨(some 58),(.p (.mov (.tmp 1))),none⟩,⟨(some 59),(.p (.mov (.tmp 2))),none⟩,⟨(some 60),(.e (.call (F 29) [(.tmp 55),(.tmp 56),(.tmp 57),(.tmp 58),(.tmp 59)])),none⟩] [] [0,1,2,6])
 (.skip))))
 (.region [⟨(some 61),(.p (.mov (.tmp 6))),none⟩,⟨(some 62),(.p (.bin .mul (.tmp 61) (.val (.int .i64 (.ofNat 2))))),none⟩,⟨(some 6),(.p (.mov (.tmp 62))),none⟩] [] [0,1,2,6])))))))))))
def M27 (F : Nat → Nat) : Fun := ⟨63,3,(K27 F).erase,[]⟩
theorem ok27 {F : Nat → Nat} : (K27 F).ok = true := rfl
abbrev K28 (_F : Nat → Nat) : KC := .seq (.region [⟨(some 10),(.p (.mov (.tmp 1))),none⟩,⟨(some 11),(.p (.bin .add (.tmp 10) (.val (.int .i64 (.ofNat 1))))),none⟩,⟨(some 8),(.p (.mov (.tmp 11))),none⟩] [] [0,1,2,3,8])
 (.block 0 (.loop (.seq (.seq (.region [⟨(some 12),(.p (.mov (.tmp 8))),none⟩,⟨(some 13),(.p (.mov (.tmp 2))),none⟩,⟨(some 14),(.p (.bin .lss (.tmp 12) (.tmp 13))),none⟩] [] [0,1,2,3,8,14])
 (.cond (.tmp 14) (.skip)
 (.exit 0)))
 (.seq (.block 1 (.seq (.region [⟨(some 17),(.p (.mov (.tmp 8))),none⟩,⟨(some 9),(.p (.mov (.tmp 17))),none⟩] [] [0,1,2,3,8,9])
 (.block 2 (.loop (.seq (.seq (.dregion [⟨⟨(some 18),(.p (.mov (.tmp 9))),none⟩,0,14⟩,⟨⟨(some 19),(.p (.mov (.tmp 1))),none⟩,0,14⟩,⟨⟨(some 20),(.p (.bin .gtr (.tmp 18) (.tmp 19))),none⟩,0,14⟩,⟨⟨(some 21),(.p (.mov (.tmp 20))),none⟩,0,14⟩,⟨⟨(some 22),(.p (.mov (.tmp 3))),(some (21,true))⟩,0,14⟩,⟨⟨(some 23),(.p (.mov (.tmp 0))),(some (21,true))⟩,0,14⟩,⟨⟨(some 24),(.p (.mov (.tmp 9))),(some (21,true))⟩,0,14⟩,⟨⟨(some 25),(.p (.iaddr 1 (.tmp 23) (.tmp 24))),(some (21,true))⟩,0,14⟩,⟨⟨(some 26),(.load1 (.tmp 25)),(some (21,true))⟩,0,14⟩,⟨⟨(some 27),(.p (.mov (.tmp 0))),(some (21,true))⟩,0,14⟩,⟨⟨(some 28),(.p (.mov (.tmp 9))),(some (21,true))⟩,0,14⟩,⟨⟨(some 29),(.p (.bin .sub (.tmp 28) (.val (.int .i64 (.ofNat 1))))),(some (21,true))⟩,0,14⟩,⟨⟨(some 30),(.p (.iaddr 1 (.tmp 27) (.tmp 29))),(some (21,true))⟩,0,14⟩,⟨⟨(some 31),(.load1 (.tmp 30)),(some (21,true))⟩,0,14⟩,⟨⟨(some 32),(.e (.callv (.tmp 22) [(.tmp 26),(.tmp 31)])),(some (21,true))⟩,0,17⟩,⟨⟨(some 33),(.p (.bin .lss (.tmp 32) (.val (.int .i64 (.ofNat 0))))),(some (21,true))⟩,15,17⟩,⟨⟨(some 34),(.p (.pick (.tmp 21) (.tmp 33) (.val (.bool false)))),none⟩,15,17⟩] [0,1,2,3,8,9,34])
 (.cond (.tmp 34) (.skip)
 (.exit 2)))
 (.seq (.block 3 (.dregion [⟨⟨(some 37),(.p (.mov (.tmp 0))),none⟩,0,12⟩,⟨⟨(some 38),(.p (.mov (.tmp 9))),none⟩,0,12⟩,⟨⟨(some 42),(.p (.mov (.tmp 0))),none⟩,0,12⟩,⟨⟨(some 43),(.p (.mov (.tmp 9))),none⟩,0,12⟩,⟨⟨(some 44),(.p (.bin .sub (.tmp 43) (.val (.int .i64 (.ofNat 1))))),none⟩,0,12⟩,⟨⟨(some 45),(.p (.iaddr 1 (.tmp 42) (.tmp 44))),none⟩,0,12⟩,⟨⟨(some 46),(.load1 (.tmp 45)),none⟩,0,12⟩,⟨⟨(some 47),(.p (.mov (.tmp 0))),none⟩,0,12⟩,⟨⟨(some 48),(.p (.mov (.tmp 9))),none⟩,0,12⟩,⟨⟨(some 49),(.p (.iaddr 1 (.tmp 47) (.tmp 48))),none⟩,0,12⟩,⟨⟨(some 50),(.load1 (.tmp 49)),none⟩,0,12⟩,⟨⟨(some 51),(.p (.iaddr 1 (.tmp 37) (.tmp 38))),none⟩,0,12⟩,⟨⟨none,(.e (.store 1 (.tmp 51) (.tmp 46))),none⟩,0,17⟩,⟨⟨(some 39),(.p (.mov (.tmp 0))),none⟩,0,17⟩,⟨⟨(some 40),(.p (.mov (.tmp 9))),none⟩,0,17⟩,⟨⟨(some 41),(.p (.bin .sub (.tmp 40) (.val (.int .i64 (.ofNat 1))))),none⟩,0,17⟩,⟨⟨(some 52),(.p (.iaddr 1 (.tmp 39) (.tmp 41))),none⟩,13,17⟩,⟨⟨none,(.e (.store 1 (.tmp 52) (.tmp 50))),none⟩,13,18⟩] [0,1,2,3,8,9]))
 (.region [⟨(some 35),(.p (.mov (.tmp 9))),none⟩,⟨(some 36),(.p (.bin .sub (.tmp 35) (.val (.int .i64 (.ofNat 1))))),none⟩,⟨(some 9),(.p (.mov (.tmp 36))),none⟩] [] [0,1,2,3,8,9])))))))
 (.region [⟨(some 15),(.p (.mov (.tmp 8))),none⟩,⟨(some 16),(.p (.bin .add (.tmp 15) (.val (.int .i64 (.ofNat 1))))),none⟩,⟨(some 8),(.p (.mov (.tmp 16))),none⟩] [] [0,1,2,3,8])))))
def M28 (F : Nat → Nat) : Fun := ⟨53,4,(K28 F).erase,[]⟩
theorem ok28 {F : Nat → Nat} : (K28 F).ok = true := rfl
abbrev K29 (F : Nat → Nat) : KC := .seq (.seq (.region [⟨(some 25),(.p (.mov (.tmp 2))),none⟩,⟨(some 26),(.p (.mov (.tmp 1))),none⟩,⟨(some 27),(.p (.bin .sub (.tmp 25) (.tmp 26))),none⟩,⟨(some 28),(.p (.bin .eql (.tmp 27) (.val (.int .i64 (.ofNat 1))))),none⟩] [] [0,1,2,3,4,28])
 (.cond (.tmp 28) (.seq (.region [⟨(some 29),(.p (.mov (.tmp 2))),none⟩,⟨(some 10),(.p (.mov (.tmp 29))),none⟩] [] [0,1,3,4,10])
 (.seq (.region [⟨(some 30),(.p (.mov (.tmp 3))),none⟩,⟨(some 11),(.p (.mov (.tmp 30))),none⟩] [] [0,1,4,10,11])
 (.seq (.block 0 (.loop (.seq (.seq (.region [⟨(some 31),(.p (.mov (.tmp 10))),none⟩,⟨(some 32),(.p (.mov (.tmp 11))),none⟩,⟨(some 33),(.p (.bin .lss (.tmp 31) (.tmp 32))),none⟩] [] [0,1,4,10,11,33])
 (.cond (.tmp 33) (.skip)
 (.exit 0)))
 (.block 1 (.seq (.region [⟨(some 34),(.p (.mov (.tmp 10))),none⟩,⟨(some 35),(.p (.mov (.tmp 11))),none⟩,⟨(some 36),(.p (.bin .add (.tmp 34) (.tmp 35))),none⟩,⟨(some 37),(.p (.conv (.int .u64) (.tmp 36))),none⟩,⟨(some 38),(.p (.bin .shr (.tmp 37) (.val (.int .u64 (.ofNat 1))))),none⟩,⟨(some 39),(.p (.conv (.int .i64) (.tmp 38))),none⟩,⟨(some 12),(.p (.mov (.tmp 39))),none⟩] [] [0,1,4,10,11,12])
 (.seq (.dregion [⟨⟨(some 40),(.p (.mov (.tmp 4))),none⟩,0,9⟩,⟨⟨(some 41),(.p (.mov (.tmp 0))),none⟩,0,9⟩,⟨⟨(some 42),(.p (.mov (.tmp 12))),none⟩,0,9⟩,⟨⟨(some 43),(.p (.iaddr 1 (.tmp 41) (.tmp 42))),none⟩,0,9⟩,⟨⟨(some 44),(.load1 (.tmp 43)),none⟩,0,9⟩,⟨⟨(some 45),(.p (.mov (.tmp 0))),none⟩,0,9⟩,⟨⟨(some 46),(.p (.mov (.tmp 1))),none⟩,0,9⟩,⟨⟨(some 47),(.p (.iaddr 1 (.tmp 45) (.tmp 46))),none⟩,0,9⟩,⟨⟨(some 48),(.load1 (.tmp 47)),none⟩,0,9⟩,⟨⟨(some 49),(.e (.callv (.tmp 40) [(.tmp 44),(.tmp 48)])),none⟩,0,11⟩,⟨⟨(some 50),(.p (.bin .lss (.tmp 49) (.val (.int .i64 (.ofNat 0))))),none⟩,10,11⟩] [0,1,4,10,11,12,50])
 (.cond (.tmp 50) (.region [⟨(some 51),(.p (.mov (.tmp 12))),none⟩,⟨(some 52),(.p (.bin .add (.tmp 51) (.val (.int .i64 (.ofNat 1))))),none⟩,⟨(some 10),(.p (.mov (.tmp 52))),none⟩] [] [0,1,4,10,11])
 (.region [⟨(some 53),(.p (.mov (.tmp 12))),none⟩,⟨(some 11),(.p (.mov (.tmp 53))),none⟩] [] [0,1,4,10,11]))))))))
 (.seq (.seq (.region [⟨(some 54),(.p (.mov (.tmp 1))),none⟩,⟨(some 13),(.p (.mov (.tmp 54))),none⟩] [] [0,10,13])
 (.block 2 (.loop (.seq (.seq (.region [⟨(some 55),(.p (.mov (.tmp 13))),none⟩,⟨(some 56),(.p (.mov (.tmp 10))),none⟩,⟨(some 57),(.p (.bin .sub (.tmp 56) (.val (.int .i64 (.ofNat 1))))),none⟩,⟨(some 58),(.p (.bin .lss (.tmp 55) (.tmp 57))),none⟩] [] [0,10,13,58])
 (.cond (.tmp 58) (.skip)
 (.exit 2)))
 (.seq (.block 3 (.dregion [⟨⟨(some 61),(.p (.mov (.tmp 0))),none⟩,0,12⟩,⟨⟨(some 62),(.p (.mov (.tmp 13))),none⟩,0,12⟩,⟨⟨(some 66),(.p (.mov (.tmp 0))),none⟩,0,12⟩,⟨⟨(some 67),(.p (.mov (.tmp 13))),none⟩,0,12⟩,⟨⟨(some 68),(.p (.bin .add (.tmp 67) (.val (.int .i64 (.ofNat 1))))),none⟩,0,12⟩,⟨⟨(some 69),(.p (.iaddr 1 (.tmp 66) (.tmp 68))),none⟩,0,12⟩,⟨⟨(some 70),(.load1 (.tmp 69)),none⟩,0,12⟩,⟨⟨(some 71),(.p (.mov (.tmp 0))),none⟩,0,12⟩,⟨⟨(some 72),(.p (.mov (.tmp 13))),none⟩,0,12⟩,⟨⟨(some 73),(.p (.iaddr 1 (.tmp 71) (.tmp 72))),none⟩,0,12⟩,⟨⟨(some 74),(.load1 (.tmp 73)),none⟩,0,12⟩,⟨⟨(some 75),(.p (.iaddr 1 (.tmp 61) (.tmp 62))),none⟩,0,12⟩,⟨⟨none,(.e (.store 1 (.tmp 75) (.tmp 70))),none⟩,0,17⟩,⟨⟨(some 63),(.p (.mov (.tmp 0))),none⟩,0,17⟩,⟨⟨(some 64),(.p (.mov (.tmp 13))),none⟩,0,17⟩,⟨⟨(some 65),(.p (.bin .add (.tmp 64) (.val (.int .i64 (.ofNat 1))))),none⟩,0,17⟩,⟨⟨(some 76),(.p (.iaddr 1 (.tmp 63) (.tmp 65))),none⟩,13,17⟩,⟨⟨none,(.e (.store 1 (.tmp 76) (.tmp 74))),none⟩,13,18⟩] [0,10,13]))
 (.region [⟨(some 59),(.p (.mov (.tmp 13))),none⟩,⟨(some 60),(.p (.bin .add (.tmp 59) (.val (.int .i64 (.ofNat 1))))),none⟩,⟨(some 13),(.p (.mov (.tmp 60))),none⟩] [] [0,10,13]))))))
 (.ret)))))
 (.skip)))
 (.seq (.seq (.region [⟨(some 77),(.p (.mov (.tmp 3))),none⟩,⟨(some 78),(.p (.mov (.tmp 2))),none⟩,⟨(some 79),(.p (.bin .sub (.tmp 77) (.tmp 78))),none⟩,⟨(some 80),(.p (.bin .eql (.tmp 79) (.val (.int .i64 (.ofNat 1))))),none⟩] [] [0,1,2,3,4,80])
 (.cond (.tmp 80) (.seq (.region [⟨(some 81),(.p (.mov (.tmp 1))),none⟩,⟨(some 14),(.p (.mov (.tmp 81))),none⟩] [] [0,2,4,14])
 (.seq (.region [⟨(some 82),(.p (.mov (.tmp 2))),none⟩,⟨(some 15),(.p (.mov (.tmp 82))),none⟩] [] [0,2,4,14,15])
 (.seq (.block 4 (.loop (.seq (.seq (.region [⟨(some 83),(.p (.mov (.tmp 14))),none⟩,⟨(some 84),(.p (.mov (.tmp 15))),none⟩,⟨(some 85),(.p (.bin .lss (.tmp 83) (.tmp 84))),none⟩] [] [0,2,4,14,15,85])
 (.cond (.tmp 85) (.skip)
 (.exit 4)))
 (.block 5 (.seq (.region [⟨(some 86),(.p (.mov (.tmp 14))),none⟩,⟨(some 87),(.p (.mov (.tmp 15))),none⟩,⟨(some 88),(.p (.bin .add (.tmp 86) (.tmp 87))),none⟩,⟨(some 89),(.p (.conv (.int .u64) (.tmp 88))),none⟩,⟨(some 90),(.p (.bin .shr (.tmp 89) (.val (.int .u64 (.ofNat 1))))),none⟩,⟨(some 91),(.p (.conv (.int .i64) (.tmp 90))),none⟩,⟨(some 16),(.p (.mov (.tmp 91))),none⟩] [] [0,2,4,14,15,16])
 (.seq (.dregion [⟨⟨(some 92),(.p (.mov (.tmp 4))),none⟩,0,9⟩,⟨⟨(some 93),(.p (.mov (.tmp 0))),none⟩,0,9⟩,⟨⟨(some 94),(.p (.mov (.tmp 2))),none⟩,0,9⟩,⟨⟨(some 95),(.p (.iaddr 1 (.tmp 93) (.tmp 94))),none⟩,0,9⟩,⟨⟨(some 96),(.load1 (.tmp 95)),none⟩,0,9⟩,⟨⟨(some 97),(.p (.mov (.tmp 0))),none⟩,0,9⟩,⟨⟨(some 98),(.p (.mov (.tmp 16))),none⟩,0,9⟩,⟨⟨(some 99),(.p (.iaddr 1 (.tmp 97) (.tmp 98))),none⟩,0,9⟩,⟨⟨(some 100),(.load1 (.tmp 99)),none⟩,0,9⟩,⟨⟨(some 101),(.e (.callv (.tmp 92) [(.tmp 96),(.tmp 100)])),none⟩,0,12⟩,⟨⟨(some 102),(.p (.bin .lss (.tmp 101) (.val (.int .i64 (.ofNat 0))))),none⟩,10,12⟩,⟨⟨(some 103),(.p (.not (.tmp 102))),none⟩,10,12⟩] [0,2,4,14,15,16,103])
 (.cond (.tmp 103) (.region [⟨(some 104),(.p (.mov (.tmp 16))),none⟩,⟨(some 105),(.p (.bin .add (.tmp 104) (.val (.int .i64 (.ofNat 1))))),none⟩,⟨(some 14),(.p (.mov (.tmp 105))),none⟩] [] [0,2,4,14,15])
 (.region [⟨(some 106),(.p (.mov (.tmp 16))),none⟩,⟨(some 15),(.p (.mov (.tmp 106))),none⟩] [] [0,2,4,14,15]))))))))
 (.seq (.seq (.region [⟨(some 107),(.p (.mov (.tmp 2))),none⟩,⟨(some 17),(.p (.mov (.tmp 107))),none⟩] [] [0,14,17])
 (.block 6 (.loop (.seq (.seq (.region [⟨(some 108),(.p (.mov (.tmp 17))),none⟩,⟨(some 109),(.p (.mov (.tmp 14))),none⟩,⟨(some 110),(.p (.bin .gtr (.tmp 108) (.tmp 109))),none⟩] [] [0,14,17,110])
 (.cond (.tmp 110) (.skip)
 (.exit 6)))
 (.seq (.block 7 (.dregion [⟨⟨(some 113),(.p (.mov (.tmp 0))),none⟩,0,12⟩,⟨⟨(some 114),(.p (.mov (.tmp 17))),none⟩,0,12⟩,⟨⟨(some 118),(.p (.mov (.tmp 0))),none⟩,0,12⟩,⟨⟨(some 119),(.p (.mov (.tmp 17))),none⟩,0,12⟩,⟨⟨(some 120),(.p (.bin .sub (.tmp 119) (.val (.int .i64 (.ofNat 1))))),none⟩,0,12⟩,⟨⟨(some 121),(.p (.iaddr 1 (.tmp 118) (.tmp 120))),none⟩,0,12⟩,⟨⟨(some 122),(.load1 (.tmp 121)),none⟩,0,12⟩,⟨⟨(some 123),(.p (.mov (.tmp 0))),none⟩,0,12⟩,⟨⟨(some 124),(.p (.mov (.tmp 17))),none⟩,0,12⟩,⟨⟨(some 125),(.p (.iaddr 1 (.tmp 123) (.tmp 124))),none⟩,0,12⟩,⟨⟨(some 126),(.load1 (.tmp 125)),none⟩,0,12⟩,⟨⟨(some 127),(.p (.iaddr 1 (.tmp 113) (.tmp 114))),none⟩,0,12⟩,⟨⟨none,(.e (.store 1 (.tmp 127) (.tmp 122))),none⟩,0,17⟩,⟨⟨(some 115),(.p (.mov (.tmp 0))),none⟩,0,17⟩,⟨⟨(some 116),(.p (.mov (.tmp 17))),none⟩,0,17⟩,⟨⟨(some 117),(.p (.bin .sub (.tmp 116) (.val (.int .i64 (.ofNat 1))))),none⟩,0,17⟩,⟨⟨(some 128),(.p (.iaddr 1 (.tmp 115) (.tmp 117))),none⟩,13,17⟩,⟨⟨none,(.e (.store 1 (.tmp 128) (.tmp 126))),none⟩,13,18⟩] [0,14,17]))
 (.region [⟨(some 111),(.p (.mov (.tmp 17))),none⟩,⟨(some 112),(.p (.bin .sub (.tmp 111) (.val (.int .i64 (.ofNat 1))))),none⟩,⟨(some 17),(.p (.mov (.tmp 112))),none⟩] [] [0,14,17]))))))
 (.ret)))))
 (.skip)))
 (.seq (.region [⟨(some 129),(.p (.mov (.tmp 1))),none⟩,⟨(some 130),(.p (.mov (.tmp 3))),none⟩,⟨(some 131),(.p (.bin .add (.tmp 129) (.tmp 130))),none⟩,⟨(some 132),(.p (.conv (.int .u64) (.tmp 131))),none⟩,⟨(some 133),(.p (.bin .shr (.tmp 132) (.val (.int .u64 (.ofNat 1))))),none⟩,⟨(some 134),(.p (.conv (.int .i64) (.tmp 133))),none⟩,⟨(some 18),(.p (.mov (.tmp 134))),none⟩] [] [0,1,2,3,4,18])
 (.seq (.region [⟨(some 135),(.p (.mov (.tmp 18))),none⟩,⟨(some 136),(.p (.mov (.tmp 2))),none⟩,⟨(some 137),(.p (.bin .add (.tmp 135) (.tmp 136))),none⟩,⟨(some 19),(.p (.mov (.tmp 137))),none⟩] [] [0,1,2,3,4,18,19])
 (.seq (.region [⟨(some 20),(.p (.mov (.val (.int .i64 (.ofNat 0))))),none⟩,⟨(some 21),(.p (.mov (.val (.int .i64 (.ofNat 0))))),none⟩] [] [0,1,2,3,4,18,19])
 (.seq (.seq (.region [⟨(some 138),(.p (.mov (.tmp 2))),none⟩,⟨(some 139),(.p (.mov (.tmp 18))),none⟩,⟨(some 140),(.p (.bin .gtr (.tmp 138) (.tmp 139))),none⟩] [] [0,1,2,3,4,18,19,140])
 (.cond (.tmp 140) (.seq (.region [⟨(some 141),(.p (.mov (.tmp 19))),none⟩,⟨(some 142),(.p (.mov (.tmp 3))),none⟩,⟨(some 143),(.p (.bin .sub (.tmp 141) (.tmp 142))),none⟩,⟨(some 20),(.p (.mov (.tmp 143))),none⟩] [] [0,1,2,3,4,18,19,20])
 (.region [⟨(some 144),(.p (.mov (.tmp 18))),none⟩,⟨(some 21),(.p (.mov (.tmp 144))),none⟩] [] [0,1,2,3,4,18,19,20,21]))
 (.seq (.region [⟨(some 145),(.p (.mov (.tmp 1))),none⟩,⟨(some 20),(.p (.mov (.tmp 145))),none⟩] [] [0,1,2,3,4,18,19,20])
 (.region [⟨(some 146),(.p (.mov (.tmp 2))),none⟩,⟨(some 21),(.p (.mov (.tmp 146))),none⟩] [] [0,1,2,3,4,18,19,20,21]))))
 (.seq (.region [⟨(some 147),(.p (.mov (.tmp 19))),none⟩,⟨(some 148),(.p (.bin .sub (.tmp 147) (.val (.int .i64 (.ofNat 1))))),none⟩,⟨(some 22),(.p (.mov (.tmp 148))),none⟩] [] [0,1,2,3,4,18,19,20,21,22])
 (.seq (.block 8 (.loop (.seq (.seq (.region [⟨(some 149),(.p (.mov (.tmp 20))),none⟩,⟨(some 150),(.p (.mov (.tmp 21))),none⟩,⟨(some 151),(.p (.bin .lss (.tmp 149) (.tmp 150))),none⟩] [] [0,1,2,3,4,18,19,20,21,22,151])
 (.cond (.tmp 151) (.skip)
 (.exit 8)))
 (.block 9 (.seq (.region [⟨(some 152),(.p (.mov (.tmp 20))),none⟩,⟨(some 153),(.p (.mov (.tmp 21))),none⟩,⟨(some 154),(.p (.bin .add (.tmp 152) (.tmp 153))),none⟩,⟨(some 155),(.p (.conv (.int .u64) (.tmp 154))),none⟩,⟨(some 156),(.p (.bin .shr (.tmp 155) (.val (.int .u64 (.ofNat 1))))),none⟩,⟨(some 157),(.p (.conv (.int .i64) (.tmp 156))),none⟩,⟨(some 23),(.p (.mov (.tmp 157))),none⟩] [] [0,1,2,3,4,18,19,20,21,22,23])
 (.seq (.dregion [⟨⟨(some 158),(.p (.mov (.tmp 4))),none⟩,0,11⟩,⟨⟨(some 159),(.p (.mov (.tmp 0))),none⟩,0,11⟩,⟨⟨(some 160),(.p (.mov (.tmp 22))),none⟩,0,11⟩,⟨⟨(some 161),(.p (.mov (.tmp 23))),none⟩,0,11⟩,⟨⟨(some 162),(.p (.bin .sub (.tmp 160) (.tmp 161))),none⟩,0,11⟩,⟨⟨(some 163),(.p (.iaddr 1 (.tmp 159) (.tmp 162))),none⟩,0,11⟩,⟨⟨(some 164),(.load1 (.tmp 163)),none⟩,0,11⟩,⟨⟨(some 165),(.p (.mov (.tmp 0))),none⟩,0,11⟩,⟨⟨(some 166),(.p (.mov (.tmp 23))),none⟩,0,11⟩,⟨⟨(some 167),(.p (.iaddr 1 (.tmp 165) (.tmp 166))),none⟩,0,11⟩,⟨⟨(some 168),(.load1 (.tmp 167)),none⟩,0,11⟩,⟨⟨(some 169),(.e (.callv (.tmp 158) [(.tmp 164),(.tmp 168)])),none⟩,0,14⟩,⟨⟨(some 170),(.p (.bin .lss (.tmp 169) (.val (.int .i64 (.ofNat 0))))),none⟩,12,14⟩,⟨⟨(some 171),(.p (.not (.tmp 170))),none⟩,12,14⟩] [0,1,2,3,4,18,19,20,21,22,23,171])
 (.cond (.tmp 171) (.region [⟨(some 172),(.p (.mov (.tmp 23))),none⟩,⟨(some 173),(.p (.bin .add (.tmp 172) (.val (.int .i64 (.ofNat 1))))),none⟩,⟨(some 20),(.p (.mov (.tmp 173))),none⟩] [] [0,1,2,3,4,18,19,20,21,22])
 (.region [⟨(some 174),(.p (.mov (.tmp 23))),none⟩,⟨(some 21),(.p (.mov (.tmp 174))),none⟩] [] [0,1,2,3,4,18,19,20,21,22]))))))))
 (.seq (.region [⟨(some 175),(.p (.mov (.tmp 19))),none⟩,⟨(some 176),(.p (.mov (.tmp 20))),none⟩,⟨(some 177),(.p (.bin .sub (.tmp 175) (.tmp 176))),none⟩,⟨(some 24),(.p (.mov (.tmp 177))),none⟩] [] [0,1,2,3,4,18,20,24])
 (.seq (.seq (.region [⟨(some 178),(.p (.mov (.tmp 20))),none⟩,⟨(some 179),(.p (.mov (.tmp 2))),none⟩,⟨(some 180),(.p (.bin .lss (.tmp 178) (.tmp 179))),none⟩,⟨(some 181),(.p (.mov (.tmp 180))),none⟩,⟨(some 182),(.p (.mov (.tmp 2))),(some (181,true))⟩,⟨(some 183),(.p (.mov (.tmp 24))),(some (181,true))⟩,⟨(some 184),(.p (.bin .lss (.tmp 182) (.tmp 183))),(some (181,true))⟩,⟨(some 185),(.p (.pick (.tmp 181) (.tmp 184) (.val (.bool false)))),none⟩] [] [0,1,2,3,4,18,20,24,185])
 (.cond (.tmp 185) (.region [⟨(some 186),(.p (.mov (.tmp 0))),none⟩,⟨(some 187),(.p (.mov (.tmp 20))),none⟩,⟨(some 188),(.p (.mov (.tmp 2))),none⟩,⟨(some 189),(.p (.mov (.tmp 24))),none⟩,⟨(some 190),(.p (.mov (.tmp 4))),none⟩,⟨(some 191),(.e (.call (F 30) [(.tmp 186),(.tmp 187),(.tmp 188),(.tmp 189),(.tmp 190)])),none⟩] [] [0,1,3,4,18,20,24])
 (.skip)))
 (.seq (.seq (.region [⟨(some 192),(.p (.mov (.tmp 1))),none⟩,⟨(some 193),(.p (.mov (.tmp 20))),none⟩,⟨(some 194),(.p (.bin .lss (.tmp 192) (.tmp 193))),none⟩,⟨(some 195),(.p (.mov (.tmp 194))),none⟩,⟨(some 196),(.p (.mov (.tmp 20))),(some (195,true))⟩,⟨(some 197),(.p (.mov (.tmp 18))),(some (195,true))⟩,⟨(some 198),(.p (.bin .lss (.tmp 196) (.tmp 197))),(some (195,true))⟩,⟨(some 199),(.p (.pick (.tmp 195) (.tmp 198) (.val (.bool false)))),none⟩] [] [0,1,3,4,18,20,24,199])
 (.cond (.tmp 199) (.region [⟨(some 200),(.p (.mov (.tmp 0))),none⟩,⟨(some 201),(.p (.mov (.tmp 1))),none⟩,⟨(some 202),(.p (.mov (.tmp 20))),none⟩,⟨(some 203),(.p (.mov (.tmp 18))),none⟩,⟨(some 204),(.p (.mov (.tmp 4))),none⟩,⟨(some 205),(.e (.call (F 29) [(.tmp 200),(.tmp 201),(.tmp 202),(.tmp 203),(.tmp 204)])),none⟩] [] [0,3,4,18,24])
 (.skip)))
 (.seq (.region [⟨(some 206),(.p (.mov (.tmp 18))),none⟩,⟨(some 207),(.p (.mov (.tmp 24))),none⟩,⟨(some 208),(.p (.bin .lss (.tmp 206) (.tmp 207))),none⟩,⟨(some 209),(.p (.mov (.tmp 208))),none⟩,⟨(some 210),(.p (.mov (.tmp 24))),(some (209,true))⟩,⟨(some 211),(.p (.mov (.tmp 3))),(some (209,true))⟩,⟨(some 212),(.p (.bin .lss (.tmp 210) (.tmp 211))),(some (209,true))⟩,⟨(some 213),(.p (.pick (.tmp 209) (.tmp 212) (.val (.bool false)))),none⟩] [] [0,3,4,18,24,213])
 (.cond (.tmp 213) (.region [⟨(some 214),(.p (.mov (.tmp 0))),none⟩,⟨(some 215),(.p (.mov (.tmp 18))),none⟩,⟨(some 216),(.p (.mov (.tmp 24))),none⟩,⟨(some 217),(.p (.mov (.tmp 3))),none⟩,⟨(some 218),(.p (.mov (.tmp 4))),none⟩,⟨(some 219),(.e (.call (F 29) [(.tmp 214),(.tmp 215),(.tmp 216),(.tmp 217),(.tmp 218)])),none⟩] [] [])
 (.skip)))))))))))))
def M29 (F : Nat → Nat) : Fun := ⟨220,5,(K29 F).erase,[]⟩
theorem ok29 {F : Nat → Nat} : (K29 F).ok = true := rfl
abbrev K30 (F : Nat → Nat) : KC := .seq (.region [⟨(some 12),(.p (.mov (.tmp 2))),none⟩,⟨(some 13),(.p (.mov (.tmp 1))),none⟩,⟨(some 14),(.p (.bin .sub (.tmp 12) (.tmp 13))),none⟩,⟨(some 10),(.p (.mov (.tmp 14))),none⟩] [] [0,2,3,4,10])
 (.seq (.region [⟨(some 15),(.p (.mov (.tmp 3))),none⟩,⟨(some 16),(.p (.mov (.tmp 2))),none⟩,⟨(some 17),(.p (.bin .sub (.tmp 15) (.tmp 16))),none⟩,⟨(some 11),(.p (.mov (.tmp 17))),none⟩] [] [0,2,4,10,11])
 (.seq (.block 0 (.loop (.seq (.seq (.region [⟨(some 18),(.p (.mov (.tmp 10))),none⟩,⟨(some 19),(.p (.mov (.tmp 11))),none⟩,⟨(some 20),(.p (.bin .neq (.tmp 18) (.tmp 19))),none⟩] [] [0,2,4,10,11,20])
 (.cond (.tmp 20) (.skip)
 (.exit 0)))
 (.block 1 (.seq (.region [⟨(some 21),(.p (.mov (.tmp 10))),none⟩,⟨(some 22),(.p (.mov (.tmp 11))),none⟩,⟨(some 23),(.p (.bin .gtr (.tmp 21) (.tmp 22))),none⟩] [] [0,2,4,10,11,23])
 (.cond (.tmp 23) (.seq (.region [⟨(some 24),(.p (.mov (.tmp 0))),none⟩,⟨(some 25),(.p (.mov (.tmp 2))),none⟩,⟨(some 26),(.p (.mov (.tmp 10))),none⟩,⟨(some 27),(.p (.bin .sub (.tmp 25) (.tmp 26))),none⟩,⟨(some 28),(.p (.mov (.tmp 2))),none⟩,⟨(some 29),(.p (.mov (.tmp 11))),none⟩,⟨(some 30),(.p (.mov (.tmp 4))),none⟩,⟨(some 31),(.e (.call (F 31) [(.tmp 24),(.tmp 27),(.tmp 28),(.tmp 29),(.tmp 30)])),none⟩] [] [0,2,4,10,11])
 (.region [⟨(some 32),(.p (.mov (.tmp 10))),none⟩,⟨(some 33),(.p (.mov (.tmp 11))),none⟩,⟨(some 34),(.p (.bin .sub (.tmp 32) (.tmp 33))),none⟩,⟨(some 10),(.p (.mov (.tmp 34))),none⟩] [] [0,2,4,10,11]))
 (.seq (.region [⟨(some 35),(.p (.mov (.tmp 0))),none⟩,⟨(some 36),(.p (.mov (.tmp 2))),none⟩,⟨(some 37),(.p (.mov (.tmp 10))),none⟩,⟨(some 38),(.p (.bin .sub (.tmp 36) (.tmp 37))),none⟩,⟨(some 39),(.p (.mov (.tmp 2))),none⟩,⟨(some 40),(.p (.mov (.tmp 11))),none⟩,⟨(some 41),(.p (.bin .add (.tmp 39) (.tmp 40))),none⟩,⟨(some 42),(.p (.mov (.tmp 10))),none⟩,⟨(some 43),(.p (.bin .sub (.tmp 41) (.tmp 42))),none⟩,⟨(some 44),(.p (.mov (.tmp 10))),none⟩,⟨(some 45),(.p (.mov (.tmp 4))),none⟩,⟨(some 46),(.e (.call (F 31) [(.tmp 35),(.tmp 38),(.tmp 43),(.tmp 44),(.tmp 45)])),none⟩] [] [0,2,4,10,11])
 (.region [⟨(some 47),(.p (.mov (.tmp 11))),none⟩,⟨(some 48),(.p (.mov (.tmp 10))),none⟩,⟨(some 49),(.p (.bin .sub (.tmp 47) (.tmp 48))),none⟩,⟨(some 11),(.p (.mov (.tmp 49))),none⟩] [] [0,2,4,10,11]))))))))
 (.region [⟨(some 50),(.p (.mov (.tmp 0))),none⟩,⟨(some 51),(.p (.mov (.tmp 2))),none⟩,⟨(some 52),(.p (.mov (.tmp 10))),none⟩,⟨(some 53),(.p (.bin .sub (.tmp 51) (.tmp 52))),none⟩,⟨(some 54),(.p (.mov (.tmp 2))),none⟩,⟨(some 55),(.p (.mov (.tmp 10))),none⟩,⟨(some 56),(.p (.mov (.tmp 4))),none⟩,⟨(some 57),(.e (.call (F 31) [(.tmp 50),(.tmp 53),(.tmp 54),(.tmp 55),(.tmp 56)])),none⟩] [] [])))
def M30 (F : Nat → Nat) : Fun := ⟨58,5,(K30 F).erase,[]⟩
theorem ok30 {F : Nat → Nat} : (K30 F).ok = true := rfl
abbrev K31 (_F : Nat → Nat) : KC := .seq (.region [⟨(some 10),(.p (.mov (.val (.int .i64 (.ofNat 0))))),none⟩] [] [0,1,2,3,10])
 (.block 0 (.loop (.seq (.seq (.region [⟨(some 11),(.p (.mov (.tmp 10))),none⟩,⟨(some 12),(.p (.mov (.tmp 3))),none⟩,⟨(some 13),(.p (.bin .lss (.tmp 11) (.tmp 12))),none⟩] [] [0,1,2,3,10,13])
 (.cond (.tmp 13) (.skip)
 (.exit 0)))
 (.seq (.block 1 (.dregion [⟨⟨(some 16),(.p (.mov (.tmp 0))),none⟩,0,17⟩,⟨⟨(some 17),(.p (.mov (.tmp 1))),none⟩,0,17⟩,⟨⟨(some 18),(.p (.mov (.tmp 10))),none⟩,0,17⟩,⟨⟨(some 19),(.p (.bin .add (.tmp 17) (.tmp 18))),none⟩,0,17⟩,⟨⟨(some 24),(.p (.mov (.tmp 0))),none⟩,0,17⟩,⟨⟨(some 25),(.p (.mov (.tmp 2))),none⟩,0,17⟩,⟨⟨(some 26),(.p (.mov (.tmp 10))),none⟩,0,17⟩,⟨⟨(some 27),(.p (.bin .add (.tmp 25) (.tmp 26))),none⟩,0,17⟩,⟨⟨(some 28),(.p (.iaddr 1 (.tmp 24) (.tmp 27))),none⟩,0,17⟩,⟨⟨(some 29),(.load1 (.tmp 28)),none⟩,0,17⟩,⟨⟨(some 30),(.p (.mov (.tmp 0))),none⟩,0,17⟩,⟨⟨(some 31),(.p (.mov (.tmp 1))),none⟩,0,17⟩,⟨⟨(some 32),(.p (.mov (.tmp 10))),none⟩,0,17⟩,⟨⟨(some 33),(.p (.bin .add (.tmp 31) (.tmp 32))),none⟩,0,17⟩,⟨⟨(some 34),(.p (.iaddr 1 (.tmp 30) (.tmp 33))),none⟩,0,17⟩,⟨⟨(some 35),(.load1 (.tmp 34)),none⟩,0,17⟩,⟨⟨(some 36),(.p (.iaddr 1 (.tmp 16) (.tmp 19))),none⟩,0,17⟩,⟨⟨none,(.e (.store 1 (.tmp 36) (.tmp 29))),none⟩,0,23⟩,⟨⟨(some 20),(.p (.mov (.tmp 0))),none⟩,0,23⟩,⟨⟨(some 21),(.p (.mov (.tmp 2))),none⟩,0,23⟩,⟨⟨(some 22),(.p (.mov (.tmp 10))),none⟩,0,23⟩,⟨⟨(some 23),(.p (.bin .add (.tmp 21) (.tmp 22))),none⟩,0,23⟩,⟨⟨(some 37),(.p (.iaddr 1 (.tmp 20) (.tmp 23))),none⟩,18,23⟩,⟨⟨none,(.e (.store 1 (.tmp 37) (.tmp 35))),none⟩,18,24⟩] [0,1,2,3,10]))
 (.region [⟨(some 14),(.p (.mov (.tmp 10))),none⟩,⟨(some 15),(.p (.bin .add (.tmp 14) (.val (.int .i64 (.ofNat 1))))),none⟩,⟨(some 10),(.p (.mov (.tmp 15))),none⟩] [] [0,1,2,3,10])))))
def M31 (F : Nat → Nat) : Fun := ⟨38,5,(K31 F).erase,[]⟩
theorem ok31 {F : Nat → Nat} : (K31 F).ok = true := rfl
end Go.Lib
end

section
namespace Go.Srt
variable {α : Type}
def swp (L : List α) (i j : Nat) : List α := match L[i]?, L[j]? with
  | some x, some y => (L.set i y).set j x
  | _, _ => L
theorem swp_length {L : List α} {i j : Nat} : (swp L i j).length = L.length := by
  unfold swp; split <;> simp
theorem swp_perm {L : List α} {i j : Nat} : (swp L i j).Perm L := by
  unfold swp
  split
  · rename_i x y hx hy
    obtain ⟨h1, rfl⟩ := List.getElem?_eq_some_iff.1 hx
    obtain ⟨h2, rfl⟩ := List.getElem?_eq_some_iff.1 hy
    exact List.set_set_perm h1 h2
  · exact .refl _
theorem swp_get {L : List α} {i j : Nat} (hi : i < L.length) (hj : j < L.length) (k : Nat) : (swp L i j)[k]? = if k = j then L[i]? else if k = i then L[j]? else L[k]? := by
  unfold swp
  rw [List.getElem?_eq_getElem hi, List.getElem?_eq_getElem hj]
  simp only
  rw [List.getElem?_set, List.getElem?_set]
  by_cases h1 : k = j
  · subst h1; simp [hj]
  · rw [if_neg (Ne.symm h1), if_neg h1]
    by_cases h2 : k = i
    · subst h2; simp [hi]
    · rw [if_neg (Ne.symm h2), if_neg h2]
def swpR (L : List α) (a b : Nat) : Nat → List α
  | 0 => L
  | m + 1 => swp (swpR L a b m) (a + m) (b + m)
theorem swpR_length {L : List α} {a b : Nat} : ∀ {m : Nat}, (swpR L a b m).length = L.length
  | 0 => rfl
  | m + 1 => by rw [swpR, swp_length, swpR_length]
theorem swpR_perm {L : List α} {a b : Nat} : ∀ {m : Nat}, (swpR L a b m).Perm L
  | 0 => .refl _
  | m + 1 => by rw [swpR]; exact swp_perm.trans swpR_perm
theorem swpR_get {L : List α} {a b : Nat} : ∀ {m : Nat}, a + m ≤ b → b + m ≤ L.length → ∀ k, (swpR L a b m)[k]? = if a ≤ k ∧ k < a + m then L[b + (k - a)]? else if b ≤ k ∧ k < b + m then L[a + (k - b)]? else L[k]?
  | 0, _, _, k => by rw [swpR, if_neg (by omega), if_neg (by omega)]
  | m + 1, h1, h2, k => by
    have ih := fun k => swpR_get (L := L) (a := a) (b := b) (m := m) (by omega) (by omega) k
    rw [swpR, swp_get (by rw [swpR_length]; omega) (by rw [swpR_length]; omega)]
    simp only [ih]
    repeat' split
    all_goals first | rfl | omega | (congr 1; omega)
theorem swp_eq {L : List α} {i j : Nat} {x y : α} (hx : L[i]? = some x) (hy : L[j]? = some y) : (L.set i y).set j x = swp L i j := by
  unfold swp; rw [hx, hy]
def RotR (L L' : List α) (a m b : Nat) : Prop := ∀ k, L'[k]? = if a ≤ k ∧ k < a + (b - m) then L[m + (k - a)]? else if a + (b - m) ≤ k ∧ k < b then L[k - (b - m)]? else L[k]?
theorem rot_more {L L2 : List α} {i j m : Nat} (hi : i ≤ m) (hj : j < i) (hl : m + j ≤ L.length) (h : RotR (swpR L (m - i) m j) L2 (m - i + j) m (m + j)) : RotR L L2 (m - i) m (m + j) := by
  intro k
  have hk := h k
  simp only [swpR_get (L := L) (a := m - i) (b := m) (m := j) (by omega) (by omega)] at hk
  rw [hk]
  repeat' split
  all_goals first | rfl | omega | (congr 1; omega)
theorem rot_less {L L2 : List α} {i j m : Nat} (hi : i ≤ m) (hj : i < j) (hl : m + j ≤ L.length) (h : RotR (swpR L (m - i) (m + j - i) i) L2 (m - i) m (m + (j - i))) : RotR L L2 (m - i) m (m + j) := by
  intro k
  have hk := h k
  simp only [swpR_get (L := L) (a := m - i) (b := m + j - i) (m := i) (by omega) (by omega)] at hk
  rw [hk]
  repeat' split
  all_goals first | rfl | omega | (congr 1; omega)
theorem rot_same {L : List α} {i m : Nat} (hi : i ≤ m) (hl : m + i ≤ L.length) : RotR L (swpR L (m - i) m i) (m - i) m (m + i) := by
  intro k
  rw [swpR_get (by omega) (by omega)]
  repeat' split
  all_goals first | rfl | omega | (congr 1; omega)
def Srt (cmp : α → α → Int) (L : List α) (a b : Nat) : Prop := ∀ p q x y, a ≤ p → p < q → q < b → L[p]? = some x → L[q]? = some y → ¬ cmp y x < 0
structure Mix (L L' : List α) (a b : Nat) : Prop where
  perm : L'.Perm L
  out : ∀ k, k < a ∨ b ≤ k → L'[k]? = L[k]?
theorem Mix.refl {L : List α} {a b : Nat} : Mix L L a b := ⟨.refl _, fun _ _ => rfl⟩
theorem Mix.trans {L L1 L2 : List α} {a b : Nat} (x : Mix L L1 a b) (y : Mix L1 L2 a b) : Mix L L2 a b := ⟨y.perm.trans x.perm, fun k hk => (y.out k hk).trans (x.out k hk)⟩
theorem Mix.swp {L : List α} {a b i j : Nat} (hi : a ≤ i ∧ i < b) (hj : a ≤ j ∧ j < b) (hb : b ≤ L.length) : Mix L (swp L i j) a b :=
  ⟨swp_perm, fun k hk => by rw [swp_get (by omega) (by omega), if_neg (by omega), if_neg (by omega)]⟩
theorem Srt.mono {cmp : α → α → Int} {L : List α} {a b a' b' : Nat} (h : Srt cmp L a b) (ha : a ≤ a') (hb : b' ≤ b) : Srt cmp L a' b' :=
  fun p q x y h1 h2 h3 => h p q x y (by omega) h2 (by omega)
def Parted (cmp : α → α → Int) (L : List α) (a m b : Nat) : Prop := ∀ p q x y, a ≤ p → p < m → m ≤ q → q < b → L[p]? = some x → L[q]? = some y → ¬ cmp y x < 0
theorem Srt.join {cmp : α → α → Int} {L : List α} {a m b : Nat} (h1 : Srt cmp L a m) (h2 : Srt cmp L m b) (h3 : Parted cmp L a m b) : Srt cmp L a b := fun p q x y k1 k2 k3 k4 k5 => by
  rcases Nat.lt_or_ge q m with c | c
  · exact h1 p q x y k1 k2 c k4 k5
  · rcases Nat.lt_or_ge p m with d | d
    · exact h3 p q x y k1 d c k3 k4 k5
    · exact h2 p q x y d k2 k3 k4 k5
theorem parts (M : List α) {a b : Nat} (h : a ≤ b) : M = M.take a ++ ((M.take b).drop a ++ M.drop b) := by
  rw [← List.append_assoc]
  have : M.take a ++ (M.take b).drop a = M.take b := by
    have := List.take_append_drop a (M.take b)
    rwa [List.take_take, Nat.min_eq_left h] at this
  rw [this, List.take_append_drop]
theorem Mix.src {L L' : List α} {a b k : Nat} {v : α} (hm : Mix L L' a b) (h1 : a ≤ k) (h2 : k < b) (hv : L'[k]? = some v) : ∃ k', a ≤ k' ∧ k' < b ∧ L[k']? = some v := by
  have ht : L'.take a = L.take a := List.ext_getElem? fun i => by
    rw [List.getElem?_take, List.getElem?_take]
    split
    · exact hm.out i (by omega)
    · rfl
  have hd : L'.drop b = L.drop b := List.ext_getElem? fun i => by
    rw [List.getElem?_drop, List.getElem?_drop]
    exact hm.out _ (by omega)
  have hp := hm.perm
  rw [parts L' (show a ≤ b by omega), parts L (show a ≤ b by omega), ht, hd] at hp
  have hp := (List.perm_append_right_iff _).1 ((List.perm_append_left_iff _).1 hp)
  have hmem : v ∈ (L'.take b).drop a := by
    refine List.mem_of_getElem? (i := k - a) ?_
    rw [List.getElem?_drop, List.getElem?_take, if_pos (by omega), show a + (k - a) = k by omega]
    exact hv
  obtain ⟨i, hi⟩ := List.getElem?_of_mem (hp.mem_iff.1 hmem)
  rw [List.getElem?_drop, List.getElem?_take] at hi
  split at hi
  · exact ⟨a + i, by omega, by omega, hi⟩
  · cases hi
theorem Parted.mix {cmp : α → α → Int} {L L' : List α} {a m b a' b' : Nat} (h : Parted cmp L a m b) (hm : Mix L L' a' b') (hw : (a ≤ a' ∧ b' ≤ m) ∨ (m ≤ a' ∧ b' ≤ b)) : Parted cmp L' a m b := by
  have src : ∀ k v, L'[k]? = some v → a' ≤ k → k < b' → ∃ k', a' ≤ k' ∧ k' < b' ∧ L[k']? = some v := fun k v hv h1 h2 => hm.src h1 h2 hv
  intro p q x y k1 k2 k3 k4 k5 k6
  have hp : ∃ p', a ≤ p' ∧ p' < m ∧ L[p']? = some x := by
    by_cases c : a' ≤ p ∧ p < b'
    · obtain ⟨p', e1, e2, e3⟩ := src p x k5 c.1 c.2
      rcases hw with hw | hw
      · exact ⟨p', by omega, by omega, e3⟩
      · omega
    · exact ⟨p, k1, k2, by rw [← hm.out p (by omega)]; exact k5⟩
  have hq : ∃ q', m ≤ q' ∧ q' < b ∧ L[q']? = some y := by
    by_cases c : a' ≤ q ∧ q < b'
    · obtain ⟨q', e1, e2, e3⟩ := src q y k6 c.1 c.2
      rcases hw with hw | hw
      · omega
      · exact ⟨q', by omega, by omega, e3⟩
    · exact ⟨q, k3, k4, by rw [← hm.out q (by omega)]; exact k6⟩
  obtain ⟨p', a1, a2, a3⟩ := hp
  obtain ⟨q', b1, b2, b3⟩ := hq
  exact h p' q' x y a1 a2 b1 b2 a3 b3
end Go.Srt
end

section
set_option maxRecDepth 10000
namespace Go.Lib
open Go.Vm Go.Dv Go.Srt
variable {p : Prog} {ext : Ext} {F : Nat → Nat} {α : Type}
structure HSrt (p : Prog) (ext : Ext) (F : Nat → Nat) : Prop where
  h26 : Has p ext F 26 M26
  h27 : Has p ext F 27 M27
  h28 : Has p ext F 28 M28
  h29 : Has p ext F 29 M29
  h30 : Has p ext F 30 M30
  h31 : Has p ext F 31 M31
structure Enc (α : Type) where
  d : α → D
  flat : ∀ x, flatD (d x) = true
  cells : ∀ x, cellsD (d x) = some [d x]
attribute [simp] Enc.flat Enc.cells
def hp (E : Enc α) (H : HpD) (bs : Nat) (L : List α) : HpD := H.put bs (.cells (L.map E.d) false)
theorem hp_blk {E : Enc α} {H : HpD} {bs : Nat} {L : List α} : (hp E H bs L).blk bs = .cells (L.map E.d) false := by simp [hp]
theorem put_put {H : HpD} {bs : Nat} {x y : BD} : (H.put bs x).put bs y = H.put bs y := by
  simp only [HpD.put]
  congr 1
  funext c
  by_cases h : c = bs <;> simp [h]
theorem hp_put {E : Enc α} {H : HpD} {bs : Nat} {L : List α} {l : List D} : (hp E H bs L).put bs (.cells l false) = H.put bs (.cells l false) := by
  simp only [hp, HpD.put]
  congr 1
  funext c
  by_cases h : c = bs <;> simp [h]
theorem hp_self {E : Enc α} {H : HpD} {bs : Nat} {L : List α} (h : H.blk bs = .cells (L.map E.d) false) : hp E H bs L = H := by
  simp only [hp, HpD.put]
  rw [← h]
  cases H
  simp only [HpD.mk.injEq, true_and]
  funext c
  by_cases h : c = bs <;> simp [h]
theorem hp_next {E : Enc α} {H : HpD} {bs : Nat} {L : List α} : (hp E H bs L).next = H.next := rfl
attribute [simp] hp_blk hp_next hp_put put_put
abbrev sl (bs n c : Nat) (ex : Bool) : D := .slice bs 0 1 n c ex
abbrev iD (n : Nat) : D := .lit (.int .i64 (n : Int))
def SwpI (E : Enc α) (H : HpD) (bs c : Nat) (ex : Bool) (X : List α) (a b m k : Nat) (fr : FrD) (H' : HpD) : Prop :=
  ∃ i : Nat, k = m - i ∧ i ≤ m ∧ fr = [(0, sl bs X.length c ex), (1, iD a), (2, iD b), (3, iD m), (10, iD i)] ∧ H' = hp E H bs (swpR X a b i)
theorem set_map {E : Enc α} {X : List α} {i : Nat} {x : α} : (X.map E.d).set i (E.d x) = (X.set i x).map E.d := by rw [List.map_set]
theorem hp_swp {E : Enc α} {H : HpD} {bs : Nat} {X : List α} {i j : Nat} {x y : α} (hx : X[i]? = some x) (hy : X[j]? = some y) : H.put bs (.cells (((X.map E.d).set i (E.d y)).set j (E.d x)) false) = hp E H bs (swp X i j) := by
  rw [set_map, set_map, swp_eq hx hy, hp]
theorem get_of {X : List α} {n : Nat} (h : n < X.length) : ∃ x, X[n]? = some x := ⟨X[n], by simp [h]⟩
theorem spliceD_one : ∀ {X : List D} {i : Nat} {x : D}, i < X.length → spliceD X i [x] = X.set i x
  | d :: l, 0, x, _ => rfl
  | d :: l, i + 1, x, h => by
    simp only [spliceD, List.set_cons_succ]
    rw [spliceD_one (by simpa using h)]
  | [], _, _, h => by simp at h
theorem swapRange (L : HSrt p ext F) {E : Enc α} {H : HpD} {bs c : Nat} {ex : Bool} {X : List α} {cv : D} (hbs : bs < H.next) (hX : X.length < 1000000) {a b m : Nat} (h1 : a + m ≤ b) (h2 : b + m ≤ X.length) : WcD p ext (F 31) [sl bs X.length c ex, iD a, iD b, iD m, cv] (hp E H bs X) (fun d H' => d = .tup [] ∧ H' = hp E H bs (swpR X a b m)) := by
  refine wc_of L.h31 (M := M31) rfl ok31 rfl (sem_run 9000 _ ?_)
  simp
  refine sem_loop (SwpI E H bs c ex X a b m) ?_ (k := m) ⟨0, by simp, by simp, by simp, rfl⟩
  rintro k fr H' ⟨i, rfl, hi, rfl, rfl⟩
  refine sem_run 9000 _ ?_
  simp
  by_cases c1 : i < m
  · have w1 : wr .i64 ((a : Int) + i) = ((a + i : Nat) : Int) := by rw [wr_of] <;> omega
    have w2 : wr .i64 ((b : Int) + i) = ((b + i : Nat) : Int) := by rw [wr_of] <;> omega
    have w3 : wr .i64 ((i : Int) + 1) = ((i + 1 : Nat) : Int) := by rw [wr_of] <;> omega
    have ha : a + i < X.length := by omega
    have hb : b + i < X.length := by omega
    obtain ⟨x, gx⟩ := get_of (X := swpR X a b i) (n := a + i) (by rw [swpR_length]; omega)
    obtain ⟨y, gy⟩ := get_of (X := swpR X a b i) (n := b + i) (by rw [swpR_length]; omega)
    have s1 := spliceD_one (X := (swpR X a b i).map E.d) (i := a + i) (x := E.d y) (by simp [swpR_length]; omega)
    have s2 := spliceD_one (X := ((swpR X a b i).map E.d).set (a + i) (E.d y)) (i := b + i) (x := E.d x) (by simp [swpR_length]; omega)
    have l1 : a + i + 1 ≤ X.length := by omega
    have l2 : b + i + 1 ≤ X.length := by omega
    simp [c1, w1, w2, w3, ha, hb, gx, gy, s1, s2, hbs, swpR_length, l1, l2, hp_swp gx gy, -Int.natCast_add, -List.map_set, -getElem?_pos]
    refine sem_ok ?_
    exact ⟨_, by omega, i + 1, rfl, by omega, rfl, by simp [hp, swpR]⟩
  · have : i = m := by omega
    subst this
    simp [c1]
    refine sem_exit (sem_run 9000 _ ?_)
    simp
    refine sem_ok ?_
    simp [M31]
def RotI (E : Enc α) (H : HpD) (bs c : Nat) (ex : Bool) (X : List α) (cv : D) (a m b k : Nat) (fr : FrD) (H' : HpD) : Prop :=
  ∃ (i j : Nat) (Y : List α), k = i + j ∧ 0 < i ∧ 0 < j ∧ i ≤ m ∧ m + j ≤ X.length ∧ fr = [(0, sl bs X.length c ex), (2, iD m), (4, cv), (10, iD i), (11, iD j)] ∧
    H' = hp E H bs Y ∧ Y.Perm X ∧ ∀ Z, RotR Y Z (m - i) m (m + j) → RotR X Z a m b
theorem rotate (L : HSrt p ext F) {E : Enc α} {H : HpD} {bs c : Nat} {ex : Bool} {X : List α} {cv : D} (hbs : bs < H.next) (hX : X.length < 1000000) {a m b : Nat} (h1 : a < m) (h2 : m < b) (h3 : b ≤ X.length) : WcD p ext (F 30) [sl bs X.length c ex, iD a, iD m, iD b, cv] (hp E H bs X) (fun d H' => d = .tup [] ∧ ∃ X', H' = hp E H bs X' ∧ X'.Perm X ∧ RotR X X' a m b) := by
  refine wc_of L.h30 (M := M30) rfl ok30 rfl (sem_run 9000 _ ?_)
  have w1 : wr .i64 ((m : Int) - a) = ((m - a : Nat) : Int) := by rw [wr_of] <;> omega
  have w2 : wr .i64 ((b : Int) - m) = ((b - m : Nat) : Int) := by rw [wr_of] <;> omega
  simp [w1, w2]
  refine sem_loop (RotI E H bs c ex X cv a m b) ?_ (k := (m - a) + (b - m)) ⟨m - a, b - m, X, rfl, by omega, by omega, by omega, by omega, by simp, rfl, .refl _, fun Z hr => by
      rwa [show m - (m - a) = a by omega, show m + (b - m) = b by omega] at hr⟩
  rintro k fr H' ⟨i, j, Y, rfl, hi0, hj0, hi, hj, rfl, rfl, hp, hr⟩
  refine sem_run 9000 _ ?_
  simp
  have hl : Y.length = X.length := hp.length_eq
  have w3 : wr .i64 ((m : Int) - i) = ((m - i : Nat) : Int) := by rw [wr_of] <;> omega
  rcases Nat.lt_trichotomy i j with c1 | c1 | c1
  · have d1 : ¬ ((i : Int) = j) := by omega
    have d2 : ¬ j < i := by omega
    have w4 : wr .i64 ((m : Int) + j) = ((m + j : Nat) : Int) := by rw [wr_of] <;> omega
    have w5 : wr .i64 (((m + j : Nat) : Int) - i) = ((m + j - i : Nat) : Int) := by rw [wr_of] <;> omega
    have w6 : wr .i64 ((j : Int) - i) = ((j - i : Nat) : Int) := by rw [wr_of] <;> omega
    simp [d1, d2, w3, w4, w5, -Int.natCast_add]
    have sp := swapRange L (E := E) (H := H) (c := c) (ex := ex) (X := Y) (cv := cv) hbs (by omega) (a := m - i) (b := m + j - i) (m := i) (by omega) (by omega)
    rw [hl] at sp
    refine sem_call sp ?_
    rintro _ _ ⟨rfl, rfl⟩
    refine sem_run 9000 _ ?_
    simp [w6]
    refine sem_ok ?_
    exact ⟨i + (j - i), by omega, i, j - i, swpR Y (m - i) (m + j - i) i, rfl, hi0, by omega, hi, by omega, rfl, rfl, swpR_perm.trans hp, fun Z h => hr Z (rot_less hi c1 (by omega) h)⟩
  · subst c1
    simp
    refine sem_exit (sem_run 9000 _ ?_)
    simp [w3]
    have sp := swapRange L (E := E) (H := H) (c := c) (ex := ex) (X := Y) (cv := cv) hbs (by omega) (a := m - i) (b := m) (m := i) (by omega) (by omega)
    rw [hl] at sp
    refine sem_call sp ?_
    rintro _ _ ⟨rfl, rfl⟩
    refine sem_run 9000 _ ?_
    simp
    refine sem_ok ?_
    simp [M30]
    exact ⟨_, rfl, swpR_perm.trans hp, hr _ (rot_same hi (by omega))⟩
  · have d1 : ¬ ((i : Int) = j) := by omega
    have w6 : wr .i64 ((i : Int) - j) = ((i - j : Nat) : Int) := by rw [wr_of] <;> omega
    simp [d1, c1, w3]
    have sp := swapRange L (E := E) (H := H) (c := c) (ex := ex) (X := Y) (cv := cv) hbs (by omega) (a := m - i) (b := m) (m := j) (by omega) (by omega)
    rw [hl] at sp
    refine sem_call sp ?_
    rintro _ _ ⟨rfl, rfl⟩
    refine sem_run 9000 _ ?_
    simp [w6]
    refine sem_ok ?_
    exact ⟨i - j + j, by omega, i - j, j, swpR Y (m - i) m j, rfl, by omega, hj0, by omega, by omega, rfl, rfl, swpR_perm.trans hp, fun Z h => hr Z (rot_more hi c1 (by omega) (by rwa [show m - i + j = m - (i - j) by omega]))⟩
structure Cmp (p : Prog) (ext : Ext) (E : Enc α) (D : α → Prop) (cv : Dv.D) (cmp : α → α → Int) : Prop where
  fn : ∃ g a c, cv = .func g a c ∧ ∀ x y, D x → D y → FnD p ext g (a ++ E.d x :: E.d y :: c) (.lit (.int .i64 (cmp x y)))
  anti : ∀ x y, D x → D y → cmp x y < 0 → ¬ cmp y x < 0
  trans : ∀ x y z, D x → D y → D z → ¬ cmp y x < 0 → ¬ cmp z y < 0 → ¬ cmp z x < 0
def InsI (E : Enc α) (H : HpD) (bs c : Nat) (ex : Bool) (n : Nat) (cv : D) (cmp : α → α → Int) (X : List α) (a b i k : Nat) (fr : FrD) (H' : HpD) : Prop :=
  ∃ (j : Nat) (Y : List α), k = j ∧ a ≤ j ∧ j ≤ i ∧ fr = [(0, sl bs n c ex), (1, iD a), (2, iD b), (3, cv), (8, iD i), (9, iD j)] ∧
    H' = hp E H bs Y ∧ Mix X Y a b ∧ (∀ p q x y, a ≤ p → p < q → q ≤ i → p ≠ j → q ≠ j → Y[p]? = some x → Y[q]? = some y → ¬ cmp y x < 0) ∧ ∀ q x y, j < q → q ≤ i → Y[j]? = some x → Y[q]? = some y → ¬ cmp y x < 0
def InsO (E : Enc α) (H : HpD) (bs c : Nat) (ex : Bool) (n : Nat) (cv : D) (cmp : α → α → Int) (X : List α) (a b k : Nat) (fr : FrD) (H' : HpD) : Prop :=
  ∃ (i : Nat) (Y : List α), k = b + 1 - i ∧ a < i ∧ i ≤ max b (a + 1) ∧ fr = [(0, sl bs n c ex), (1, iD a), (2, iD b), (3, cv), (8, iD i)] ∧
    H' = hp E H bs Y ∧ Mix X Y a b ∧ Srt cmp Y a i
theorem insertion (L : HSrt p ext F) {E : Enc α} {H : HpD} {bs c : Nat} {ex : Bool} {X : List α} {cv : D} {G : α → Prop} {cmp : α → α → Int} (hc : Cmp p ext E G cv cmp) (hbs : bs < H.next) (hX : X.length < 1000000) (hG : ∀ x, x ∈ X → G x) {a b : Nat} (hab : a ≤ b) (hbl : b ≤ X.length) : WcD p ext (F 28) [sl bs X.length c ex, iD a, iD b, cv] (hp E H bs X) (fun d H' => d = .tup [] ∧ ∃ X', H' = hp E H bs X' ∧ Mix X X' a b ∧ Srt cmp X' a b) := by
  refine wc_of L.h28 (M := M28) rfl ok28 rfl (sem_run 9000 _ ?_)
  obtain ⟨g, ga, gc, rfl, hcall⟩ := hc.fn
  have w1 : wr .i64 ((a : Int) + 1) = ((a + 1 : Nat) : Int) := by rw [wr_of] <;> omega
  simp [w1, -Int.natCast_add]
  refine sem_loop (InsO E H bs c ex X.length (.func g ga gc) cmp X a b) ?_ (k := b + 1 - (a + 1)) ⟨a + 1, X, rfl, by omega, by omega, rfl, rfl, .refl, fun p q x y h1 h2 h3 => by omega⟩
  rintro k fr H' ⟨i, Y, rfl, hai, hib, rfl, rfl, hm, hsrt⟩
  refine sem_run 9000 _ ?_
  simp
  by_cases c1 : i < b
  · have hl : Y.length = X.length := hm.perm.length_eq
    simp [c1]
    refine sem_loop (InsI E H bs c ex X.length (.func g ga gc) cmp X a b i) ?_ (k := i) ⟨i, Y, rfl, by omega, by omega, rfl, rfl, hm, fun p q x y h1 h2 h3 h4 h5 => hsrt p q x y h1 h2 (by omega), fun q x y h1 h2 => by omega⟩
    rintro j fr H' ⟨_, Z, rfl, haj, hji, rfl, rfl, hm2, hso, hsj⟩
    refine sem_run 9000 _ ?_
    simp
    have hl2 : Z.length = X.length := hm2.perm.length_eq
    have w4 : wr .i64 ((i : Int) + 1) = ((i + 1 : Nat) : Int) := by rw [wr_of] <;> omega
    by_cases c2 : a < j
    · have w5 : wr .i64 ((j : Int) - 1) = ((j - 1 : Nat) : Int) := by rw [wr_of] <;> omega
      obtain ⟨x, gx⟩ := get_of (X := Z) (n := j) (by omega)
      obtain ⟨y, gy⟩ := get_of (X := Z) (n := j - 1) (by omega)
      have hxm : x ∈ X := hm2.perm.mem_iff.1 (List.mem_of_getElem? gx)
      have hym : y ∈ X := hm2.perm.mem_iff.1 (List.mem_of_getElem? gy)
      have l1 : j < X.length := by omega
      have l2 : j - 1 < X.length := by omega
      simp [c2, w5, gx, gy, l1, l2, hbs, -getElem?_pos]
      refine sem_dfn (hcall x y (hG x hxm) (hG y hym)) (by first | exact D.les_refl _ | simp) (sem_run 9000 _ ?_)
      simp
      by_cases c3 : cmp x y < 0
      · have s1 := spliceD_one (X := Z.map E.d) (i := j) (x := E.d y) (by simp; omega)
        have s2 := spliceD_one (X := (Z.map E.d).set j (E.d y)) (i := j - 1) (x := E.d x) (by simp; omega)
        have l3 : j + 1 ≤ X.length := by omega
        have l4 : j - 1 + 1 ≤ X.length := by omega
        simp [c3, w5, gx, gy, l1, l2, l3, l4, hl2, s1, s2, hbs, hp_swp gx gy, -List.map_set, -getElem?_pos]
        refine sem_ok ?_
        have hlj : j < Z.length := by omega
        have hlj1 : j - 1 < Z.length := by omega
        have hg := swp_get hlj hlj1
        refine ⟨j - 1, by omega, j - 1, swp Z j (j - 1), rfl, by omega, by omega, rfl, by simp [hp], hm2.trans (Mix.swp (by omega) (by omega) (by omega)), fun p q u v h1 h2 h3 h4 h5 h6 h7 => ?_, fun q u v h1 h2 h3 h4 => ?_⟩
        · rw [hg, if_neg h4] at h6
          rw [hg, if_neg h5] at h7
          split at h6
          · rename_i hp
            rw [if_neg (by omega)] at h7
            exact hso (j - 1) q u v (by omega) (by omega) h3 (by omega) (by omega) h6 h7
          · rename_i hp
            split at h7
            · exact hso p (j - 1) u v h1 (by omega) (by omega) hp (by omega) h6 h7
            · rename_i hq'
              exact hso p q u v h1 h2 h3 hp hq' h6 h7
        · rw [hg, if_pos rfl, gx] at h3
          rw [hg, if_neg (by omega)] at h4
          cases h3
          split at h4
          · rw [gy] at h4; cases h4
            exact hc.anti _ _ (hG _ hxm) (hG _ hym) c3
          · exact hsj q x v (by omega) h2 gx h4
      · simp [c3]
        refine sem_exit (sem_run 9000 _ ?_)
        simp [w4]
        refine sem_ok ?_
        refine ⟨b + 1 - (i + 1), by omega, i + 1, Z, rfl, by omega, by omega, by simp, rfl, hm2, fun p q u v h1 h2 h3 h4 h5 => ?_⟩
        by_cases hp : p = j
        · subst hp; exact hsj q u v h2 (by omega) h4 h5
        · by_cases hq' : q = j
          · subst hq'
            rw [gx] at h5; cases h5
            by_cases hp1 : p = q - 1
            · subst hp1; rw [gy] at h4; cases h4; exact c3
            · have hGu : G u := hG u (hm2.perm.mem_iff.1 (List.mem_of_getElem? h4))
              exact hc.trans u y x hGu (hG y hym) (hG x hxm) (hso p (q - 1) u y h1 (by omega) (by omega) hp (by omega) h4 gy) c3
          · exact hso p q u v h1 h2 (by omega) hp hq' h4 h5
    · have : j = a := by omega
      subst this
      simp
      refine sem_exit (sem_run 9000 _ ?_)
      simp [w4]
      refine sem_ok ?_
      refine ⟨b + 1 - (i + 1), by omega, i + 1, Z, rfl, by omega, by omega, by simp, rfl, hm2, fun p q x y h1 h2 h3 h4 h5 => ?_⟩
      by_cases hp : p = j
      · subst hp; exact hsj q x y h2 (by omega) h4 h5
      · exact hso p q x y h1 h2 (by omega) hp (by omega) h4 h5
  · simp [c1]
    refine sem_exit (sem_run 9000 _ ?_)
    simp
    refine sem_ok ?_
    simp [M28]
    exact ⟨Y, rfl, hm, fun p q x y h1 h2 h3 => hsrt p q x y h1 h2 (by omega)⟩
theorem mid_of {n : Nat} (h : n < 4000000) : wr .i64 (shrI .u64 (wr .u64 (n : Int)) 1) = ((n / 2 : Nat) : Int) := by
  have e0 : Nat.blt n (hiN .u64) = true := nblt.2 (by simp only [hiN]; omega)
  have e1 : wr .u64 (n : Int) = (n : Int) := by
    show cond (Nat.blt n (hiN .u64)) _ _ = _
    rw [e0]; rfl
  rw [e1]
  have e2 : shrI .u64 (n : Int) 1 = ((n / 2 : Nat) : Int) := rfl
  rw [e2, wr_of] <;> omega
def SymI1 (E : Enc α) (H : HpD) (bs c : Nat) (ex : Bool) (n : Nat) (cv : D) (cmp : α → α → Int) (X : List α) (a m b k : Nat) (fr : FrD) (H' : HpD) : Prop :=
  ∃ (i j : Nat), k = j - i ∧ m ≤ i ∧ i ≤ j ∧ j ≤ b ∧ fr = [(0, sl bs n c ex), (1, iD a), (4, cv), (10, iD i), (11, iD j)] ∧ H' = hp E H bs X ∧
    (∀ q x y, X[a]? = some x → X[q]? = some y → m ≤ q → q < i → cmp y x < 0) ∧ ∀ q x y, X[a]? = some x → X[q]? = some y → j ≤ q → q < b → ¬ cmp y x < 0
def SymS1 (E : Enc α) (H : HpD) (bs c : Nat) (ex : Bool) (n : Nat) (X : List α) (a b i k : Nat) (fr : FrD) (H' : HpD) : Prop :=
  ∃ (t : Nat) (Y : List α), k = i - 1 - t ∧ a ≤ t ∧ t ≤ i - 1 ∧ fr = [(0, sl bs n c ex), (10, iD i), (13, iD t)] ∧ H' = hp E H bs Y ∧
    Mix X Y a b ∧ (∀ p, a ≤ p → p < t → Y[p]? = X[p + 1]?) ∧ Y[t]? = X[a]? ∧ ∀ p, t < p → Y[p]? = X[p]?
def SymI2 (E : Enc α) (H : HpD) (bs c : Nat) (ex : Bool) (n : Nat) (cv : D) (cmp : α → α → Int) (X : List α) (a m _b k : Nat) (fr : FrD) (H' : HpD) : Prop :=
  ∃ (i j : Nat), k = j - i ∧ a ≤ i ∧ i ≤ j ∧ j ≤ m ∧ fr = [(0, sl bs n c ex), (2, iD m), (4, cv), (14, iD i), (15, iD j)] ∧ H' = hp E H bs X ∧
    (∀ q x y, X[m]? = some x → X[q]? = some y → a ≤ q → q < i → ¬ cmp x y < 0) ∧ ∀ q x y, X[m]? = some x → X[q]? = some y → j ≤ q → q < m → cmp x y < 0
def SymS2 (E : Enc α) (H : HpD) (bs c : Nat) (ex : Bool) (n : Nat) (X : List α) (a m b i k : Nat) (fr : FrD) (H' : HpD) : Prop :=
  ∃ (t : Nat) (Y : List α), k = t - i ∧ i ≤ t ∧ t ≤ m ∧ fr = [(0, sl bs n c ex), (14, iD i), (17, iD t)] ∧ H' = hp E H bs Y ∧
    Mix X Y a b ∧ (∀ p, p < t → Y[p]? = X[p]?) ∧ Y[t]? = X[m]? ∧ ∀ p, t < p → p ≤ m → Y[p]? = X[p - 1]?
def SymI3 (E : Enc α) (H : HpD) (bs c : Nat) (ex : Bool) (n : Nat) (cv : D) (cmp : α → α → Int) (X : List α) (a m b md S R k : Nat) (fr : FrD) (H' : HpD) : Prop :=
  ∃ (i j : Nat), k = j - i ∧ S ≤ i ∧ i ≤ j ∧ j ≤ R ∧ fr = [(0, sl bs n c ex), (1, iD a), (2, iD m), (3, iD b), (4, cv), (18, iD md), (19, iD (md + m)), (20, iD i), (21, iD j), (22, iD (md + m - 1))] ∧ H' = hp E H bs X ∧
    (S < i → ∀ x y, X[i - 1]? = some x → X[md + m - i]? = some y → ¬ cmp y x < 0) ∧ (j < R → ∀ x y, X[j]? = some x → X[md + m - 1 - j]? = some y → cmp y x < 0)
structure Sym4 (cmp : α → α → Int) (Y : List α) (a s md e b : Nat) : Prop where
  s1 : Srt cmp Y a s
  s2 : Srt cmp Y s md
  s3 : Srt cmp Y md e
  s4 : Srt cmp Y e b
  part : Parted cmp Y a md b
theorem rot_mix {X Y : List α} {s m e a b : Nat} (hr : RotR X Y s m e) (hp : Y.Perm X) (h1 : a ≤ s) (h2 : s ≤ m) (h3 : m ≤ e) (h4 : e ≤ b) : Mix X Y a b :=
  ⟨hp, fun k hk => by rw [hr k, if_neg (by omega), if_neg (by omega)]⟩
theorem rot_id {X : List α} {s m e : Nat} (h : s = m ∨ e = m) (h2 : s ≤ m) (h3 : m ≤ e) : RotR X X s m e := fun k => by
  split
  · congr 1; omega
  · split
    · congr 1; omega
    · rfl
theorem sym4 {E : Enc α} {cv : D} {G : α → Prop} {cmp : α → α → Int} (hc : Cmp p ext E G cv cmp) {X Y : List α} {a m b md s S R : Nat} (hG : ∀ x, x ∈ X → G x) (h1 : a < m) (h2 : m < b) (hmd : a < md ∧ md < b) (hb : b ≤ X.length)
    (hs1 : Srt cmp X a m) (hs2 : Srt cmp X m b) (hq : md = (a + b) / 2) (hS : S = if md < m then md + m - b else a) (hR : R = min m md) (hSs : S ≤ s) (hsR : s ≤ R)
    (hlo : S < s → ∀ x y, X[s - 1]? = some x → X[md + m - s]? = some y → ¬ cmp y x < 0) (hhi : s < R → ∀ x y, X[s]? = some x → X[md + m - 1 - s]? = some y → cmp y x < 0)
    (hr : RotR X Y s m (md + m - s)) : Sym4 cmp Y a s md (md + m - s) b := by
  have hk : a ≤ s ∧ s ≤ m ∧ s ≤ md ∧ md + m - s ≤ b ∧ m ≤ md + m - s := by
    have : R ≤ m ∧ R ≤ md := by omega
    split at hS <;> omega
  have hSc : S = s → s = a ∨ md + m - s = b := by
    intro e; split at hS <;> omega
  have hRc : s = R → s = m ∨ md + m - s = m := by omega
  have y1 : ∀ k, k < s → Y[k]? = X[k]? := fun k h => by rw [hr k, if_neg (by omega), if_neg (by omega)]
  have y2 : ∀ k, s ≤ k → k < md → Y[k]? = X[m + (k - s)]? := fun k h h' => by rw [hr k, if_pos (by omega)]
  have y3 : ∀ k, md ≤ k → k < md + m - s → Y[k]? = X[k - (md - s)]? := fun k h h' => by
    rw [hr k, if_neg (by omega), if_pos (by omega)]; congr 1; omega
  have y4 : ∀ k, md + m - s ≤ k → Y[k]? = X[k]? := fun k h => by rw [hr k, if_neg (by omega), if_neg (by omega)]
  have hGm : ∀ {k x}, X[k]? = some x → G x := fun h => hG _ (List.mem_of_getElem? h)
  refine ⟨fun p q x y k1 k2 k3 k4 k5 => ?_, fun p q x y k1 k2 k3 k4 k5 => ?_, fun p q x y k1 k2 k3 k4 k5 => ?_, fun p q x y k1 k2 k3 k4 k5 => ?_, fun p q x y k1 k2 k3 k4 k5 k6 => ?_⟩
  · rw [y1 p (by omega)] at k4; rw [y1 q (by omega)] at k5
    exact hs1 p q x y k1 k2 (by omega) k4 k5
  · rw [y2 p (by omega) (by omega)] at k4; rw [y2 q (by omega) (by omega)] at k5
    exact hs2 _ _ x y (by omega) (by omega) (by omega) k4 k5
  · rw [y3 p (by omega) (by omega)] at k4; rw [y3 q (by omega) (by omega)] at k5
    exact hs1 _ _ x y (by omega) (by omega) (by omega) k4 k5
  · rw [y4 p (by omega)] at k4; rw [y4 q (by omega)] at k5
    exact hs2 p q x y (by omega) k2 k3 k4 k5
  · by_cases cp : p < s
    · rw [y1 p cp] at k5
      by_cases cq : q < md + m - s
      · rw [y3 q k3 cq] at k6
        exact hs1 p _ x y k1 (by omega) (by omega) k5 k6
      · rw [y4 q (by omega)] at k6
        have hlt : S < s := by
          rcases Nat.lt_or_ge S s with h | h
          · exact h
          · have := hSc (by omega); omega
        obtain ⟨u, gu⟩ := get_of (X := X) (n := s - 1) (by omega)
        obtain ⟨v, gv⟩ := get_of (X := X) (n := md + m - s) (by omega)
        have huv := hlo hlt u v gu gv
        have hxu : ¬ cmp v x < 0 := by
          by_cases e : p = s - 1
          · subst e; rw [gu] at k5; cases k5; exact huv
          · exact hc.trans x u v (hGm k5) (hGm gu) (hGm gv) (hs1 p (s - 1) x u k1 (by omega) (by omega) k5 gu) huv
        by_cases e : q = md + m - s
        · subst e; rw [gv] at k6; cases k6; exact hxu
        · exact hc.trans x v y (hGm k5) (hGm gv) (hGm k6) hxu (hs2 _ q v y (by omega) (by omega) k4 gv k6)
    · rw [y2 p (by omega) k2] at k5
      by_cases cq : q < md + m - s
      · rw [y3 q k3 cq] at k6
        have hlt : s < R := by
          rcases Nat.lt_or_ge s R with h | h
          · exact h
          · have := hRc (by omega); omega
        obtain ⟨u, gu⟩ := get_of (X := X) (n := s) (by omega)
        obtain ⟨v, gv⟩ := get_of (X := X) (n := md + m - 1 - s) (by omega)
        have huv := hc.anti _ _ (hGm gv) (hGm gu) (hhi hlt u v gu gv)
        have hxu : ¬ cmp u x < 0 := by
          by_cases e : m + (p - s) = md + m - 1 - s
          · rw [e, gv] at k5; cases k5; exact huv
          · exact hc.trans x v u (hGm k5) (hGm gv) (hGm gu) (hs2 _ _ x v (by omega) (by omega) (by omega) k5 gv) huv
        by_cases e : q - (md - s) = s
        · rw [e, gu] at k6; cases k6; exact hxu
        · exact hc.trans x u y (hGm k5) (hGm gu) (hGm k6) hxu (hs1 _ _ u y (by omega) (by omega) (by omega) gu k6)
      · rw [y4 q (by omega)] at k6
        exact hs2 _ q x y (by omega) (by omega) k4 k5 k6
theorem Srt.of_out {cmp : α → α → Int} {Y Z : List α} {a b c d : Nat} (h : Srt cmp Y a b) (hm : Mix Y Z c d) (ho : b ≤ c ∨ d ≤ a) : Srt cmp Z a b := fun p q x y k1 k2 k3 k4 k5 => by
  rw [hm.out p (by omega)] at k4
  rw [hm.out q (by omega)] at k5
  exact h p q x y k1 k2 k3 k4 k5
theorem Mix.wide {Y Z : List α} {a b c d : Nat} (h : Mix Y Z c d) (h1 : a ≤ c) (h2 : d ≤ b) : Mix Y Z a b := ⟨h.perm, fun k hk => h.out k (by omega)⟩
theorem sym_end {cmp : α → α → Int} {X Y Z W : List α} {a s md e b : Nat} (h4 : Sym4 cmp Y a s md e b) (h0 : Mix X Y a b) (hmd : a ≤ md ∧ md ≤ b) (m1 : Mix Y Z a md) (t1 : Srt cmp Z a md) (m2 : Mix Z W md b) (t2 : Srt cmp W md b) : Mix X W a b ∧ Srt cmp W a b := by
  refine ⟨h0.trans ((Mix.wide m1 (Nat.le_refl _) hmd.2).trans (Mix.wide m2 hmd.1 (Nat.le_refl _))), ?_⟩
  exact Srt.join (Srt.of_out t1 m2 (.inl (Nat.le_refl _))) t2 ((h4.part.mix m1 (.inl ⟨Nat.le_refl _, Nat.le_refl _⟩)).mix m2 (.inr ⟨Nat.le_refl _, Nat.le_refl _⟩))
def SymJ (E : Enc α) (H : HpD) (bs c : Nat) (ex : Bool) (n : Nat) (cv : D) (X : List α) (a m b md S R : Nat) (fr : FrD) (H' : HpD) : Prop :=
  fr = [(0, sl bs n c ex), (1, iD a), (2, iD m), (3, iD b), (4, cv), (18, iD md), (19, iD (md + m)), (20, iD S), (21, iD R)] ∧ H' = hp E H bs X
def SymJ2 (E : Enc α) (H : HpD) (bs c : Nat) (ex : Bool) (n : Nat) (cv : D) (X : List α) (a m b md s e : Nat) (fr : FrD) (H' : HpD) : Prop :=
  ∃ Y, (lk fr 0 = sl bs n c ex ∧ lk fr 1 = iD a ∧ lk fr 3 = iD b ∧ lk fr 4 = cv ∧ lk fr 18 = iD md ∧ lk fr 20 = iD s ∧ lk fr 24 = iD e) ∧ H' = hp E H bs Y ∧ Y.Perm X ∧ RotR X Y s m e
def SymJ3 (E : Enc α) (H : HpD) (bs c : Nat) (ex : Bool) (n : Nat) (cv : D) (cmp : α → α → Int) (Y : List α) (a b md e : Nat) (fr : FrD) (H' : HpD) : Prop :=
  ∃ Z, (lk fr 0 = sl bs n c ex ∧ lk fr 3 = iD b ∧ lk fr 4 = cv ∧ lk fr 18 = iD md ∧ lk fr 24 = iD e) ∧ H' = hp E H bs Z ∧ Mix Y Z a md ∧ Srt cmp Z a md
set_option maxHeartbeats 2000000 in
theorem symMerge (L : HSrt p ext F) {E : Enc α} {H : HpD} {bs c : Nat} {ex : Bool} {n : Nat} {cv : D} {G : α → Prop} {cmp : α → α → Int} (hc : Cmp p ext E G cv cmp) (hbs : bs < H.next) (hn : n < 1000000) : ∀ (w : Nat) {X : List α} {a m b : Nat},
    b - a ≤ w → X.length = n → (∀ x, x ∈ X → G x) → a < m → m < b → b ≤ n → Srt cmp X a m → Srt cmp X m b →
    WcD p ext (F 29) [sl bs n c ex, iD a, iD m, iD b, cv] (hp E H bs X) fun d H' => d = .tup [] ∧ ∃ X', H' = hp E H bs X' ∧ Mix X X' a b ∧ Srt cmp X' a b := by
  obtain ⟨g, ga, gc, rfl, hcall⟩ := hc.fn
  intro w
  induction w with
  | zero => intro X a m b hw _ _ h1 h2; omega
  | succ w ih =>
  intro X a m b hw hl hG h1 h2 h3 hs1 hs2
  refine wc_of L.h29 (M := M29) rfl ok29 rfl (sem_run 57 _ ?_)
  have w1 : wr .i64 ((m : Int) - a) = ((m - a : Nat) : Int) := by rw [wr_of] <;> omega
  simp [w1]
  refine sem_if (fun c1 => ?_) fun c1 => ?_
  · simp
    refine sem_loop (SymI1 E H bs c ex n (.func g ga gc) cmp X a m b) ?_ (k := b - m) ⟨m, b, rfl, by omega, by omega, by omega, rfl, rfl, fun q x y _ _ h4 h5 => by omega, fun q x y _ _ h4 h5 => by omega⟩
    rintro k fr H' ⟨i, j, rfl, hmi, hij, hjb, rfl, rfl, hlo, hhi⟩
    refine sem_run 9000 _ ?_
    simp
    by_cases c2 : i < j
    · have w2 : wr .i64 ((i : Int) + j) = ((i + j : Nat) : Int) := by rw [wr_of] <;> omega
      have w3 := mid_of (n := i + j) (by omega)
      have hmid : m ≤ (i + j) / 2 ∧ (i + j) / 2 < b ∧ i ≤ (i + j) / 2 ∧ (i + j) / 2 < j := by omega
      generalize (i + j) / 2 = t at w3 hmid
      obtain ⟨x, gx⟩ := get_of (X := X) (n := t) (by omega)
      obtain ⟨y, gy⟩ := get_of (X := X) (n := a) (by omega)
      have hxm : x ∈ X := List.mem_of_getElem? gx
      have hym : y ∈ X := List.mem_of_getElem? gy
      have w4 : wr .i64 ((t : Int) + 1) = ((t + 1 : Nat) : Int) := by rw [wr_of] <;> omega
      have l1 : t < n := by omega
      have l2 : a < n := by omega
      simp [c2, w2, w3, gx, gy, l1, l2, hbs, -Int.natCast_add, -getElem?_pos]
      refine sem_dfn (hcall x y (hG x hxm) (hG y hym)) (by first | exact D.les_refl _ | simp) (sem_run 9000 _ ?_)
      simp
      by_cases c3 : cmp x y < 0
      · simp [c3, w4, -Int.natCast_add]
        refine sem_ok ?_
        refine ⟨j - (t + 1), by omega, t + 1, j, rfl, by omega, by omega, hjb, rfl, rfl, fun q u v hu hv h4 h5 => ?_, hhi⟩
        rw [gy] at hu; cases hu
        have hGv : G v := hG v (List.mem_of_getElem? hv)
        by_cases hqt : q = t
        · subst hqt; rw [gx] at hv; cases hv; exact c3
        · exact Decidable.byContradiction fun hne => hc.trans y v x (hG y hym) hGv (hG x hxm) hne (hs2 q t v x h4 (by omega) (by omega) hv gx) c3
      · simp [c3]
        refine sem_ok ?_
        refine ⟨t - i, by omega, i, t, rfl, by omega, by omega, by omega, rfl, rfl, hlo, fun q u v hu hv h4 h5 => ?_⟩
        rw [gy] at hu; cases hu
        have hGv : G v := hG v (List.mem_of_getElem? hv)
        by_cases hqt : q = t
        · subst hqt; rw [gx] at hv; cases hv; exact c3
        · exact hc.trans y x v (hG y hym) (hG x hxm) hGv c3 (hs2 t q x v (by omega) (by omega) h5 gx hv)
    · obtain rfl : i = j := by omega
      simp
      refine sem_exit (sem_run 9000 _ ?_)
      simp
      have w5 : wr .i64 ((i : Int) - 1) = ((i - 1 : Nat) : Int) := by rw [wr_of] <;> omega
      refine sem_loop (SymS1 E H bs c ex n X a b i) ?_ (k := i - 1 - a) ⟨a, X, rfl, by omega, by omega, rfl, rfl, .refl, fun p _ _ => by omega, rfl, fun _ _ => rfl⟩
      rintro k fr H' ⟨t, Y, rfl, hat1, hti, rfl, rfl, hmt, hlt, hxt, hgt⟩
      refine sem_run 9000 _ ?_
      simp
      have hl1 : Y.length = n := hmt.perm.length_eq.trans hl
      by_cases c3 : t < i - 1
      · have w6 : wr .i64 ((t : Int) + 1) = ((t + 1 : Nat) : Int) := by rw [wr_of] <;> omega
        have hlj : t < Y.length := by omega
        have hlj1 : t + 1 < Y.length := by omega
        obtain ⟨x, gx⟩ := get_of hlj
        obtain ⟨y, gy⟩ := get_of hlj1
        have s1 := spliceD_one (X := Y.map E.d) (i := t) (x := E.d y) (by simp; omega)
        have s2 := spliceD_one (X := (Y.map E.d).set t (E.d y)) (i := t + 1) (x := E.d x) (by simp; omega)
        have l1 : t < n := by omega
        have l2 : t + 1 < n := by omega
        have l3 : t + 1 ≤ n := by omega
        have l4 : t + 1 + 1 ≤ n := by omega
        simp [c3, w5, w6, gx, gy, l1, l2, l3, l4, hl1, s1, s2, hbs, hp_swp gx gy, -List.map_set, -getElem?_pos, -Int.natCast_add]
        refine sem_ok ?_
        have hg := swp_get hlj hlj1
        refine ⟨i - 1 - (t + 1), by omega, t + 1, swp Y t (t + 1), rfl, by omega, by omega, rfl, by simp [hp], hmt.trans (Mix.swp (by omega) (by omega) (by omega)), fun p h4 h5 => ?_, ?_, fun p h4 => ?_⟩
        · rw [hg, if_neg (by omega)]
          split
          · rename_i hp; subst hp; exact hgt _ (by omega)
          · exact hlt p h4 (by omega)
        · rw [hg, if_pos rfl]; exact hxt
        · rw [hg, if_neg (by omega), if_neg (by omega)]; exact hgt p (by omega)
      · obtain rfl : t = i - 1 := by omega
        simp [w5]
        refine sem_exit (sem_run 9000 _ ?_)
        simp
        refine sem_ret ?_
        simp [M29]
        refine ⟨Y, rfl, hmt, fun p q u v h4 h5 h6 h7 h8 => ?_⟩
        obtain ⟨y, gy⟩ := get_of (X := X) (n := a) (by omega)
        have hGy : G y := hG y (List.mem_of_getElem? gy)
        rw [gy] at hxt
        rcases Nat.lt_trichotomy p (i - 1) with cp | cp | cp
        · rw [hlt p h4 cp] at h7
          rcases Nat.lt_trichotomy q (i - 1) with cq | cq | cq
          · rw [hlt q (by omega) cq] at h8
            exact hs2 (p + 1) (q + 1) u v (by omega) (by omega) (by omega) h7 h8
          · subst cq
            rw [hxt] at h8; cases h8
            exact hc.anti _ _ (hG u (List.mem_of_getElem? h7)) hGy (hlo (p + 1) v u gy h7 (by omega) (by omega))
          · rw [hgt q cq] at h8
            exact hs2 (p + 1) q u v (by omega) (by omega) h6 h7 h8
        · subst cp
          rw [hxt] at h7; cases h7
          rw [hgt q h5] at h8
          exact hhi q u v gy h8 (by omega) h6
        · rw [hgt p cp] at h7
          rw [hgt q (by omega)] at h8
          exact hs2 p q u v (by omega) h5 h6 h7 h8
  have w1 : wr .i64 ((b : Int) - m) = ((b - m : Nat) : Int) := by rw [wr_of] <;> omega
  simp [w1]
  refine sem_if (fun c1 => ?_) fun c1 => ?_
  · simp
    refine sem_loop (SymI2 E H bs c ex n (.func g ga gc) cmp X a m b) ?_ (k := m - a) ⟨a, m, rfl, by omega, by omega, by omega, rfl, rfl, fun q x y _ _ h4 h5 => by omega, fun q x y _ _ h4 h5 => by omega⟩
    rintro k fr H' ⟨i, j, rfl, hmi, hij, hjb, rfl, rfl, hlo, hhi⟩
    refine sem_run 9000 _ ?_
    simp
    by_cases c2 : i < j
    · have w2 : wr .i64 ((i : Int) + j) = ((i + j : Nat) : Int) := by rw [wr_of] <;> omega
      have w3 := mid_of (n := i + j) (by omega)
      have hmid : a ≤ (i + j) / 2 ∧ (i + j) / 2 < m ∧ i ≤ (i + j) / 2 ∧ (i + j) / 2 < j := by omega
      generalize (i + j) / 2 = t at w3 hmid
      obtain ⟨x, gx⟩ := get_of (X := X) (n := t) (by omega)
      obtain ⟨y, gy⟩ := get_of (X := X) (n := m) (by omega)
      have hxm : x ∈ X := List.mem_of_getElem? gx
      have hym : y ∈ X := List.mem_of_getElem? gy
      have w4 : wr .i64 ((t : Int) + 1) = ((t + 1 : Nat) : Int) := by rw [wr_of] <;> omega
      have l1 : t < n := by omega
      have l2 : m < n := by omega
      simp [c2, w2, w3, gx, gy, l1, l2, hbs, -Int.natCast_add, -getElem?_pos]
      refine sem_dfn (hcall y x (hG y hym) (hG x hxm)) (by first | exact D.les_refl _ | simp) (sem_run 9000 _ ?_)
      simp
      by_cases c3 : cmp y x < 0
      · simp [c3]
        refine sem_ok ?_
        refine ⟨t - i, by omega, i, t, rfl, by omega, by omega, by omega, rfl, rfl, hlo, fun q u v hu hv h4 h5 => ?_⟩
        rw [gy] at hu; cases hu
        have hGv : G v := hG v (List.mem_of_getElem? hv)
        by_cases hqt : q = t
        · subst hqt; rw [gx] at hv; cases hv; exact c3
        · exact Decidable.byContradiction fun hne => hc.trans x v y (hG x hxm) hGv (hG y hym) (hs1 t q x v (by omega) (by omega) h5 gx hv) hne c3
      · simp [c3, w4, -Int.natCast_add]
        refine sem_ok ?_
        refine ⟨j - (t + 1), by omega, t + 1, j, rfl, by omega, by omega, hjb, rfl, rfl, fun q u v hu hv h4 h5 => ?_, hhi⟩
        rw [gy] at hu; cases hu
        have hGv : G v := hG v (List.mem_of_getElem? hv)
        by_cases hqt : q = t
        · subst hqt; rw [gx] at hv; cases hv; exact c3
        · exact hc.trans v x y hGv (hG x hxm) (hG y hym) (hs1 q t v x h4 (by omega) (by omega) hv gx) c3
    · obtain rfl : i = j := by omega
      simp
      refine sem_exit (sem_run 9000 _ ?_)
      simp
      refine sem_loop (SymS2 E H bs c ex n X a m b i) ?_ (k := m - i) ⟨m, X, rfl, by omega, by omega, rfl, rfl, .refl, fun _ _ => rfl, rfl, fun p _ _ => by omega⟩
      rintro k fr H' ⟨t, Y, rfl, hat1, hti, rfl, rfl, hmt, hlt, hxt, hgt⟩
      refine sem_run 9000 _ ?_
      simp
      have hl1 : Y.length = n := hmt.perm.length_eq.trans hl
      by_cases c3 : i < t
      · have w6 : wr .i64 ((t : Int) - 1) = ((t - 1 : Nat) : Int) := by rw [wr_of] <;> omega
        have hlj : t < Y.length := by omega
        have hlj1 : t - 1 < Y.length := by omega
        obtain ⟨x, gx⟩ := get_of hlj
        obtain ⟨y, gy⟩ := get_of hlj1
        have s1 := spliceD_one (X := Y.map E.d) (i := t) (x := E.d y) (by simp; omega)
        have s2 := spliceD_one (X := (Y.map E.d).set t (E.d y)) (i := t - 1) (x := E.d x) (by simp; omega)
        have l1 : t < n := by omega
        have l2 : t - 1 < n := by omega
        have l3 : t + 1 ≤ n := by omega
        have l4 : t - 1 + 1 ≤ n := by omega
        simp [c3, w6, gx, gy, l1, l2, l3, l4, hl1, s1, s2, hbs, hp_swp gx gy, -List.map_set, -getElem?_pos]
        refine sem_ok ?_
        have hg := swp_get hlj hlj1
        refine ⟨t - 1 - i, by omega, t - 1, swp Y t (t - 1), rfl, by omega, by omega, rfl, by simp [hp], hmt.trans (Mix.swp (by omega) (by omega) (by omega)), fun p h4 => ?_, ?_, fun p h4 h5 => ?_⟩
        · rw [hg, if_neg (by omega), if_neg (by omega)]; exact hlt p (by omega)
        · rw [hg, if_pos rfl]; exact hxt
        · rw [hg, if_neg (by omega)]
          split
          · rename_i hp; subst hp; exact hlt _ (by omega)
          · exact hgt p (by omega) h5
      · obtain rfl : t = i := by omega
        simp
        refine sem_exit (sem_run 9000 _ ?_)
        simp
        refine sem_ret ?_
        simp [M29]
        refine ⟨Y, rfl, hmt, fun p q u v h4 h5 h6 h7 h8 => ?_⟩
        obtain ⟨y, gy⟩ := get_of (X := X) (n := m) (by omega)
        rw [gy] at hxt
        rcases Nat.lt_trichotomy p t with cp | cp | cp
        · rw [hlt p cp] at h7
          rcases Nat.lt_trichotomy q t with cq | cq | cq
          · rw [hlt q cq] at h8
            exact hs1 p q u v h4 h5 (by omega) h7 h8
          · subst cq
            rw [hxt] at h8; cases h8
            exact hlo p v u gy h7 h4 cp
          · rw [hgt q cq (by omega)] at h8
            exact hs1 p (q - 1) u v h4 (by omega) (by omega) h7 h8
        · subst cp
          rw [hxt] at h7; cases h7
          rw [hgt q h5 (by omega)] at h8
          exact hc.anti _ _ (hG u (List.mem_of_getElem? gy)) (hG v (List.mem_of_getElem? h8)) (hhi (q - 1) u v gy h8 (by omega) (by omega))
        · rw [hgt p cp (by omega)] at h7
          rw [hgt q (by omega) (by omega)] at h8
          exact hs1 (p - 1) (q - 1) u v (by omega) (by omega) (by omega) h7 h8
  have w2 : wr .i64 ((a : Int) + b) = ((a + b : Nat) : Int) := by rw [wr_of] <;> omega
  have w3 := mid_of (n := a + b) (by omega)
  obtain ⟨md, hmd⟩ : ∃ md, md = (a + b) / 2 := ⟨_, rfl⟩
  rw [← hmd] at w3
  have w4 : wr .i64 ((md : Int) + m) = ((md + m : Nat) : Int) := by rw [wr_of] <;> omega
  have w5 : wr .i64 (((md + m : Nat) : Int) - 1) = ((md + m - 1 : Nat) : Int) := by rw [wr_of] <;> omega
  have w6 : md < m → wr .i64 (((md + m : Nat) : Int) - b) = ((md + m - b : Nat) : Int) := fun _ => by rw [wr_of] <;> omega
  obtain ⟨S, hS⟩ : ∃ S, S = if md < m then md + m - b else a := ⟨_, rfl⟩
  obtain ⟨R, hR⟩ : ∃ R, R = min m md := ⟨_, rfl⟩
  simp [w2, w3, w4, -Int.natCast_add]
  refine sem_cut (SymJ E H bs c ex n (.func g ga gc) X a m b md S R) (sem_run 9000 _ ?_) ?_
  · simp [-Int.natCast_add]
    refine sem_if (fun e => ?_) fun e => ?_
    · simp [w6 e, -Int.natCast_add]
      refine sem_ok ?_
      simp only [okQ_ok]
      refine ⟨?_, rfl⟩
      rw [hS, hR, if_pos e, Nat.min_eq_right (by omega)]
    · simp [-Int.natCast_add]
      refine sem_ok ?_
      simp only [okQ_ok]
      refine ⟨?_, rfl⟩
      rw [hS, hR, if_neg e, Nat.min_eq_left (by omega)]
  rintro fr _ ⟨rfl, rfl⟩
  refine sem_run 9000 _ ?_
  simp [w5, -Int.natCast_add]
  have hSR : a ≤ S ∧ S ≤ R ∧ R ≤ m ∧ R ≤ md ∧ md < b ∧ a < md ∧ md + m - S ≤ b ∧ m ≤ md + m - R := by
    rw [hS, hR]
    split <;> omega
  refine sem_loop (SymI3 E H bs c ex n (.func g ga gc) cmp X a m b md S R) ?_ (k := R - S) ⟨S, R, rfl, by omega, by omega, by omega, rfl, rfl, fun h => by omega, fun h => by omega⟩
  rintro k fr H' ⟨i, j, rfl, hSi, hij, hjR, rfl, rfl, hlo, hhi⟩
  refine sem_run 9000 _ ?_
  simp
  by_cases c2 : i < j
  · have v2 : wr .i64 ((i : Int) + j) = ((i + j : Nat) : Int) := by rw [wr_of] <;> omega
    have v3 := mid_of (n := i + j) (by omega)
    have hmid : i ≤ (i + j) / 2 ∧ (i + j) / 2 < j := by omega
    generalize (i + j) / 2 = t at v3 hmid
    have v4 : wr .i64 ((t : Int) + 1) = ((t + 1 : Nat) : Int) := by rw [wr_of] <;> omega
    have v5 : wr .i64 (((md + m - 1 : Nat) : Int) - t) = ((md + m - 1 - t : Nat) : Int) := by rw [wr_of] <;> omega
    obtain ⟨x, gx⟩ := get_of (X := X) (n := t) (by omega)
    obtain ⟨y, gy⟩ := get_of (X := X) (n := md + m - 1 - t) (by omega)
    have hxm : x ∈ X := List.mem_of_getElem? gx
    have hym : y ∈ X := List.mem_of_getElem? gy
    have l1 : t < n := by omega
    have l2 : md + m - 1 - t < n := by omega
    simp [c2, v2, v3, v5, gx, gy, l1, l2, hbs, -Int.natCast_add, -getElem?_pos]
    refine sem_dfn (hcall y x (hG y hym) (hG x hxm)) (by first | exact D.les_refl _ | simp) (sem_run 9000 _ ?_)
    simp
    by_cases c3 : cmp y x < 0
    · simp [c3]
      refine sem_ok ?_
      refine ⟨t - i, by omega, i, t, rfl, hSi, by omega, by omega, rfl, rfl, hlo, fun _ u v hu hv => ?_⟩
      rw [gx] at hu; rw [gy] at hv; cases hu; cases hv; exact c3
    · simp [c3, v4, -Int.natCast_add]
      refine sem_ok ?_
      refine ⟨j - (t + 1), by omega, t + 1, j, rfl, by omega, by omega, hjR, rfl, rfl, fun _ u v hu hv => ?_, hhi⟩
      rw [Nat.add_sub_cancel, gx] at hu
      rw [show md + m - (t + 1) = md + m - 1 - t by omega, gy] at hv
      cases hu; cases hv; exact c3
  obtain rfl : i = j := by omega
  have v6 : wr .i64 (((md + m : Nat) : Int) - i) = ((md + m - i : Nat) : Int) := by rw [wr_of] <;> omega
  simp
  refine sem_exit (sem_run 11 _ ?_)
  simp [v6, -Int.natCast_add]
  obtain ⟨e, he⟩ : ∃ e, e = md + m - i := ⟨_, rfl⟩
  rw [← he]
  refine sem_cut (SymJ2 E H bs c ex n (.func g ga gc) X a m b md i e) (sem_run 9000 _ ?_) ?_
  · simp
    by_cases d1 : i < m
    · by_cases d2 : m < e
      · simp [d1, d2]
        have sp := rotate L (E := E) (H := H) (c := c) (ex := ex) (X := X) (cv := .func g ga gc) hbs (by omega) d1 d2 (by omega)
        rw [hl] at sp
        refine sem_call sp ?_
        rintro _ _ ⟨rfl, Y, rfl, hp1, hr1⟩
        refine sem_run 9000 _ ?_
        simp
        refine sem_ok ?_
        exact ⟨Y, by simp, rfl, hp1, hr1⟩
      · simp [d1, d2]
        refine sem_ok ?_
        exact ⟨X, by simp, rfl, .refl _, rot_id (.inr (by omega)) (by omega) (by omega)⟩
    · simp [d1]
      refine sem_ok ?_
      exact ⟨X, by simp, rfl, .refl _, rot_id (.inl (by omega)) (by omega) (by omega)⟩
  rintro fr _ ⟨Y, ⟨e0, e1, e3, e4, e18, e20, e24⟩, rfl, hp1, hr1⟩
  have hm1 := rot_mix hr1 hp1 (a := a) (b := b) (by omega) (by omega) (by omega) (by omega)
  have h4 := sym4 hc hG h1 h2 ⟨by omega, by omega⟩ (by omega) hs1 hs2 hmd hS hR hSi hjR hlo hhi (he ▸ hr1)
  rw [← he] at h4
  have hlY : Y.length = n := hp1.length_eq.trans hl
  have hGY : ∀ x, x ∈ Y → G x := fun x h => hG x (hp1.mem_iff.1 h)
  refine sem_run 2 _ ?_
  simp
  refine sem_cut (SymJ3 E H bs c ex n (.func g ga gc) cmp Y a b md e) (sem_run 9000 _ ?_) ?_
  · simp [e1, e20]
    by_cases d1 : a < i
    · by_cases d2 : i < md
      · simp [d1, d2, e0, e1, e3, e4, e18, e20, e24]
        refine sem_call (ih (X := Y) (by omega) hlY hGY d1 d2 (by omega) h4.s1 h4.s2) ?_
        rintro _ _ ⟨rfl, Z, rfl, hm2, hz⟩
        refine sem_run 9000 _ ?_
        simp
        refine sem_ok ?_
        exact ⟨Z, by simp, rfl, hm2, hz⟩
      · simp [d1, d2, e0, e1, e3, e4, e18, e20, e24]
        refine sem_ok ?_
        obtain rfl : i = md := by omega
        exact ⟨Y, by simp, rfl, .refl, h4.s1⟩
    · simp [d1, e0, e1, e3, e4, e18, e20, e24]
      refine sem_ok ?_
      obtain rfl : i = a := by omega
      exact ⟨Y, by simp, rfl, .refl, h4.s2⟩
  rintro fr _ ⟨Z, ⟨e0, e3, e4, e18, e24⟩, rfl, hm2, hz⟩
  have hlZ : Z.length = n := hm2.perm.length_eq.trans hlY
  have hGZ : ∀ x, x ∈ Z → G x := fun x h => hGY x (hm2.perm.mem_iff.1 h)
  have z3 := Srt.of_out h4.s3 hm2 (.inr (Nat.le_refl _))
  have z4 := Srt.of_out h4.s4 hm2 (.inr (by omega))
  refine sem_run 9000 _ ?_
  simp [e18, e24]
  by_cases d1 : md < e
  · by_cases d2 : e < b
    · simp [d1, d2, e0, e3, e4, e18, e24]
      refine sem_call (ih (X := Z) (by omega) hlZ hGZ d1 d2 (by omega) z3 z4) ?_
      rintro _ _ ⟨rfl, W, rfl, hm3, hw3⟩
      refine sem_run 9000 _ ?_
      simp
      refine sem_ok ?_
      simp [M29]
      exact ⟨W, rfl, sym_end h4 hm1 ⟨by omega, by omega⟩ hm2 hz hm3 hw3⟩
    · simp [d1, d2, e0, e3, e4, e18, e24]
      refine sem_ok ?_
      simp [M29]
      obtain rfl : e = b := by omega
      exact ⟨Z, rfl, sym_end h4 hm1 ⟨by omega, by omega⟩ hm2 hz .refl z3⟩
  · simp [d1, e0, e3, e4, e18, e24]
    refine sem_ok ?_
    simp [M29]
    obtain rfl : e = md := by omega
    exact ⟨Z, rfl, sym_end h4 hm1 ⟨by omega, by omega⟩ hm2 hz .refl z4⟩
end Go.Lib
end
