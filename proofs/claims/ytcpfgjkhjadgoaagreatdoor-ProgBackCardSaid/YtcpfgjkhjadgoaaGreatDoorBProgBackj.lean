/-
 Texts that the claim's last one rests on, joined.
-/
import Derived.Test.YtcpfgjkhjadgoaaGreatDoorBProgBacki
import Derived.Test.YtcpfgjkhjadgoaaGreatDoorBProgBackf
import Derived.Test.YtcpfgjkhjadgoaaGreatDoorBProgBackg

section
set_option maxRecDepth 10000
namespace Go.Lib
open Go.Vm Go.Dv Go.Srt
variable {p : Prog} {ext : Ext} {F : Nat → Nat}
attribute [-simp] bin_and bin_xor
theorem pred_okG (L : HText p ext F) {s : Sch} {q : Pr} : FnD p ext (F 214) [schD s, .agg q.c] (.lit (.bool (lookF s 5 q 0).1)) := by
 refine fn_of L.h214 (M := M214) rfl ok214 rfl fun H => sem_run 9000 _ ?_;simp;refine sem_call (pred_lookG L 5 q _ 0 H.next (by simp) (by simp) (by omega) (by omega)) ?_;rintro d H2 ⟨rfl, e1, e2, e3⟩;refine sem_run 9000 _ ?_;simp;refine sem_ret ?_;simp [M214];simp at e2;exact .le ⟨by omega, fun x hx => by rw [e3 x (by simp; omega) (by omega), put_blk, if_neg (by omega), new_blk, if_neg (by omega)]⟩ (D.le_refl _) (by simp)
def PV : Nat → Pr → Prop
 | 0, _ => True
 | d + 1, q => In64 q.v.n ∧ ∀ x, x ∈ q.l → PV d x
theorem oneB_one {s : Sch} {q : Pr} (h : oneB s q = true) (hv : In64 q.v.n) : OneP s q := by
 unfold oneB bareB at h;split at h
 ·rename_i k;simp at h;exact .inl ⟨k, h.1.1, h.1.2.1, h.1.2.2, h.2⟩
 ·split at h
  ·rename_i k;simp at h;obtain ⟨a1, a2, a3, a4, a5, a6, a7, a8⟩ := h;have hci : q.col.toNat < s.length := (by omega);refine .inr (.inl ⟨k, ⟨a1, a2⟩, ⟨a3, a4⟩, a6, a5, ⟨s[q.col.toNat], List.getElem?_eq_getElem hci, ?_⟩, a8, hv⟩);rw [a7, List.getElem?_eq_getElem hci]; rfl
  ·split at h
   ·rename_i k;simp at h;exact .inr (.inr (.inl ⟨k, ⟨h.1, h.2.1⟩, h.2.2.1, h.2.2.2.1, h.2.2.2.2⟩))
   ·split at h
    ·rename_i k;simp at h;exact .inr (.inr (.inr (.inl ⟨k, h.1.1, h.1.2.1, h.1.2.2, by omega⟩)))
    ·split at h
     ·rename_i k;simp at h;exact .inr (.inr (.inr (.inr ⟨k, h.1.1, h.1.2.1, h.1.2.2, by omega⟩)))
     ·cases h
theorem lookL_all' {f : Pr → Nat → Bool × Nat} {P : Pr → Prop} : ∀ {l : List Pr} {n : Nat}, (∀ x n, x ∈ l → (f x n).1 = true → P x) → (lookL f l n).1 = true → ∀ x, x ∈ l → P x
 | [], n, _, _ => fun x hx => by simp at hx
 | y :: l, n, hp, h => fun x hx => by
  unfold lookL at h
  by_cases c : (f y n).1 = true
  ·rw [if_pos c] at h;rcases List.mem_cons.1 hx with rfl | hx
   ·exact hp _ _ List.mem_cons_self c
   ·exact lookL_all' (fun z m hz => hp z m (List.mem_cons_of_mem _ hz)) h x hx
  ·rw [if_neg c] at h; cases h
theorem look_right {s : Sch} : ∀ {d : Nat} {q : Pr} {n : Nat}, PV d q → (lookF s d q n).1 = true → PrL s d q
 | 0, q, n, _, h => by cases h
 | d + 1, q, n, hv, h => by
  unfold lookF at h
  by_cases c : 64 < n + 1 ∨ oneB s q = false
  ·rw [if_pos c] at h; cases h
  ·rw [if_neg c] at h
   have ho : oneB s q = true := by
    cases e : oneB s q with
    | true => rfl
    | false => exact absurd (.inr e) c
   exact ⟨oneB_one ho hv.1, lookL_all' (fun x m hx hx2 => look_right (hv.2 x hx) hx2) h⟩
def predN (s : Sch) (q : Pr) : List Nat := if (lookF s 5 q 0).1 = true then toldN s q else []
theorem text_predG {g : SG} (L : HTold p ext F g) {s : Sch} (hs : Shorts s) {q : Pr} (hv : PV 5 q) : FnD p ext (F 212) [schD s, .agg q.c] (.lit (.str (predN s q))) := by
 refine fn_of L.h212 (M := M212) rfl ok212 rfl fun H => sem_run 9000 _ ?_;simp;refine sem_fn (pred_okG L.text) (by first | exact D.les_refl _ | simp [schD, D.les_refl]) (sem_run 9000 _ ?_)
 cases h : (lookF s 5 q 0).1 with
 | true =>
  simp;refine sem_fn (text_told L hs 5 q (look_right hv h) (by omega)) (by first | exact D.les_refl _ | simp [schD, D.les_refl]) (sem_run 9000 _ ?_);simp;refine sem_ret ?_;simp [M212];rw [show predN s q = toldN s q by unfold predN; rw [if_pos h]];exact .le sR (D.le_refl _) (by simp)
 | false =>
  simp;refine sem_ret ?_;simp [M212];rw [show predN s q = [] by unfold predN; rw [if_neg (by rw [h]; simp)]];exact .le sR (D.le_refl _) (by simp)
theorem asV_in {k : Int} {s : List Nat} : In64 (parseV k s).1.n := by
 have h0 : In64 0 := (by unfold In64; omega);unfold parseV;split
 ·show In64 (asV k s).n;unfold asV;split
  ·exact h0
  ·split
   ·exact h0
   ·exact parse_in
 ·exact h0
theorem pv_leaf {d : Nat} {k c o : Int} {v : Vl} (h : In64 v.n) : PV d (.mk k c o v []) := by
 cases d with
 | zero => trivial
 | succ d => exact ⟨h, fun x hx => by simp [Pr.l] at hx⟩
theorem words_pv {d : Nat} {s : Sch} {t : List Nat} : PV d (wordsF s t).1 := by
 have h0 : In64 zv.n := (by show In64 0; unfold In64; omega);unfold wordsF;generalize Vm.splitN t [32] = l;unfold wordsL;split
 ·split
  ·exact pv_leaf h0
  ·exact pv_leaf h0
 ·split
  ·exact pv_leaf h0
  ·exact pv_leaf asV_in
 ·exact pv_leaf h0
theorem all_pv {f : List Nat → Pr × Bool} {k : Int} (hf : ∀ d x, PV d (f x).1) : ∀ {l : List (List Nat)} {acc : List Pr} {d : Nat}, (∀ d y, y ∈ acc → PV d y) → PV d (allF f k l acc).1
 | [], acc, d, h => by
  cases d with
  | zero => trivial
  | succ d => exact ⟨by show In64 0; unfold In64; omega, fun x hx => h d x hx⟩
 | x :: l, acc, d, h => by
  unfold allF;split
  ·refine all_pv hf fun d y hy => ?_;rcases List.mem_append.1 hy with hy | hy
   ·exact h d y hy
   ·simp at hy; subst hy; exact hf d x
  ·exact pv_leaf (by show In64 0; unfold In64; omega)
theorem read_pv {s : Sch} : ∀ {n : Nat} {d : Nat} {t : List Nat}, PV d (readF s n t).1
 | 0, d, t => by
  unfold readF;split
  ·exact words_pv
  ·exact pv_leaf (by show In64 0; unfold In64; omega)
 | n + 1, d, t => by
  unfold readF;split
  ·exact words_pv
  ·split
   ·exact pv_leaf (by show In64 0; unfold In64; omega)
   ·exact all_pv (fun d x => read_pv) fun d y hy => by simp at hy
def parseP (s : Sch) (t : List Nat) : Pr × Bool := if (readF s 5 t).2 = true ∧ t ≠ [] ∧ predN s (readF s 5 t).1 = t then ((readF s 5 t).1, true) else (prN 0, false)
structure HParse (p : Prog) (ext : Ext) (F : Nat → Nat) (g : SG) : Prop where
 read : HRead p ext F g
 told : HTold p ext F g
 h231 : Has p ext F 231 M231
theorem text_parsePred {g : SG} (L : HParse p ext F g) {s : Sch} (hs : s.length < 1000000) (hn : Shorts s) {t : List Nat} (hl : t.length < 100000) (ht : ∀ c, c ∈ t → c < 256) : FnD p ext (F 231) [schD s, .lit (.str t)] (.tup [.agg (parseP s t).1.c, .lit (.bool (parseP s t).2)]) := by
 refine fn_of L.h231 (M := M231) rfl ok231 rfl fun H => sem_run 9000 _ ?_;simp;refine sem_fn (text_read L.read hs 5 t (by omega) hl ht) (by first | exact D.les_refl _ | simp [schD, D.les_refl]) (sem_run 9000 _ ?_);have hpv := read_pv (s := s) (n := 5) (d := 5) (t := t);obtain ⟨q, b, hq⟩ : ∃ q b, readF s 5 t = (q, b) := ⟨_, _, rfl⟩;rw [hq] at hpv ⊢
 have hP : parseP s t = if b = true ∧ t ≠ [] ∧ predN s q = t then (q, true) else (prN 0, false) := by unfold parseP; rw [hq]
 cases b with
 | false =>
  simp;refine sem_ret ?_;simp [M231];rw [show parseP s t = (prN 0, false) by rw [hP, if_neg (by rintro ⟨h, _⟩; cases h)]];exact .le sR (by simp [prN, Pr.c, Pr.cs_map, zv, byD, byE, D.le, D.les]) (by simp [D.under])
 | true =>
  by_cases h1 : t = []
  ·simp [neqs_dec, h1];refine sem_ret ?_;simp [M231];rw [show parseP s [] = (prN 0, false) by rw [← h1, hP, if_neg fun h => h.2.1 h1]];exact .le sR (by simp [prN, Pr.c, Pr.cs_map, zv, byD, byE, D.le, D.les]) (by simp [D.under])
  ·simp [neqs_dec, h1];refine sem_fn (text_predG L.told hn hpv) (by first | exact D.les_refl _ | simp [schD, D.les_refl]) (sem_run 9000 _ ?_)
   by_cases h2 : predN s q = t
   ·simp [neqs_dec, h2];refine sem_ret ?_;simp [M231];rw [show parseP s t = (q, true) by rw [hP, if_pos ⟨rfl, h1, h2⟩]];exact .le sR (D.le_refl _) (by simp [D.under])
   ·simp [neqs_dec, h2];refine sem_ret ?_;simp [M231];rw [show parseP s t = (prN 0, false) by rw [hP, if_neg fun h => h2 h.2.2]];exact .le sR (by simp [prN, Pr.c, Pr.cs_map, zv, byD, byE, D.le, D.les]) (by simp [D.under])
end Go.Lib
end

section
namespace Go.Lib
open Go.Vm Go.Dv
set_option maxRecDepth 100000
end Go.Lib
end

section
set_option maxRecDepth 10000
namespace Go.Lib
open Go.Vm Go.Dv Go.Srt
variable {p : Prog} {ext : Ext} {F : Nat → Nat}
structure Op where
 kind : Int
 row : Row
 pred : Pr
 sets : List Sx
 cols : List Int
 group : Int
 aggs : List Ag
def Op.c (o : Op) : List D := [.lit (.int .i64 o.kind), rowD o.row] ++ o.pred.c ++ [sxsD o.sets, intsD .p o.cols, .lit (.int .i64 o.group), agsD o.aggs]
theorem op_c {o : Op} : o.c = [.lit (.int .i64 o.kind), rowD o.row, .lit (.int .i64 o.pred.kind), .lit (.int .i64 o.pred.col), .lit (.int .i64 o.pred.op), .lit (.bool o.pred.v.null), .lit (.int .i64 o.pred.v.kind), .lit (.int .i64 o.pred.v.n), byD o.pred.v.bytes, prsD o.pred.l, sxsD o.sets, intsD .p o.cols, .lit (.int .i64 o.group), agsD o.aggs] := by
 rw [Op.c, pr_c]; rfl
theorem op_0 {o : Op} : o.c[0]? = some (.lit (.int .i64 o.kind)) := by rw [op_c]; rfl
theorem op_1 {o : Op} : o.c[1]? = some (rowD o.row) := by rw [op_c]; rfl
theorem op_10 {o : Op} : o.c[10]? = some (sxsD o.sets) := by rw [op_c]; rfl
theorem op_11 {o : Op} : o.c[11]? = some (intsD .p o.cols) := by rw [op_c]; rfl
theorem op_12 {o : Op} : o.c[12]? = some (.lit (.int .i64 o.group)) := by rw [op_c]; rfl
theorem op_13 {o : Op} : o.c[13]? = some (agsD o.aggs) := by rw [op_c]; rfl
theorem op_len {o : Op} : o.c.length = 14 := by rw [op_c]; rfl
theorem op_pred {o : Op} : (o.c.drop 2).take 8 = o.pred.c := by rw [op_c, pr_c]; rfl
theorem op_g {q : Op} {i : Nat} {d : D} (h : q.c[i]? = some d) (hi : i < q.c.length) : q.c[i] = d := (List.getElem?_eq_some_iff.1 h).2
theorem op_g0 {q : Op} (h : 0 < q.c.length) : q.c[0] = .lit (.int .i64 q.kind) := op_g op_0 h
theorem op_g1 {q : Op} (h : 1 < q.c.length) : q.c[1] = rowD q.row := op_g op_1 h
theorem op_g10 {q : Op} (h : 10 < q.c.length) : q.c[10] = sxsD q.sets := op_g op_10 h
theorem op_g11 {q : Op} (h : 11 < q.c.length) : q.c[11] = intsD .p q.cols := op_g op_11 h
theorem op_g12 {q : Op} (h : 12 < q.c.length) : q.c[12] = .lit (.int .i64 q.group) := op_g op_12 h
theorem op_g13 {q : Op} (h : 13 < q.c.length) : q.c[13] = agsD q.aggs := op_g op_13 h
theorem op_take {q : Op} : q.c.take 14 = q.c := List.take_of_length_le (by rw [op_len]; exact Nat.le_refl _)
theorem op_flats {q : Op} : flatsD q.c = true := by rw [op_c]; rfl
attribute [simp] op_0 op_1 op_10 op_11 op_12 op_13 op_len op_pred op_g0 op_g1 op_g10 op_g11 op_g12 op_g13 op_take op_flats
end Go.Lib
end

section
set_option maxRecDepth 10000
namespace Go.Lib
open Go.Vm Go.Dv Go.Srt
variable {p : Prog} {ext : Ext} {F : Nat → Nat}
end Go.Lib
end

section
set_option maxRecDepth 10000
namespace Go.Lib
open Go.Vm Go.Dv Go.Srt
variable {p : Prog} {ext : Ext} {F : Nat → Nat}
end Go.Lib
end

section
set_option maxRecDepth 10000
namespace Go.Lib
open Go.Vm Go.Dv Go.Srt
variable {p : Prog} {ext : Ext} {F : Nat → Nat}
def opsD (l : List Op) : D := .row 14 .p (l.map Op.c)
theorem ops_len {l : List Op} : lenbD (opsD l) = some (.lit (.int .i64 (l.length : Int))) := by simp [opsD]
theorem at_ops {l : List Op} {n : Nat} : atO 14 (opsD l) (some n) = elemD (l[n]?.map Op.c) := by simp [opsD]
attribute [simp] ops_len at_ops
end Go.Lib
end

section
set_option maxRecDepth 10000
namespace Go.Lib
open Go.Vm Go.Dv Go.Srt
attribute [-simp] bin_and bin_xor
def nV (n : Int) : Vl := ⟨false, 1, n, [], by simp⟩
def pr0 : Pr := .mk 0 0 0 zv []
def prT : Pr := .mk 1 0 0 zv []
def prK (n : Int) : Pr := .mk 2 0 1 (nV n) []
def insO (r : Row) : Op := ⟨1, r, pr0, [], [], 0, []⟩
def scanO (q : Pr) (c : List Int) : Op := ⟨4, [], q, [], c, 0, []⟩
def delO (q : Pr) : Op := ⟨3, [], q, [], [], 0, []⟩
def setO (q : Pr) (x : Sx) : Op := ⟨2, [], q, [x], [], 0, []⟩
def aggO (q : Pr) (g : Int) (l : List Ag) : Op := ⟨5, [], q, [], [], g, l⟩
def rollO : Op := ⟨6, [], pr0, [], [], 0, []⟩
theorem sxs_under {n : Nat} {l : List Sx} : (sxsD l).under n := by simp only [sxsD, D.under]; exact underss_map (fun _ => sx_unders) _
theorem ags_under {n : Nat} {l : List Ag} : (agsD l).under n := by simp only [agsD, D.under]; exact underss_map (fun _ => by simp [Ag.c]) _
theorem op_unders {n : Nat} {o : Op} : D.unders n o.c := by
 rw [op_c]; simp [D.unders, row_under, by_under, prs_under, ints_under, sxs_under, ags_under]
def numP (l : List Int) (a : Nat) : Int := (l[a]?).getD (wr .i64 ((a : Int) * 7919))
def kP (d : Nat) (n : Int) : Int := if d ≤ 1 ∧ 4 < andI n 7 then andI n 7 - 4 else andI n 7
def cP (s : Sch) (n : Int) : Int := Int.tmod (andI (shrI .i64 n 3) 255) (s.length : Int)
def vP (s : Sch) (n : Int) : Vl := if cP s n = 0 then nV (andI (shrI .i64 n 11) 15) else match s[(cP s n).toNat]? with
 | some c => valF ⟨c.name, c.kind, false⟩ (shrI .i64 n 11)
 | none => zv
def leafP (s : Sch) (n : Int) : Pr := .mk 2 (cP s n) (Int.tmod (andI (shrI .i64 n 17) 255) 6 + 1) (vP s n) []
def sonsP (n : Int) (son : Nat → Pr) : List Pr := (List.range (andI (shrI .i64 n 11) 3).toNat).map son
def predG (s : Sch) (n k : Int) (son : Nat → Pr) : Pr :=
 if k = 0 then prT else if k = 1 then .mk 3 (cP s n) 0 zv []
 else if k = 5 ∨ k = 6 then .mk (k - 1) 0 0 zv (sonsP n son)
 else if k = 7 then .mk 6 0 0 zv [son 0] else leafP s n
def predF (s : Sch) (l : List Int) : Nat → Nat → Pr
 | 0, a => predG s (numP l a) (kP 0 (numP l a)) fun _ => prT
 | d + 1, a => predG s (numP l a) (kP (d + 1) (numP l a)) fun i => predF s l d (3 * a + i + 1)
theorem kP_at {d : Nat} {n : Int} : ∃ k : Nat, kP d n = k ∧ k ≤ 7 ∧ (d ≤ 1 → k ≤ 4) := by
 obtain ⟨q, hq, h1⟩ := andI_small (a := n) (m := 7) (by simp);have hq' : andI n 7 = q := hq;unfold kP;rw [hq'];split
 ·exact ⟨q - 4, by omega, by omega, by omega⟩
 ·exact ⟨q, rfl, h1, by omega⟩
def numO (l : List Int) (a : Nat) : Int := match l[a % l.length]? with
 | some x => wr .i64 (x + wr .i64 ((a : Int) * 7919))
 | none => 0
def predO (s : Sch) (l : List Int) (a : Nat) : Pr := if andI (shrI .i64 (numO l a) 3) 3 = 0 then prK (andI (shrI .i64 (numO l a) 5) 15) else predF s l 3 (a % 7)
def colO (s : Sch) (n : Int) : Int := Int.tmod (andI (shrI .i64 n 9) 255) (s.length : Int)
def addO (cl : Cl) (n : Int) : Bool := decide (cl.kind = 1) && !(valF cl (shrI .i64 n 17)).null && decide (andI (shrI .i64 n 13) 1 = 1)
def sxO (c : Int) (cl : Cl) (n : Int) : Sx := ⟨c, addO cl n, valF cl (shrI .i64 n 17)⟩
def opG (s : Sch) (n k c : Int) (q : Pr) : Op :=
 if k ≤ 2 then insO (rowF s (shrI .i64 n 5))
 else if k ≤ 4 then (if 0 < c then setO q (match s[c.toNat]? with | some cl => sxO c cl n | none => ⟨0, false, zv⟩) else delO q)
 else if k = 5 then scanO q [c, 0]
 else if k = 6 then aggO q (wr .i64 (c - wr .i64 (andI (shrI .i64 n 14) 1 * wr .i64 (c + 1)))) [⟨1, 0⟩, ⟨wr .i64 (3 + andI (shrI .i64 n 15) 1), c⟩, ⟨2, 0⟩]
 else if andI (shrI .i64 n 18) 7 = 0 then rollO else delO q
def opF (s : Sch) (l : List Int) (a : Nat) : Op := opG s (numO l a) (andI (numO l a) 7) (colO s (numO l a)) (predO s l a)
end Go.Lib
end

section
set_option maxRecDepth 10000
namespace Go.Lib
open Go.Vm Go.Dv Go.Srt
def NameOk (x : List Nat) : Prop := 1 ≤ x.length ∧ x.length ≤ 8 ∧ ∀ c, c ∈ x → 97 ≤ c ∧ c ≤ 122
structure OkS (s : Sch) : Prop where
 names : ∀ c, c ∈ s → NameOk c.name
 inj : ∀ (i j : Nat) (c c' : Cl), s[i]? = some c → s[j]? = some c' → c.name = c'.name → i = j
 kinds : ∀ c, c ∈ s → c.kind = 1 ∨ c.kind = 2
 len : 1 ≤ s.length ∧ s.length ≤ 6
 key : ∃ c, s[0]? = some c ∧ c.kind = 1 ∧ c.null = false
def holdsB (c : Cl) (v : Vl) : Bool := isB v && decide (v.kind = c.kind) && (c.null || !v.null)
def fitsB : Sch → Row → Bool
 | [], [] => true
 | c :: s, v :: r => holdsB c v && fitsB s r
 | _, _ => false
theorem fitsB_len : ∀ {s : Sch} {r : Row}, fitsB s r = true → r.length = s.length
 | [], [], _ => rfl
 | c :: s, v :: r, h => by
  unfold fitsB at h;rw [Bool.and_eq_true] at h;have := fitsB_len h.2;simp [this]
 | [], v :: r, h => by cases h
 | c :: s, [], h => by cases h
theorem fitsB_ne {s : Sch} {r : Row} (h : r.length ≠ s.length) : fitsB s r = false := by
 rw [Bool.eq_false_iff]; exact fun e => h (fitsB_len e)
def inB (s : Sch) (c : Int) : Bool := decide (0 ≤ c ∧ c < s.length)
def colK (s : Sch) (c : Int) : Cl := (s[c.toNat]?).getD ⟨[], 0, false⟩
def setB (s : Sch) (x : Sx) : Bool := inB s x.col && !decide (x.col = 0) && holdsB (colK s x.col) x.v && (!x.add || (decide ((colK s x.col).kind = 1) && !x.v.null))
def setsGo (s : Sch) : List Sx → List Sx → Bool
 | _, [] => true
 | pre, x :: r => setB s x && !(pre.any fun y => decide (y.col = x.col)) && setsGo s (pre ++ [x]) r
def setsB (s : Sch) (l : List Sx) : Bool := setsGo s [] l && decide (1 ≤ l.length ∧ l.length ≤ 4)
def aggB (s : Sch) (a : Ag) : Bool := if a.kind = 1 then decide (a.col = 0) else if a.kind = 2 then inB s a.col && decide ((colK s a.col).kind = 1) else if a.kind = 3 ∨ a.kind = 4 then inB s a.col else false
def colsB (s : Sch) (l : List Int) : Bool := decide (1 ≤ l.length ∧ l.length ≤ 6) && !(l.any fun c => !inB s c)
def aggsB (s : Sch) (l : List Ag) : Bool := decide (1 ≤ l.length ∧ l.length ≤ 4) && !(l.any fun a => !aggB s a)
def okP (s : Sch) (q : Pr) : Bool := (lookF s 5 q 0).1
def exprB (s : Sch) (o : Op) : Bool :=
 if o.kind = 1 then decide (o.pred.kind = 0) && fitsB s o.row
 else if o.kind = 2 then okP s o.pred && setsB s o.sets
 else if o.kind = 3 then okP s o.pred
 else if o.kind = 4 then okP s o.pred && colsB s o.cols
 else if o.kind = 5 then okP s o.pred && (decide (o.group = -1) || inB s o.group) && aggsB s o.aggs
 else if o.kind = 6 then decide (o.pred.kind = 0)
 else false
def setT (s : Sch) (x : Sx) : List Nat := nameS s x.col ++ (if x.add = true then [43, 61] else [61]) ++ valN x.v
def aggW : List (List Nat) := [[], [99, 111, 117, 110, 116], [115, 117, 109], [109, 105, 110], [109, 97, 120]]
def aggT (s : Sch) (a : Ag) : List Nat := (aggW[a.kind.toNat]?).getD [] ++ (if a.kind = 1 then [] else [40] ++ nameS s a.col ++ [41])
def groupT (s : Sch) (g : Int) : List Nat := if g < 0 then [45] else nameS s g
def whereN : List Nat := [32, 119, 104, 101, 114, 101, 32]
def headT (s : Sch) (o : Op) : List Nat :=
 if o.kind = 1 then [105, 110, 115, 101, 114, 116, 32] ++ joinN (o.row.map valN) [44]
 else if o.kind = 2 then [117, 112, 100, 97, 116, 101, 32] ++ joinN (o.sets.map (setT s)) [44]
 else if o.kind = 3 then [100, 101, 108, 101, 116, 101]
 else if o.kind = 4 then [115, 99, 97, 110, 32] ++ joinN (o.cols.map (nameS s)) [44]
 else if o.kind = 5 then [97, 103, 103, 32] ++ groupT s o.group ++ [32] ++ joinN (o.aggs.map (aggT s)) [44]
 else [114, 111, 108, 108, 98, 97, 99, 107]
def opT (s : Sch) (o : Op) : List Nat := if 2 ≤ o.kind ∧ o.kind ≤ 5 then headT s o ++ (whereN ++ toldN s o.pred) else headT s o
def opTx (s : Sch) (o : Op) : List Nat := if exprB s o = true then opT s o else []
def trimSN (s q : List Nat) : List Nat := (cutSN s q).1
def setRd (s : Sch) (t : List Nat) : Sx × Bool :=
 if findC s (cutSN (cutN t [61]).1 [43]).1 < 0 then (⟨0, false, zv⟩, false)
 else (⟨colI s (cutSN (cutN t [61]).1 [43]).1, (cutSN (cutN t [61]).1 [43]).2, (parseV (colK s (colI s (cutSN (cutN t [61]).1 [43]).1)).kind (cutN t [61]).2.1).1⟩,
  (parseV (colK s (colI s (cutSN (cutN t [61]).1 [43]).1)).kind (cutN t [61]).2.1).2)
def aggP (s : Sch) (t : List Nat) : Ag × Bool :=
 if (cutN t [40]).2.2 = false then (⟨max (findN aggW (cutN t [40]).1) 0, 0⟩, true)
 else (⟨max (findN aggW (cutN t [40]).1) 0, colI s (trimSN (cutN t [40]).2.1 [41])⟩, decide (0 ≤ findC s (trimSN (cutN t [40]).2.1 [41])))
def rowP (s : Sch) (i : Nat) (t : List Nat) : Vl × Bool := match s[i]? with
 | some c => parseV c.kind t
 | none => (zv, false)
def colP (s : Sch) (t : List Nat) : Int × Bool := (colI s t, decide (0 ≤ findC s t))
def parsF {α : Type} (f : Nat → List Nat → α × Bool) : Nat → List (List Nat) → List α → List α × Bool
 | _, [], acc => (acc, true)
 | i, x :: l, acc => if (f i x).2 = true then parsF f (i + 1) l (acc ++ [(f i x).1]) else ([], false)
def partF {α : Type} (f : Nat → List Nat → α × Bool) (t : List Nat) : List α × Bool := parsF f 0 (Vm.splitN t [44]) []
def op0 : Op := ⟨0, [], pr0, [], [], 0, []⟩
def bodyF (s : Sch) (t : List Nat) : Op × Bool :=
 if (cutN t [32]).1 = [105, 110, 115, 101, 114, 116] then (⟨1, (partF (rowP s) (cutN t [32]).2.1).1, pr0, [], [], 0, []⟩, (partF (rowP s) (cutN t [32]).2.1).2)
 else if (cutN t [32]).1 = [117, 112, 100, 97, 116, 101] then (⟨2, [], pr0, (partF (fun _ => setRd s) (cutN t [32]).2.1).1, [], 0, []⟩, (partF (fun _ => setRd s) (cutN t [32]).2.1).2)
 else if (cutN t [32]).1 = [100, 101, 108, 101, 116, 101] then (⟨3, [], pr0, [], [], 0, []⟩, true)
 else if (cutN t [32]).1 = [115, 99, 97, 110] then (⟨4, [], pr0, [], (partF (fun _ => colP s) (cutN t [32]).2.1).1, 0, []⟩, (partF (fun _ => colP s) (cutN t [32]).2.1).2)
 else if (cutN t [32]).1 = [97, 103, 103] then
  (⟨5, [], pr0, [], [], if (cutN (cutN t [32]).2.1 [32]).1 = [45] then -1 else colI s (cutN (cutN t [32]).2.1 [32]).1, (partF (fun _ => aggP s) (cutN (cutN t [32]).2.1 [32]).2.1).1⟩,
   (decide ((cutN (cutN t [32]).2.1 [32]).1 = [45]) || decide (0 ≤ findC s (cutN (cutN t [32]).2.1 [32]).1)) && (partF (fun _ => aggP s) (cutN (cutN t [32]).2.1 [32]).2.1).2)
 else if (cutN t [32]).1 = [114, 111, 108, 108, 98, 97, 99, 107] then (rollO, true)
 else (op0, false)
def withP (o : Op) (q : Pr) : Op := ⟨o.kind, o.row, q, o.sets, o.cols, o.group, o.aggs⟩
def fullF (s : Sch) (t : List Nat) : Option Nat → Op × Bool
 | none => bodyF s t
 | some k => (withP (bodyF s (t.take k)).1 (parseP s (t.drop (k + 7))).1, (bodyF s (t.take k)).2 && (parseP s (t.drop (k + 7))).2)
def toldF (s : Sch) (t : List Nat) (k : Option Nat) : Op × Bool :=
 if (fullF s t k).2 = true ∧ t ≠ [] ∧ opTx s (fullF s t k).1 = t then ((fullF s t k).1, true) else (op0, false)
def tryF (s : Sch) (t : List Nat) : Nat → Nat → Op × Bool
 | 0, _ => toldF s t none
 | n + 1, fm => match indexN (t.drop fm) whereN with
  | none => toldF s t none
  | some i => if (toldF s t (some (fm + i))).2 = true then ((toldF s t (some (fm + i))).1, true) else tryF s t n (fm + i + 1)
def parseO (s : Sch) (t : List Nat) : Op × Bool := tryF s t 3 0
theorem toldF_right {s : Sch} {t : List Nat} {k : Option Nat} (h : (toldF s t k).2 = true) : exprB s (toldF s t k).1 = true ∧ opTx s (toldF s t k).1 = t ∧ toldF s t k = fullF s t k := by
 unfold toldF at h ⊢;split at h
 ·rename_i hh;rw [if_pos hh];obtain ⟨h1, h2, h3⟩ := hh;refine ⟨?_, h3, ?_⟩
  ·unfold opTx at h3;split at h3
   ·rename_i e; exact e
   ·exact absurd h3.symm h2
  ·rw [← h1]
 ·cases h
theorem tryF_right {s : Sch} {t : List Nat} : ∀ {n fm : Nat}, (tryF s t n fm).2 = true → opTx s (tryF s t n fm).1 = t
 | 0, _, h => (toldF_right h).2.1
 | n + 1, fm, h => by
  unfold tryF at h ⊢;split at h
  ·exact (toldF_right h).2.1
  ·split at h
   ·rename_i e2; rw [if_pos e2]; exact (toldF_right e2).2.1
   ·rename_i e2; rw [if_neg e2]; exact tryF_right h
def kindsL : List (List Nat) := [[], [105, 110, 116], [98, 121, 116, 101, 115]]
def colT (c : Cl) : List Nat := c.name ++ [58] ++ (kindsL[c.kind.toNat]?).getD [] ++ (if c.null = true then [63] else [])
def schT (s : Sch) : List Nat := joinN (s.map colT) [44]
def colR (t : List Nat) : Cl := ⟨(cutN t [58]).1, max (findN kindsL (cutSN (cutN t [58]).2.1 [63]).1) 0, (cutSN (cutN t [58]).2.1 [63]).2⟩
end Go.Lib
end

section
set_option maxRecDepth 10000
namespace Go.Lib
open Go.Vm Go.Dv Go.Srt
variable {p : Prog} {ext : Ext} {F : Nat → Nat}
attribute [-simp] bin_and bin_xor
def idxF {α : Type} (f : α → Bool) (l : List α) : Int := match l.findIdx? f with
 | some i => i
 | none => -1
theorem idxF_at {α : Type} {f : α → Bool} {l : List α} {i : Nat} {y : α} (h1 : ∀ (j : Nat) z, j < i → l[j]? = some z → f z = false) (h2 : l[i]? = some y) (h3 : f y = true) : idxF f l = i := by
 obtain ⟨hi, h4⟩ := List.getElem?_eq_some_iff.1 h2
 have : l.findIdx? f = some i := by
  rw [List.findIdx?_eq_some_iff_getElem];exact ⟨hi, by rw [h4]; exact h3, fun j hj => by rw [h1 j _ hj (List.getElem?_eq_getElem (by omega))]; simp⟩
 unfold idxF; rw [this]
theorem idxF_no {α : Type} {f : α → Bool} {l : List α} (h : ∀ (j : Nat) z, j < l.length → l[j]? = some z → f z = false) : idxF f l = -1 := by
 have : l.findIdx? f = none := by
  rw [List.findIdx?_eq_none_iff];intro y hy;obtain ⟨j, hj, e⟩ := List.getElem_of_mem hy;exact h j y hj (by rw [List.getElem?_eq_getElem hj, e])
 unfold idxF; rw [this]
theorem idxF_any {α : Type} {f : α → Bool} {l : List α} : decide (0 ≤ idxF f l) = l.any f := by
 unfold idxF
 cases h : l.findIdx? f with
 | none =>
  rw [List.findIdx?_eq_none_iff] at h;have : l.any f = false := (by rw [List.any_eq_false]; intro x hx; rw [h x hx]; simp);rw [this]; rfl
 | some i =>
  obtain ⟨hi, h1, _⟩ := List.findIdx?_eq_some_iff_getElem.1 h;have : l.any f = true := List.any_eq_true.2 ⟨l[i], List.getElem_mem hi, h1⟩;rw [this];exact decide_eq_true (by show (0 : Int) ≤ (i : Int); omega)
abbrev intsP (l : List Int) : D := intsD .p l
def IxIC (H0 : HpD) (f : Cl → Bool) (l : List Cl) (fv : D) (w : Nat) (fr : FrD) (H : HpD) : Prop :=
 ∃ i : Nat, w = l.length - i ∧ i ≤ l.length ∧ (∀ (j : Nat) z, j < i → l[j]? = some z → f z = false) ∧ fr = [(0, schR l), (1, fv), (7, .lit (.int .i64 (l.length : Int))), (8, .lit (.int .i64 (i : Int)))] ∧ Sub H0 H
theorem ixC (L : Has p ext F 239 M239) {g : Nat} {cap : D} {f : Cl → Bool} {l : List Cl} (hl : l.length < 1000000) (hf : ∀ y, FnD p ext g [.agg y.c, cap] (.lit (.bool (f y)))) : FnD p ext (F 239) [schR l, .func g [] [cap]] (.lit (.int .i64 (idxF f l))) := by
 refine fn_of L (M := M239) rfl ok239 rfl fun H => sem_run 9000 _ ?_;simp;refine sem_loop (IxIC H f l (.func g [] [cap])) ?_ (k := l.length) ⟨0, by simp, by simp, by simp, rfl, sR⟩;rintro w fr H' ⟨i, rfl, hi, hn, rfl, sb⟩
 by_cases c : i < l.length
 ·obtain ⟨y, hy⟩ : ∃ y, l[i]? = some y := ⟨_, List.getElem?_eq_getElem c⟩;have hyi : l[i] = y := (by rw [List.getElem?_eq_getElem c] at hy; exact Option.some.inj hy);refine sem_run 9000 _ ?_;simp;simp [c, hyi];refine sf (hf y) ?_
  cases e : f y with
  | true =>
   simp;refine sem_ret ?_;simp [M239];refine sem_ret ?_;simp;rw [idxF_at hn hy e];exact .le sb (D.le_refl _) (by simp)
  | false =>
   simp;refine sem_ok ?_;have hw : wr .i64 ((i : Int) + 1) = ((i + 1 : Nat) : Int) := (by rw [wr_of] <;> omega);refine ⟨_, by omega, i + 1, rfl, by omega, fun j z hj hz => ?_, by rw [hw], sb⟩;rcases (by omega : j < i ∨ j = i) with h | rfl
   ·exact hn j z h hz
   ·rw [hy] at hz; cases hz; exact e
 ·have : i = l.length := (by omega);subst this;refine sem_run 9000 _ ?_;simp;refine sem_exit (sem_run 9000 _ ?_);simp;refine sem_ret ?_;simp [M239];rw [idxF_no hn];exact .le sb (D.le_refl _) (by simp)
theorem conC (L : Has p ext F 239 M239) (L2 : Has p ext F 266 M266) {g : Nat} {cap : D} {f : Cl → Bool} {l : List Cl} (hl : l.length < 1000000) (hf : ∀ y, FnD p ext g [.agg y.c, cap] (.lit (.bool (f y)))) : FnD p ext (F 266) [schR l, .func g [] [cap]] (.lit (.bool (l.any f))) := by
 refine fn_of L2 (M := M266) rfl ok266 rfl fun H => sem_run 9000 _ ?_;simp;refine sf (ixC L hl hf) ?_;simp;refine sem_ret ?_;simp [M266];rw [idxF_any];exact .le sR (D.le_refl _) (by simp)
def IxII (H0 : HpD) (f : Int → Bool) (l : List Int) (fv : D) (w : Nat) (fr : FrD) (H : HpD) : Prop :=
 ∃ i : Nat, w = l.length - i ∧ i ≤ l.length ∧ (∀ (j : Nat) z, j < i → l[j]? = some z → f z = false) ∧ fr = [(0, intsP l), (1, fv), (7, .lit (.int .i64 (l.length : Int))), (8, .lit (.int .i64 (i : Int)))] ∧ Sub H0 H
theorem ixI (L : Has p ext F 283 M283) {g : Nat} {cap : D} {f : Int → Bool} {l : List Int} (hl : l.length < 1000000) (hf : ∀ y, FnD p ext g [.lit (.int .i64 y), cap] (.lit (.bool (f y)))) : FnD p ext (F 283) [intsP l, .func g [] [cap]] (.lit (.int .i64 (idxF f l))) := by
 refine fn_of L (M := M283) rfl ok283 rfl fun H => sem_run 9000 _ ?_;simp;refine sem_loop (IxII H f l (.func g [] [cap])) ?_ (k := l.length) ⟨0, by simp, by simp, by simp, rfl, sR⟩;rintro w fr H' ⟨i, rfl, hi, hn, rfl, sb⟩
 by_cases c : i < l.length
 ·obtain ⟨y, hy⟩ : ∃ y, l[i]? = some y := ⟨_, List.getElem?_eq_getElem c⟩;have hyi : l[i] = y := (by rw [List.getElem?_eq_getElem c] at hy; exact Option.some.inj hy);refine sem_run 9000 _ ?_;simp;simp [c, hyi];refine sf (hf y) ?_
  cases e : f y with
  | true =>
   simp;refine sem_ret ?_;simp [M283];refine sem_ret ?_;simp;rw [idxF_at hn hy e];exact .le sb (D.le_refl _) (by simp)
  | false =>
   simp;refine sem_ok ?_;have hw : wr .i64 ((i : Int) + 1) = ((i + 1 : Nat) : Int) := (by rw [wr_of] <;> omega);refine ⟨_, by omega, i + 1, rfl, by omega, fun j z hj hz => ?_, by rw [hw], sb⟩;rcases (by omega : j < i ∨ j = i) with h | rfl
   ·exact hn j z h hz
   ·rw [hy] at hz; cases hz; exact e
 ·have : i = l.length := (by omega);subst this;refine sem_run 9000 _ ?_;simp;refine sem_exit (sem_run 9000 _ ?_);simp;refine sem_ret ?_;simp [M283];rw [idxF_no hn];exact .le sb (D.le_refl _) (by simp)
theorem conI (L : Has p ext F 283 M283) (L2 : Has p ext F 271 M271) {g : Nat} {cap : D} {f : Int → Bool} {l : List Int} (hl : l.length < 1000000) (hf : ∀ y, FnD p ext g [.lit (.int .i64 y), cap] (.lit (.bool (f y)))) : FnD p ext (F 271) [intsP l, .func g [] [cap]] (.lit (.bool (l.any f))) := by
 refine fn_of L2 (M := M271) rfl ok271 rfl fun H => sem_run 9000 _ ?_;simp;refine sf (ixI L hl hf) ?_;simp;refine sem_ret ?_;simp [M271];rw [idxF_any];exact .le sR (D.le_refl _) (by simp)
def IxIA (H0 : HpD) (f : Ag → Bool) (l : List Ag) (fv : D) (w : Nat) (fr : FrD) (H : HpD) : Prop :=
 ∃ i : Nat, w = l.length - i ∧ i ≤ l.length ∧ (∀ (j : Nat) z, j < i → l[j]? = some z → f z = false) ∧ fr = [(0, agsD l), (1, fv), (7, .lit (.int .i64 (l.length : Int))), (8, .lit (.int .i64 (i : Int)))] ∧ Sub H0 H
theorem ixA (L : Has p ext F 285 M285) {g : Nat} {cap : D} {f : Ag → Bool} {l : List Ag} (hl : l.length < 1000000) (hf : ∀ y, FnD p ext g [.agg y.c, cap] (.lit (.bool (f y)))) : FnD p ext (F 285) [agsD l, .func g [] [cap]] (.lit (.int .i64 (idxF f l))) := by
 refine fn_of L (M := M285) rfl ok285 rfl fun H => sem_run 9000 _ ?_;simp;refine sem_loop (IxIA H f l (.func g [] [cap])) ?_ (k := l.length) ⟨0, by simp, by simp, by simp, rfl, sR⟩;rintro w fr H' ⟨i, rfl, hi, hn, rfl, sb⟩
 by_cases c : i < l.length
 ·obtain ⟨y, hy⟩ : ∃ y, l[i]? = some y := ⟨_, List.getElem?_eq_getElem c⟩;have hyi : l[i] = y := (by rw [List.getElem?_eq_getElem c] at hy; exact Option.some.inj hy);refine sem_run 9000 _ ?_;simp;simp [c, hyi];refine sf (hf y) ?_
  cases e : f y with
  | true =>
   simp;refine sem_ret ?_;simp [M285];refine sem_ret ?_;simp;rw [idxF_at hn hy e];exact .le sb (D.le_refl _) (by simp)
  | false =>
   simp;refine sem_ok ?_;have hw : wr .i64 ((i : Int) + 1) = ((i + 1 : Nat) : Int) := (by rw [wr_of] <;> omega);refine ⟨_, by omega, i + 1, rfl, by omega, fun j z hj hz => ?_, by rw [hw], sb⟩;rcases (by omega : j < i ∨ j = i) with h | rfl
   ·exact hn j z h hz
   ·rw [hy] at hz; cases hz; exact e
 ·have : i = l.length := (by omega);subst this;refine sem_run 9000 _ ?_;simp;refine sem_exit (sem_run 9000 _ ?_);simp;refine sem_ret ?_;simp [M285];rw [idxF_no hn];exact .le sb (D.le_refl _) (by simp)
theorem conA (L : Has p ext F 285 M285) (L2 : Has p ext F 273 M273) {g : Nat} {cap : D} {f : Ag → Bool} {l : List Ag} (hl : l.length < 1000000) (hf : ∀ y, FnD p ext g [.agg y.c, cap] (.lit (.bool (f y)))) : FnD p ext (F 273) [agsD l, .func g [] [cap]] (.lit (.bool (l.any f))) := by
 refine fn_of L2 (M := M273) rfl ok273 rfl fun H => sem_run 9000 _ ?_;simp;refine sf (ixA L hl hf) ?_;simp;refine sem_ret ?_;simp [M273];rw [idxF_any];exact .le sR (D.le_refl _) (by simp)
def IxIS (H0 : HpD) (f : Sx → Bool) (l : List Sx) (fv : D) (w : Nat) (fr : FrD) (H : HpD) : Prop :=
 ∃ i : Nat, w = l.length - i ∧ i ≤ l.length ∧ (∀ (j : Nat) z, j < i → l[j]? = some z → f z = false) ∧ fr = [(0, sxsD l), (1, fv), (7, .lit (.int .i64 (l.length : Int))), (8, .lit (.int .i64 (i : Int)))] ∧ Sub H0 H
theorem ixS (L : Has p ext F 295 M295) {g : Nat} {cap : D} {f : Sx → Bool} {l : List Sx} (hl : l.length < 1000000) (hf : ∀ y, FnD p ext g [.agg y.c, cap] (.lit (.bool (f y)))) : FnD p ext (F 295) [sxsD l, .func g [] [cap]] (.lit (.int .i64 (idxF f l))) := by
 refine fn_of L (M := M295) rfl ok295 rfl fun H => sem_run 9000 _ ?_;simp;refine sem_loop (IxIS H f l (.func g [] [cap])) ?_ (k := l.length) ⟨0, by simp, by simp, by simp, rfl, sR⟩;rintro w fr H' ⟨i, rfl, hi, hn, rfl, sb⟩
 by_cases c : i < l.length
 ·obtain ⟨y, hy⟩ : ∃ y, l[i]? = some y := ⟨_, List.getElem?_eq_getElem c⟩;have hyi : l[i] = y := (by rw [List.getElem?_eq_getElem c] at hy; exact Option.some.inj hy);refine sem_run 9000 _ ?_;simp;simp [c, hyi];refine sf (hf y) ?_
  cases e : f y with
  | true =>
   simp;refine sem_ret ?_;simp [M295];refine sem_ret ?_;simp;rw [idxF_at hn hy e];exact .le sb (D.le_refl _) (by simp)
  | false =>
   simp;refine sem_ok ?_;have hw : wr .i64 ((i : Int) + 1) = ((i + 1 : Nat) : Int) := (by rw [wr_of] <;> omega);refine ⟨_, by omega, i + 1, rfl, by omega, fun j z hj hz => ?_, by rw [hw], sb⟩;rcases (by omega : j < i ∨ j = i) with h | rfl
   ·exact hn j z h hz
   ·rw [hy] at hz; cases hz; exact e
 ·have : i = l.length := (by omega);subst this;refine sem_run 9000 _ ?_;simp;refine sem_exit (sem_run 9000 _ ?_);simp;refine sem_ret ?_;simp [M295];rw [idxF_no hn];exact .le sb (D.le_refl _) (by simp)
theorem conS (L : Has p ext F 295 M295) (L2 : Has p ext F 281 M281) {g : Nat} {cap : D} {f : Sx → Bool} {l : List Sx} (hl : l.length < 1000000) (hf : ∀ y, FnD p ext g [.agg y.c, cap] (.lit (.bool (f y)))) : FnD p ext (F 281) [sxsD l, .func g [] [cap]] (.lit (.bool (l.any f))) := by
 refine fn_of L2 (M := M281) rfl ok281 rfl fun H => sem_run 9000 _ ?_;simp;refine sf (ixS L hl hf) ?_;simp;refine sem_ret ?_;simp [M281];rw [idxF_any];exact .le sR (D.le_refl _) (by simp)
structure HExpr (p : Prog) (ext : Ext) (F : Nat → Nat) : Prop where
 text : HText p ext F
 h239 : Has p ext F 239 M239
 h255 : Has p ext F 255 M255
 h256 : Has p ext F 256 M256
 h264 : Has p ext F 264 M264
 h265 : Has p ext F 265 M265
 h266 : Has p ext F 266 M266
 h267 : Has p ext F 267 M267
 h268 : Has p ext F 268 M268
 h269 : Has p ext F 269 M269
 h270 : Has p ext F 270 M270
 h271 : Has p ext F 271 M271
 h272 : Has p ext F 272 M272
 h273 : Has p ext F 273 M273
 h274 : Has p ext F 274 M274
 h278 : Has p ext F 278 M278
 h279 : Has p ext F 279 M279
 h280 : Has p ext F 280 M280
 h281 : Has p ext F 281 M281
 h282 : Has p ext F 282 M282
 h283 : Has p ext F 283 M283
 h284 : Has p ext F 284 M284
 h285 : Has p ext F 285 M285
 h294 : Has p ext F 294 M294
 h295 : Has p ext F 295 M295
 h298 : Has p ext F 298 M298
def NmI (H0 : HpD) (x : List Nat) (w : Nat) (fr : FrD) (H : HpD) : Prop :=
 ∃ i : Nat, w = x.length - i ∧ i ≤ x.length ∧ fr = [(0, .lit (.str x)), (5, .lit (.int .i64 (x.length : Int))), (6, .lit (.int .i64 (i : Int)))] ∧ Sub H0 H
theorem schm_named (L : HExpr p ext F) {x : List Nat} (h : NameOk x) : FnD p ext (F 265) [.lit (.str x)] (.lit (.bool true)) := by
 refine fn_of L.h265 (M := M265) rfl ok265 rfl fun H => sem_run 9000 _ ?_;simp;obtain ⟨l1, l2, hc⟩ := h;refine sem_loop (NmI H x) ?_ (k := x.length) ⟨0, by simp, by simp, rfl, sR⟩;rintro w fr H' ⟨i, rfl, hi, rfl, sb⟩
 by_cases c : i < x.length
 ·obtain ⟨y, hy⟩ : ∃ y, x[i]? = some y := ⟨_, List.getElem?_eq_getElem c⟩;obtain ⟨y1, y2⟩ := hc y (List.mem_of_getElem? hy);have z1 : ¬ (y : Int) < 97 := (by omega);have z2 : ¬ 122 < (y : Int) := (by omega);have hw : wr .i64 ((i : Int) + 1) = ((i + 1 : Nat) : Int) := (by rw [wr_of] <;> omega);refine sem_run 9000 _ ?_;simp;simp [c];rw [idxs_at (i := i) rfl hy];simp [z1];rw [idxs_at (i := i) rfl hy];simp [z2];refine sem_ok ?_;exact ⟨_, by omega, i + 1, rfl, by omega, by rw [hw], sb⟩
 ·have : i = x.length := (by omega);subst this;have z1 : (1 : Int) ≤ (x.length : Int) := (by omega);have z2 : (x.length : Int) ≤ 8 := (by omega);refine sem_run 9000 _ ?_;simp;refine sem_exit (sem_run 9000 _ ?_);simp [z1, z2];refine sem_ret ?_;simp [M265];exact .le sb (D.le_refl _) (by simp)
theorem ok_same (L : HExpr p ext F) {y c : Cl} : FnD p ext (F 264) [.agg y.c, .rptr c.c 0] (.lit (.bool (decide (y.name = c.name)))) := by
 refine fn_of L.h264 (M := M264) rfl ok264 rfl fun H => sem_run 9000 _ ?_;simp;simp [neqs_dec];refine sem_ret ?_;simp [M264];exact .le sR (D.le_refl _) (by simp)
theorem slc_schR {s : Sch} {i : Nat} (h : i ≤ s.length) : slcD 3 (schR s) none (some (.lit (.int .i64 (i : Int)))) none = some (schR (s.take i)) := by
 simp [schR, schE, slcD, bndD, slcRow, needH, boundM, boundH, boundL, ble_d, h, List.map_take, cutMd]
def OkI (H0 : HpD) (s : Sch) (w : Nat) (fr : FrD) (H : HpD) : Prop :=
 ∃ i : Nat, w = s.length - i ∧ i ≤ s.length ∧ fr = [(1, .rptr [schR s] 0), (8, schR s), (9, .lit (.int .i64 (s.length : Int))), (10, .lit (.int .i64 (i : Int)))] ∧ Sub H0 H
theorem schm_ok (L : HExpr p ext F) {s : Sch} (h : OkS s) : FnD p ext (F 255) [schD s] (.lit (.bool true)) := by
 refine fn_of L.h255 (M := M255) rfl ok255 rfl fun H => sem_run 9000 _ ?_;simp;obtain ⟨l1, l2⟩ := h.len;refine sem_loop (OkI H s) ?_ (k := s.length) ⟨0, by simp, by simp, rfl, sR⟩;rintro w fr H' ⟨i, rfl, hi, rfl, sb⟩
 by_cases c : i < s.length
 ·obtain ⟨y, hy⟩ : ∃ y, s[i]? = some y := ⟨_, List.getElem?_eq_getElem c⟩;have hyi : s[i] = y := (by rw [List.getElem?_eq_getElem c] at hy; exact Option.some.inj hy)
  have hw : wr .i64 ((i : Int) + 1) = ((i + 1 : Nat) : Int) := by rw [wr_of] <;> omega
  have hany : (s.take i).any (fun z => decide (z.name = y.name)) = false := by
   rw [List.any_eq_false];intro z hz;obtain ⟨j, hj, e⟩ := List.getElem_of_mem hz;have hj1 : j < i := (by rw [List.length_take] at hj; omega);simp only [decide_eq_true_eq];intro e2;have hzj : s[j]? = some z := (by rw [List.getElem_take] at e; rw [List.getElem?_eq_getElem (by omega), e]);have := h.inj j i z y hzj hy e2;omega
  have hk := h.kinds y (List.mem_of_getElem? hy);have hcon := conC L.h239 L.h266 (g := F 264) (cap := .rptr y.c 0) (f := fun z => decide (z.name = y.name)) (l := s.take i) (by rw [List.length_take]; omega) (fun z => ok_same L);rw [hany] at hcon;refine sem_run 21 _ ?_;simp [c, hyi];refine sem_box (b := H'.next) (cs := y.c) (ro := false) 4 (by simp) (by simp) ?_;refine sem_run 9000 _ ?_;simp;refine sf (schm_named L (h.names y (List.mem_of_getElem? hy))) ?_;simp;rw [slc_schR (by omega)];simp;refine sf hcon ?_;rcases hk with k | k
  ·simp [k];refine sem_ok ?_;exact ⟨_, by omega, i + 1, rfl, by omega, by rw [hw], (sB sb)⟩
  ·simp [k];refine sem_ok ?_;exact ⟨_, by omega, i + 1, rfl, by omega, by rw [hw], (sB sb)⟩
 ·have : i = s.length := (by omega);subst this;obtain ⟨c0, k0, k1, k2⟩ := h.key;have z1 : (1 : Int) ≤ (s.length : Int) := (by omega);have z2 : (s.length : Int) ≤ 6 := (by omega);have z3 : (0 : Nat) < s.length := (by omega);have k0' : s[0] = c0 := (by rw [List.getElem?_eq_getElem z3] at k0; exact Option.some.inj k0);refine sem_run 9000 _ ?_;simp;refine sem_exit (sem_run 9000 _ ?_);simp [z1, z2, z3, k0', k1, k2];refine sem_ret ?_;simp [M255];exact .le sb (D.le_refl _) (by simp)
theorem schm_holds (L : HExpr p ext F) {c : Cl} {v : Vl} : FnD p ext (F 279) [.agg c.c, .agg v.c] (.lit (.bool (holdsB c v))) := by
 refine fn_of L.h279 (M := M279) rfl ok279 rfl fun H => sem_run 9000 _ ?_;simp;refine sf (schm_is_any L.text) ?_;simp
 cases is : isB v with
 | false =>
  simp;refine sem_ret ?_;simp [M279, holdsB, is];exact .same (by simp)
 | true =>
  by_cases k : v.kind = c.kind
  ·cases cn : c.null with
   | true =>
    simp [Cl.c, k, cn];refine sem_ret ?_;simp [M279, holdsB, is, k, cn];exact .same (by simp)
   | false =>
    simp [Cl.c, k, cn];refine sem_ret ?_;simp [M279, holdsB, is, k, cn];exact .same (by simp)
  ·simp [Cl.c, k];refine sem_ret ?_;simp [M279, holdsB, is, k];exact .same (by simp)
def FtI (H0 : HpD) (s : Sch) (r : Row) (w : Nat) (fr : FrD) (H : HpD) : Prop :=
 ∃ i : Nat, w = s.length - i ∧ i ≤ s.length ∧ fitsB s r = fitsB (s.drop i) (r.drop i) ∧ fr = [(1, rowD r), (14, schR s), (15, .lit (.int .i64 (s.length : Int))), (16, .lit (.int .i64 (i : Int)))] ∧ Sub H0 H
theorem schm_fits (L : HExpr p ext F) {s : Sch} {r : Row} (hs : s.length < 1000000) : FnD p ext (F 268) [schD s, rowD r] (.lit (.bool (fitsB s r))) := by
 refine fn_of L.h268 (M := M268) rfl ok268 rfl fun H => sem_run 9000 _ ?_;simp
 by_cases hl : r.length = s.length
 ·simp [hl];refine sem_loop (FtI H s r) ?_ (k := s.length) ⟨0, by simp, by simp, by simp, rfl, sR⟩;rintro w fr H' ⟨i, rfl, hi, hf, rfl, sb⟩
  by_cases c : i < s.length
  ·obtain ⟨y, hy⟩ : ∃ y, s[i]? = some y := ⟨_, List.getElem?_eq_getElem c⟩;have hyi : s[i] = y := (by rw [List.getElem?_eq_getElem c] at hy; exact Option.some.inj hy);obtain ⟨v, hv⟩ : ∃ v, r[i]? = some v := ⟨_, List.getElem?_eq_getElem (by omega)⟩;have hvi : r[i] = v := (by rw [List.getElem?_eq_getElem (by omega)] at hv; exact Option.some.inj hv);have hw : wr .i64 ((i : Int) + 1) = ((i + 1 : Nat) : Int) := (by rw [wr_of] <;> omega);have d1 : s.drop i = y :: s.drop (i + 1) := (by rw [List.drop_eq_getElem_cons c, hyi]);have d2 : r.drop i = v :: r.drop (i + 1) := (by rw [List.drop_eq_getElem_cons (by omega), hvi])
   rw [d1, d2, fitsB] at hf;have hir : i < r.length := (by omega);refine sem_run 9000 _ ?_;simp;simp [c, hyi, hvi, hir];refine sem_dfn (schm_holds L (c := y) (v := v)) (by first | exact D.les_refl _ | simp) (sem_run 9000 _ ?_)
   cases hb : holdsB y v with
   | true =>
    simp;refine sem_ok ?_;rw [hb, Bool.true_and] at hf;exact ⟨_, by omega, i + 1, rfl, by omega, hf, by rw [hw], (sB sb)⟩
   | false =>
    simp;refine sem_ret ?_;simp [M268];refine sem_ret ?_;simp;rw [hf, hb, Bool.false_and];exact .le (sB sb) (D.le_refl _) (by simp)
  ·have : i = s.length := (by omega);subst this;rw [List.drop_length, List.drop_of_length_le (by omega), fitsB] at hf;refine sem_run 9000 _ ?_;simp;refine sem_exit (sem_run 9000 _ ?_);simp;refine sem_ret ?_;simp [M268];rw [hf];exact .le sb (D.le_refl _) (by simp)
 ·have hl' : ¬ (r.length : Int) = (s.length : Int) := (by omega);simp [hl'];refine sem_ret ?_;simp [M268];rw [fitsB_ne hl];exact .le sR (D.le_refl _) (by simp)
theorem sx_2 {x : Sx} : x.c[2]? = some (.lit (.bool x.v.null)) := rfl
attribute [simp] sx_2
theorem expr_in (L : HExpr p ext F) {s : Sch} {c : Int} : FnD p ext (F 274) [schD s, .lit (.int .i64 c)] (.lit (.bool (inB s c))) := by
 refine fn_of L.h274 (M := M274) rfl ok274 rfl fun H => sem_run 9000 _ ?_;simp
 by_cases h1 : 0 ≤ c
 ·simp [h1];refine sem_ret ?_;simp [M274, inB, h1];exact .same (by simp)
 ·simp [h1];refine sem_ret ?_;simp [M274, inB, h1];exact .same (by simp)
theorem expr_set (L : HExpr p ext F) {s : Sch} {x : Sx} : FnD p ext (F 282) [schD s, .agg x.c] (.lit (.bool (setB s x))) := by
 refine fn_of L.h282 (M := M282) rfl ok282 rfl fun H => sem_run 9000 _ ?_;simp;refine sem_dfn (expr_in L (s := s) (c := x.col)) (by first | exact D.les_refl _ | simp) (sem_run 9000 _ ?_)
 cases hi : inB s x.col with
 | false =>
  simp;refine sem_ret ?_;simp [M282, setB, hi];exact .same (by simp)
 | true =>
  unfold inB at hi;rw [decide_eq_true_iff] at hi;obtain ⟨c1, c2⟩ := hi
  by_cases c0 : x.col = 0
  ·simp [c0];refine sem_ret ?_;simp [M282, setB, c0];exact .same (by simp)
  ·have hci : x.col.toNat < s.length := (by omega);obtain ⟨cl, hcl⟩ : ∃ cl, s[x.col.toNat] = cl := ⟨_, rfl⟩;have hck : colK s x.col = cl := (by unfold colK; rw [List.getElem?_eq_getElem hci, hcl]; rfl);have hin : inB s x.col = true := (by unfold inB; exact decide_eq_true ⟨c1, c2⟩);simp [c0, c1, c2, hcl];refine sem_dfn (schm_holds L (c := cl) (v := x.v)) (by first | exact D.les_refl _ | simp) (sem_run 9000 _ ?_)
   cases hb : holdsB cl x.v with
   | false =>
    simp;refine sem_ret ?_;simp [M282, setB, hck, hb];exact .same (by simp)
   | true =>
    cases ha : x.add with
    | false =>
     simp [ha];refine sem_ret ?_;simp [M282, setB, hin, c0, hck, hb, ha];exact .same (by simp)
    | true =>
     by_cases k : cl.kind = 1
     ·cases hn : x.v.null with
      | false =>
       simp [ha, c1, c2, hcl, k, hn];refine sem_ret ?_;simp [M282, setB, hin, c0, hck, hb, ha, k, hn];exact .same (by simp)
      | true =>
       simp [ha, c1, c2, hcl, k, hn];refine sem_ret ?_;simp [M282, setB, hin, c0, hck, hb, ha, k, hn];exact .same (by simp)
     ·simp [ha, c1, c2, hcl, k];refine sem_ret ?_;simp [M282, setB, hin, c0, hck, hb, ha, k];exact .same (by simp)
theorem sets_same (L : HExpr p ext F) {y x : Sx} : FnD p ext (F 280) [.agg y.c, .rptr x.c 0] (.lit (.bool (decide (y.col = x.col)))) := by
 refine fn_of L.h280 (M := M280) rfl ok280 rfl fun H => sem_run 9000 _ ?_;simp;refine sem_ret ?_;simp [M280];exact .le sR (D.le_refl _) (by simp)
theorem slc_sxs {l : List Sx} {i : Nat} (h : i ≤ l.length) : slcD 6 (sxsD l) none (some (.lit (.int .i64 (i : Int)))) none = some (sxsD (l.take i)) := by
 simp [sxsD, sxsE, slcD, bndD, slcRow, needH, boundM, boundH, boundL, ble_d, h, List.map_take, cutMd]
def SsI (H0 : HpD) (s : Sch) (l : List Sx) (w : Nat) (fr : FrD) (H : HpD) : Prop :=
 ∃ i : Nat, w = l.length - i ∧ i ≤ l.length ∧ setsGo s [] l = setsGo s (l.take i) (l.drop i) ∧ fr = [(1, sxsD l), (2, .rptr [schR s] 0), (8, sxsD l), (9, .lit (.int .i64 (l.length : Int))), (10, .lit (.int .i64 (i : Int)))] ∧ Sub H0 H
theorem expr_sets (L : HExpr p ext F) {s : Sch} {l : List Sx} (hl : l.length < 1000000) : FnD p ext (F 269) [schD s, sxsD l] (.lit (.bool (setsB s l))) := by
 refine fn_of L.h269 (M := M269) rfl ok269 rfl fun H => sem_run 9000 _ ?_;simp;refine sem_loop (SsI H s l) ?_ (k := l.length) ⟨0, by simp, by simp, by simp, rfl, sR⟩;rintro w fr H' ⟨i, rfl, hi, hg, rfl, sb⟩
 by_cases c : i < l.length
 ·obtain ⟨x, hx⟩ : ∃ x, l[i]? = some x := ⟨_, List.getElem?_eq_getElem c⟩;have hxi : l[i] = x := (by rw [List.getElem?_eq_getElem c] at hx; exact Option.some.inj hx);have hw : wr .i64 ((i : Int) + 1) = ((i + 1 : Nat) : Int) := (by rw [wr_of] <;> omega);have hd : l.drop i = x :: l.drop (i + 1) := (by rw [List.drop_eq_getElem_cons c, hxi]);have ht : l.take (i + 1) = l.take i ++ [x] := (by rw [List.take_succ_eq_append_getElem c, hxi]);rw [hd, setsGo, ← ht] at hg;have hcon := conS L.h295 L.h281 (g := F 280) (cap := .rptr x.c 0) (f := fun y => decide (y.col = x.col)) (l := l.take i) (by rw [List.length_take]; omega) (fun z => sets_same L)
  refine sem_run 21 _ ?_;simp [c, hxi];refine sem_box (b := H'.next) (cs := x.c) (ro := false) 6 (by simp) (by simp) ?_;refine sem_run 9000 _ ?_;simp;rw [slc_sxs (by omega)];simp;refine sf hcon ?_;simp;refine sf (expr_set L (s := s) (x := x)) ?_;obtain ⟨tw, htw⟩ : ∃ tw, ((l.take i).any fun y => decide (y.col = x.col)) = tw := ⟨_, rfl⟩;rw [htw] at hg ⊢
  have bad : ((setB s x && !tw) = false) → setsB s l = false := fun e => by unfold setsB; rw [hg, e]; rfl
  cases hb : setB s x with
  | false =>
   simp;refine sem_ret ?_;simp [M269];refine sem_ret ?_;simp;rw [bad (by rw [hb]; rfl)];exact .le (sB sb) (D.le_refl _) (by simp)
  | true =>
   cases tw with
   | true =>
    simp;refine sem_ret ?_;simp [M269];refine sem_ret ?_;simp;rw [bad (by rw [hb]; rfl)];exact .le (sB sb) (D.le_refl _) (by simp)
   | false =>
    simp;refine sem_ok ?_;rw [hb] at hg;exact ⟨_, by omega, i + 1, rfl, by omega, by rw [hg]; rfl, by rw [hw], (sB sb)⟩
 ·have : i = l.length := (by omega);subst this;rw [List.drop_length, setsGo] at hg;refine sem_run 9000 _ ?_;simp;refine sem_exit (sem_run 9000 _ ?_)
  by_cases h1 : 1 ≤ l.length
  ·have h1' : (1 : Int) ≤ (l.length : Int) := by omega
   by_cases h2 : l.length ≤ 4
   ·have h2' : (l.length : Int) ≤ 4 := (by omega);simp [h1', h2'];refine sem_ret ?_;simp [M269];rw [show setsB s l = true by unfold setsB; rw [hg]; simp [h1, h2]];exact .le sb (D.le_refl _) (by simp)
   ·have h2' : ¬ (l.length : Int) ≤ 4 := (by omega);simp [h1', h2'];refine sem_ret ?_;simp [M269];rw [show setsB s l = false by unfold setsB; simp [h2]];exact .le sb (D.le_refl _) (by simp)
  ·have h1' : ¬ (1 : Int) ≤ (l.length : Int) := (by omega);simp [h1'];refine sem_ret ?_;simp [M269];rw [show setsB s l = false by unfold setsB; simp [h1]];exact .le sb (D.le_refl _) (by simp)
theorem expr_agg (L : HExpr p ext F) {s : Sch} {a : Ag} : FnD p ext (F 284) [schD s, .agg a.c] (.lit (.bool (aggB s a))) := by
 refine fn_of L.h284 (M := M284) rfl ok284 rfl fun H => sem_run 9000 _ ?_;simp
 by_cases k1 : a.kind = 1
 ·simp [Ag.c, k1]
  by_cases c0 : a.col = 0
  ·refine sem_ret ?_;simp [M284, aggB, k1, c0];exact .same (by simp)
  ·refine sem_ret ?_;simp [M284, aggB, k1, c0];exact .same (by simp)
 ·by_cases k2 : a.kind = 2
  ·simp [Ag.c, k2];refine sf (expr_in L (s := s) (c := a.col)) ?_
   cases hi : inB s a.col with
   | false =>
    simp;refine sem_ret ?_;simp [M284, aggB, k2, hi];exact .same (by simp)
   | true =>
    have hi' := hi;unfold inB at hi';rw [decide_eq_true_iff] at hi';obtain ⟨c1, c2⟩ := hi';have hci : a.col.toNat < s.length := (by omega);obtain ⟨cl, hcl⟩ : ∃ cl, s[a.col.toNat] = cl := ⟨_, rfl⟩
    have hck : colK s a.col = cl := by unfold colK; rw [List.getElem?_eq_getElem hci, hcl]; rfl
    by_cases k : cl.kind = 1
    ·simp [c1, c2, hcl, k];refine sem_ret ?_;simp [M284, aggB, k2, hi, hck, k];exact .same (by simp)
    ·simp [c1, c2, hcl, k];refine sem_ret ?_;simp [M284, aggB, k2, hi, hck, k];exact .same (by simp)
  ·by_cases k3 : a.kind = 3
   ·simp [Ag.c, k3];refine sf (expr_in L (s := s) (c := a.col)) ?_;simp;refine sem_ret ?_;simp [M284, aggB, k3];exact .same (by simp)
   ·by_cases k4 : a.kind = 4
    ·simp [Ag.c, k4];refine sf (expr_in L (s := s) (c := a.col)) ?_;simp;refine sem_ret ?_;simp [M284, aggB, k4];exact .same (by simp)
    ·simp [Ag.c, k1, k2, k3, k4];refine sem_ret ?_;simp [M284, aggB, k1, k2, k3, k4];exact .same (by simp)
theorem op_bad_col (L : HExpr p ext F) {s : Sch} {c : Int} : FnD p ext (F 270) [.lit (.int .i64 c), .rptr [schR s] 0] (.lit (.bool (!inB s c))) := by
 refine fn_of L.h270 (M := M270) rfl ok270 rfl fun H => sem_run 9000 _ ?_;simp;refine sf (expr_in L) ?_;simp;refine sem_ret ?_;simp [M270];exact .le sR (D.le_refl _) (by simp)
theorem op_bad_agg (L : HExpr p ext F) {s : Sch} {a : Ag} : FnD p ext (F 272) [.agg a.c, .rptr [schR s] 0] (.lit (.bool (!aggB s a))) := by
 refine fn_of L.h272 (M := M272) rfl ok272 rfl fun H => sem_run 9000 _ ?_;simp;refine sf (expr_agg L) ?_;simp;refine sem_ret ?_;simp [M272];exact .le sR (D.le_refl _) (by simp)
end Go.Lib
end

section
set_option maxRecDepth 10000
namespace Go.Lib
open Go.Vm Go.Dv Go.Srt
theorem pfx_one {c a : Nat} {l : List Nat} : pfx [c] (a :: l) = decide (c = a) := by
 simp only [pfx, nbeq_d]; by_cases h : c = a <;> simp [h]
theorem index_at {c : Nat} : ∀ {w t : List Nat}, (∀ x, x ∈ w → x ≠ c) → indexN (w ++ c :: t) [c] = some w.length
 | [], t, _ => by simp [indexN, pfx_one]
 | a :: w, t, h => by
  have ih := index_at (c := c) (w := w) (t := t) (fun x hx => h x (List.mem_cons_of_mem _ hx));have ha : ¬ c = a := fun e => h a List.mem_cons_self e.symm;simp only [List.cons_append, indexN, pfx_one, ha, decide_false, cond_false, ih];rfl
theorem index_no {c : Nat} : ∀ {w : List Nat}, (∀ x, x ∈ w → x ≠ c) → indexN w [c] = none
 | [], _ => rfl
 | a :: w, h => by
  have ih := index_no (c := c) (w := w) (fun x hx => h x (List.mem_cons_of_mem _ hx));have ha : ¬ c = a := fun e => h a List.mem_cons_self e.symm;simp only [indexN, pfx_one, ha, decide_false, cond_false, ih]
theorem cut_at {c : Nat} {w t : List Nat} (h : ∀ x, x ∈ w → x ≠ c) : cutN (w ++ c :: t) [c] = (w, t, true) := by
 unfold cutN;rw [index_at h];simp
theorem cut_none {c : Nat} {w : List Nat} (h : ∀ x, x ∈ w → x ≠ c) : cutN w [c] = (w, [], false) := by
 unfold cutN;rw [index_no h]
theorem cutS_at {c : Nat} {w : List Nat} : cutSN (w ++ [c]) [c] = (w, true) := by
 unfold cutSN sfx;rw [show pfx [c].reverse (w ++ [c]).reverse = true by simp [pfx_one]];simp
theorem splitF_no {c f : Nat} {w : List Nat} (h : ∀ x, x ∈ w → x ≠ c) : splitF (f + 1) w [c] = [w] := by
 unfold splitF; rw [index_no h]
theorem splitF_at {c f : Nat} {w t : List Nat} (h : ∀ x, x ∈ w → x ≠ c) : splitF (f + 1) (w ++ c :: t) [c] = w :: splitF f t [c] := by
 rw [splitF, index_at h];simp
theorem split_one {c : Nat} {w : List Nat} (h : ∀ x, x ∈ w → x ≠ c) : Vm.splitN w [c] = [w] := splitF_no h
theorem split_two {c : Nat} {a b : List Nat} (h : ∀ x, x ∈ a → x ≠ c) (h2 : ∀ x, x ∈ b → x ≠ c) : Vm.splitN (a ++ c :: b) [c] = [a, b] := by
 unfold Vm.splitN;rw [splitF_at h, show (a ++ c :: b).length = (a.length + b.length) + 1 by simp; omega, splitF_no h2]
theorem split_three {c : Nat} {a b d : List Nat} (h : ∀ x, x ∈ a → x ≠ c) (h2 : ∀ x, x ∈ b → x ≠ c) (h3 : ∀ x, x ∈ d → x ≠ c) : Vm.splitN (a ++ c :: (b ++ c :: d)) [c] = [a, b, d] := by
 unfold Vm.splitN;rw [splitF_at h, show (a ++ c :: (b ++ c :: d)).length = (a.length + b.length + d.length) + 1 + 1 by simp; omega, splitF_at h2, splitF_no h3]
theorem nib_hex : ∀ i : Fin 16, nibN (hexD.getD i.val 0) = i.val := by decide +kernel
theorem unhex_hex : ∀ l : List By, unhexB (l.map hexN).flatten = l
 | [] => rfl
 | b :: l => by
  have h1 := nib_hex ⟨b.val / 16, by omega⟩;have h2 := nib_hex ⟨b.val % 16, by omega⟩;simp only [List.map_cons, List.flatten_cons, hexN, List.cons_append, List.nil_append, unhexB, unhex_hex l]
  congr 1
  unfold byOf;simp only at h1 h2;apply Fin.ext;show (nibN (hexD.getD (b.val / 16) 0) * 16 + nibN (hexD.getD (b.val % 16) 0)) % 256 = b.val;rw [h1, h2]; omega
theorem mag_snoc : ∀ {l : List Nat} {acc : Nat}, (∀ c, c ∈ l → 48 ≤ c ∧ c ≤ 57) → l.foldl (fun a c => a * 10 + (c - 48)) acc ≤ 18446744073709551615 → magN acc l = .ok (.ofNat (l.foldl (fun a c => a * 10 + (c - 48)) acc))
 | [], acc, _, _ => rfl
 | c :: l, acc, h, hb => by
  have hc := h c List.mem_cons_self
  have mono : ∀ (l : List Nat) (x : Nat), x ≤ l.foldl (fun a c => a * 10 + (c - 48)) x := by
   intro l
   induction l with
   | nil => intro x; exact Nat.le_refl _
   | cons c l ih => intro x; exact Nat.le_trans (by omega) (ih (x * 10 + (c - 48)))
  have hm := mono l (acc * 10 + (c - 48));simp only [List.foldl_cons] at hb ⊢;unfold magN;rw [nble.2 hc.1, nble.2 hc.2];simp only [cond_true];rw [show Nat.ble 1844674407370955162 acc = false from by rw [Bool.eq_false_iff]; exact fun e => by have := nble.1 e; omega];simp only [cond_false];rw [show Nat.blt 18446744073709551615 (acc * 10 + (c - 48)) = false from by rw [Bool.eq_false_iff]; exact fun e => by have := nblt.1 e; omega];simp only [cond_false];exact mag_snoc (fun x hx => h x (List.mem_cons_of_mem _ hx)) hb
theorem dig_ne : ∀ {f u : Nat}, digN f u ≠ []
 | 0, u => by simp [digN]
 | f + 1, u => by
  unfold digN;cases Nat.blt u 10 <;> simp
theorem mag_dig {u : Nat} (h : u ≤ 18446744073709551615) : mag0 (digN 20 u) = .ok (.ofNat u) := by
 have hp : (10 : Nat) ^ (20 + 1) = 1000000000000000000000 := (by decide);have hd : unD (digN 20 u) = u := unD_dig (by omega)
 have key : magN 0 (digN 20 u) = .ok (.ofNat u) := by
  rw [mag_snoc (fun c hc => dig_chars hc) (by show unD (digN 20 u) ≤ _; rw [hd]; exact h)];show Pe.ok (.ofNat (unD (digN 20 u))) = _;rw [hd]
 cases e : digN 20 u with
 | nil => exact absurd e dig_ne
 | cons c r => rw [e] at key; exact key
theorem parse_itoa {n : Int} (h : In64 n) : parseN (itoaN n) = .ok n := by
 unfold In64 at h
 cases n with
 | ofNat u =>
  have hu : (u : Int) < 9223372036854775808 := h.2;show parseN (digN 20 u) = _;have hm := mag_dig (u := u) (by omega)
  cases e : digN 20 u with
  | nil => exact absurd e dig_ne
  | cons c r =>
   have hc := dig_chars (f := 20) (u := u) (c := c) (by rw [e]; exact List.mem_cons_self);rw [e] at hm;simp only [parseN];rw [show Nat.beq c 45 = false from by rw [nbeq_d]; exact decide_eq_false (by omega), show Nat.beq c 43 = false from by rw [nbeq_d]; exact decide_eq_false (by omega)];simp only [cond_false, hm, signN];rw [show Nat.ble 9223372036854775808 u = false from by rw [Bool.eq_false_iff]; exact fun e => by have := nble.1 e; omega];rfl
 | negSucc u =>
  have hu : -9223372036854775808 ≤ Int.negSucc u := h.1;have hm := mag_dig (u := u + 1) (by omega);show parseN (45 :: digN 20 (u + 1)) = _;simp only [parseN];rw [show Nat.beq 45 45 = true from rfl];simp only [cond_true, hm, signN];rw [show Nat.blt 9223372036854775808 (u + 1) = false from by rw [Bool.eq_false_iff]; exact fun e => by have := nblt.1 e; omega];rfl
theorem val_nonull {v : Vl} (hn : v.null = false) : valN v ≠ nullN := by
 unfold valN nullN;rw [if_neg (by simp [hn])];split
 ·intro e;have := itoa_chars (n := v.n) (c := 110) (by rw [e]; simp);omega
 ·intro e; simp at e
theorem parseV_back {v : Vl} {k : Int} (hk : v.kind = k) (hn : v.null = false) (hi : isB v = true) (h64 : In64 v.n) : parseV k (valN v) = (v, true) := by
 have ha : asV k (valN v) = v := by
  have hi' := hi;unfold isB at hi';rw [decide_eq_true_iff, if_neg (by simp [hn])] at hi';rw [vl_ext];unfold asV;rw [if_neg (val_nonull hn)]
  by_cases k2 : k = 2
  ·have k1 : ¬ v.kind = 1 := (by omega);rw [if_pos k2];rw [if_neg k1] at hi';have e : valN v = 120 :: (v.bytes.map hexN).flatten := (by unfold valN; rw [if_neg (by simp [hn]), if_neg k1]);refine ⟨hn.symm, hk.symm, hi'.2.1.symm, ?_⟩;show (unhexB (trimPN (valN v) [120])).take 999999 = v.bytes;rw [e, show trimPN (120 :: (v.bytes.map hexN).flatten) [120] = (v.bytes.map hexN).flatten from rfl, unhex_hex];exact List.take_of_length_le (by have := v.small; omega)
  ·have k1 : v.kind = 1 := (by omega);rw [if_neg k2];rw [if_pos k1] at hi';have e : valN v = itoaN v.n := (by unfold valN; rw [if_neg (by simp [hn]), if_pos k1]);refine ⟨hn.symm, hk.symm, ?_, hi'.2.symm⟩;show parseI (valN v) = v.n;unfold parseI;rw [e, parse_itoa h64]
 unfold parseV;rw [ha, if_pos ⟨hi, rfl⟩]
end Go.Lib
end

section
set_option maxRecDepth 10000
namespace Go.Lib
open Go.Vm Go.Dv Go.Srt
theorem toldN_len0 {s : Sch} {q : Pr} : 0 < (toldN s q).length := by
 rw [toldN_eq]
 repeat' split
 all_goals (simp only [List.length_append, List.length_cons]; omega)
theorem find_col {s : Sch} (hs : Names s) {c : Int} (hc : 0 ≤ c ∧ c < s.length) : findC s (nameS s c) = c := by
 obtain ⟨i, rfl⟩ : ∃ i : Nat, c = i := ⟨c.toNat, by omega⟩;have hi : i < s.length := (by omega);have hn : nameS s (i : Int) = s[i].name := (by unfold nameS; rw [show (i : Int).toNat = i by omega, List.getElem?_eq_getElem hi]);unfold findC;rw [hn];refine find_at (fun j hj h => ?_) (by rw [List.getElem?_map, List.getElem?_eq_getElem hi]; rfl);rw [List.getElem?_map, List.getElem?_eq_getElem (by omega)] at h;have := hs.inj j i s[j] s[i] (List.getElem?_eq_getElem (by omega)) (List.getElem?_eq_getElem hi) (by simpa using h);omega
theorem find_op {o : Int} (h : 1 ≤ o ∧ o ≤ 6) : findN opsL (opN o) = o := by
 rcases (by omega : o = 1 ∨ o = 2 ∨ o = 3 ∨ o = 4 ∨ o = 5 ∨ o = 6) with rfl | rfl | rfl | rfl | rfl | rfl <;> decide
theorem words_back {s : Sch} (hs : Names s) {q : Pr} (h : OneP s q) (hk : ¬ (q.kind = 4 ∨ q.kind = 5 ∨ q.kind = 6)) : wordsF s (toldN s q) = (q, true) := by
 have nm : ∀ i : Int, ∀ c, c ∈ nameS s i → c ≠ 32 := fun i c h => (nameS_chars hs h).1;have no : ∀ i : Int, ∀ c, c ∈ opN i → c ≠ 32 := fun i c h => (opN_chars h).1;unfold wordsF;rcases h with ⟨k, c, o, v, l⟩ | ⟨k, c, o, nu, is, ⟨cl, hc, kk⟩, l, nn⟩ | ⟨k, c, o, v, l⟩ | ⟨k, _⟩ | ⟨k, _⟩
 ·have e : toldN s q = [116, 114, 117, 101] := (by rw [toldN_eq]; simp [k]);rw [e, split_one (by decide)];have hq : q = prN 1 := pr_ext (by rw [k]; rfl) (by rw [c]; rfl) (by rw [o]; rfl) (by rw [v]; rfl) (by rw [l]; rfl);rw [hq]; rfl
 ·have e : toldN s q = nameS s q.col ++ 32 :: (opN q.op ++ 32 :: valN q.v) := (by rw [toldN_eq]; simp [k]);rw [e, split_three (nm _) (no _) (fun c h => (val_chars nu h).1)];have hf := find_col hs c;have hci : colI s (nameS s q.col) = q.col := (by unfold colI; rw [hf]; omega);show (if findC s (nameS s q.col) < 0 then (prN 0, false) else (Pr.mk 2 (colI s (nameS s q.col)) (max (findN opsL (opN q.op)) 0) (parseV ((s[(colI s (nameS s q.col)).toNat]?).elim 0 Cl.kind) (valN q.v)).1 [], (parseV ((s[(colI s (nameS s q.col)).toNat]?).elim 0 Cl.kind) (valN q.v)).2)) = (q, true);rw [hf, if_neg (by omega), hci, hc, find_op o]
  show (Pr.mk 2 q.col (max q.op 0) (parseV cl.kind (valN q.v)).1 [], (parseV cl.kind (valN q.v)).2) = (q, true);rw [parseV_back kk nu is nn];have hq : Pr.mk 2 q.col (max q.op 0) q.v [] = q := pr_ext (by rw [k]; rfl) rfl (by show max q.op 0 = q.op; omega) rfl (by rw [l]; rfl);rw [hq]
 ·have e : toldN s q = nullN ++ 32 :: nameS s q.col := (by rw [toldN_eq]; simp [k, nullN]);rw [e, split_two (by decide) (nm _)];have hf := find_col hs c;have hci : colI s (nameS s q.col) = q.col := (by unfold colI; rw [hf]; omega);show (if nullN = nullN then (Pr.mk 3 (colI s (nameS s q.col)) 0 zv [], decide (0 ≤ findC s (nameS s q.col))) else (prN 1, decide (nullN ++ 32 :: nameS s q.col = [116, 114, 117, 101]))) = _;rw [if_pos rfl, hci, hf];have hq : Pr.mk 3 q.col 0 zv [] = q := pr_ext (by rw [k]; rfl) rfl (by rw [o]; rfl) (by rw [v]; rfl) (by rw [l]; rfl);rw [hq, show decide (0 ≤ q.col) = true from decide_eq_true c.1]
 ·exact absurd (by omega) hk
 ·exact absurd (by omega) hk
theorem word_go : ∀ {w r : List Nat} {o : Int} {cur : List Nat}, Wf w → partsGo (w ++ r) o cur = partsGo r o (cur ++ w)
 | [], r, o, cur, _ => by simp
 | c :: w, r, o, cur, h => by
  have hc := h c List.mem_cons_self;have ih := word_go (w := w) (r := r) (o := o) (cur := cur ++ [c]) (fun x hx => h x (List.mem_cons_of_mem _ hx));rw [List.cons_append, partsGo, if_neg hc.1, if_neg hc.2.1, if_neg (fun h => hc.2.2 h.1), ih];simp
theorem told_go {s : Sch} (hs : Names s) : ∀ (d : Nat) (q : Pr) (r : List Nat) (o : Int) (cur : List Nat), PrL s d q → 0 ≤ o → partsGo (toldN s q ++ r) o cur = partsGo r o (cur ++ toldN s q)
 | 0, _, _, _, _, h, _ => h.elim
 | d + 1, q, r, o, cur, ⟨h1, h2⟩, ho => by
  have ih := told_go hs d
  have tails : ∀ (l : List Pr) (t : List Nat) (o : Int) (cur : List Nat), (∀ x, x ∈ l → PrL s d x) → 1 ≤ o → partsGo (joinT [44] (l.map (toldN s)) ++ t) o cur = partsGo t o (cur ++ joinT [44] (l.map (toldN s))) := by
   intro l
   induction l with
   | nil => intro t o cur _ _; simp [joinT]
   | cons x l ih2 =>
    intro t o cur hl ho;simp only [List.map_cons, joinT, List.cons_append, List.nil_append, List.append_assoc];rw [partsGo, if_neg (by decide), if_neg (by decide), if_neg (by rintro ⟨_, h⟩; omega), ih x _ o _ (hl x List.mem_cons_self) (by omega), ih2 t o _ (fun y hy => hl y (List.mem_cons_of_mem _ hy)) ho];simp
  have joins : ∀ (l : List Pr) (t : List Nat) (o : Int) (cur : List Nat), (∀ x, x ∈ l → PrL s d x) → 1 ≤ o → partsGo (joinN (l.map (toldN s)) [44] ++ t) o cur = partsGo t o (cur ++ joinN (l.map (toldN s)) [44]) := by
   intro l t o cur hl ho
   cases l with
   | nil => simp [joinN]
   | cons x l =>
    simp only [List.map_cons, joinN, List.append_assoc];rw [ih x _ o _ (hl x List.mem_cons_self) (by omega), tails l t o _ (fun y hy => hl y (List.mem_cons_of_mem _ hy)) ho];simp
  have e0 : toldN s q = wordN s q ++ restN s q [] := (by have := told_split (s := s) (q := q) (t := []); simpa using this);rw [told_split, word_go (word_wf hs h1), e0]
  by_cases k : q.kind = 4 ∨ q.kind = 5 ∨ q.kind = 6
  ·have e1 : ∀ t, restN s q t = 40 :: (joinN (q.l.map (toldN s)) [44] ++ 41 :: t) := fun t => (by unfold restN; rw [if_pos k]);rw [e1, e1, partsGo, if_pos rfl, joins q.l _ _ _ h2 (by omega), partsGo, if_neg (by decide), if_pos rfl];rw [show o + 1 - 1 = o by omega];simp
  ·have e1 : ∀ t, restN s q t = t := fun t => (by unfold restN; rw [if_neg k]);rw [e1, e1];simp
theorem told_nonempty {s : Sch} {q : Pr} : toldN s q ≠ [] := fun e => by have := toldN_len0 (s := s) (q := q); rw [e] at this; simp at this
theorem parts_join {s : Sch} (hs : Names s) {d : Nat} {l : List Pr} (hl : ∀ x, x ∈ l → PrL s d x) : partsN (joinN (l.map (toldN s)) [44]) = l.map (toldN s) := by
 have tails : ∀ (l : List Pr) (cur : List Nat), (∀ x, x ∈ l → PrL s d x) → partsGo (joinT [44] (l.map (toldN s))) 0 cur = cur :: l.map (toldN s) := by
  intro l
  induction l with
  | nil => intro cur _; rfl
  | cons x l ih =>
   intro cur h;simp only [List.map_cons, joinT, List.cons_append, List.nil_append];rw [partsGo, if_neg (by decide), if_neg (by decide), if_pos ⟨rfl, rfl⟩, told_go hs d x _ 0 _ (h x List.mem_cons_self) (by omega), ih _ (fun y hy => h y (List.mem_cons_of_mem _ hy))];simp
 cases l with
 | nil => rfl
 | cons x l =>
  unfold partsN
  have hne : joinN ((x :: l).map (toldN s)) [44] ≠ [] := by
   simp only [List.map_cons, joinN];intro e;exact told_nonempty (List.append_eq_nil_iff.1 e).1
  rw [if_neg hne];simp only [List.map_cons, joinN];rw [told_go hs d x _ 0 _ (hl x List.mem_cons_self) (by omega), tails l _ (fun y hy => hl y (List.mem_cons_of_mem _ hy))];simp
theorem all_back {f : List Nat → Pr × Bool} {k : Int} {g : Pr → List Nat} : ∀ {l acc : List Pr}, (∀ x, x ∈ l → f (g x) = (x, true)) → allF f k (l.map g) acc = (.mk k 0 0 zv (acc ++ l), true)
 | [], acc, _ => by simp [allF]
 | x :: l, acc, h => by
  have hx := h x List.mem_cons_self;rw [List.map_cons, allF, hx, if_pos rfl, all_back (fun y hy => h y (List.mem_cons_of_mem _ hy))];simp
theorem read_back {s : Sch} (hs : Names s) : ∀ (d : Nat) (q : Pr), PrL s d q → readF s d (toldN s q) = (q, true)
 | 0, _, h => h.elim
 | d + 1, q, ⟨h1, h2⟩ => by
  have hw := word_wf hs h1
  have e0 : toldN s q = wordN s q ++ restN s q [] := by have := told_split (s := s) (q := q) (t := []); simpa using this
  by_cases k : q.kind = 4 ∨ q.kind = 5 ∨ q.kind = 6
  ·have e1 : restN s q [] = 40 :: (joinN (q.l.map (toldN s)) [44] ++ [41]) := by unfold restN; rw [if_pos k]
   have hc : cutN (toldN s q) [40] = (wordN s q, joinN (q.l.map (toldN s)) [44] ++ [41], true) := by
    rw [e0, e1]; exact cut_at fun x hx => (hw x hx).1
   have hk : kindN (wordN s q) = q.kind := by
    rcases k with k | k | k
    ·rw [show wordN s q = [97, 110, 100] by unfold wordN; simp [k], k]; decide
    ·rw [show wordN s q = [111, 114] by unfold wordN; simp [k], k]; decide
    ·rw [show wordN s q = [110, 111, 116] by unfold wordN; simp [k], k]; decide
   have bare : q.col = 0 ∧ q.op = 0 ∧ q.v = zv := by
    rcases h1 with h | h | h | h | h
    ·exfalso; have := h.1; omega
    ·exfalso; have := h.1; omega
    ·exfalso; have := h.1; omega
    ·exact ⟨h.2.1, h.2.2.1, h.2.2.2.1⟩
    ·exact ⟨h.2.1, h.2.2.1, h.2.2.2.1⟩
   unfold readF;rw [hc];simp only;rw [if_neg (by simp), cutS_at, hk, if_neg (by rintro (h | h); omega; cases h), parts_join hs h2, all_back (fun x hx => read_back hs d x (h2 x hx))];have hq : Pr.mk q.kind 0 0 zv ([] ++ q.l) = q := pr_ext rfl bare.1.symm bare.2.1.symm bare.2.2.symm rfl;rw [hq]
  ·have e1 : restN s q [] = [] := by unfold restN; rw [if_neg k]
   have hc : cutN (toldN s q) [40] = (toldN s q, [], false) := cut_none fun x hx => by
    rw [e0, e1, List.append_nil] at hx; exact (hw x hx).1
   unfold readF;rw [hc];simp only;rw [if_pos trivial];exact words_back hs h1 k
end Go.Lib
end

section
set_option maxRecDepth 10000
namespace Go.Lib
open Go.Vm Go.Dv Go.Srt
theorem one_oneB {s : Sch} {q : Pr} (h : OneP s q) : oneB s q = true := by
 unfold oneB bareB;rcases h with ⟨k, c, o, v, l⟩ | ⟨k, c, o, nu, is, ⟨cl, hc, kk⟩, l, nn⟩ | ⟨k, c, o, v, l⟩ | ⟨k, c, o, v, l⟩ | ⟨k, c, o, v, l⟩
 ·rw [if_pos k]; simp [c, o, v, l]
 ·rw [if_neg (by omega), if_pos k];simp only [decide_eq_true_eq];exact ⟨c.1, c.2, o.1, o.2, is, nu, by rw [hc, kk]; rfl, by rw [l]; rfl⟩
 ·rw [if_neg (by omega), if_neg (by omega), if_pos k];simp only [decide_eq_true_eq];exact ⟨c.1, c.2, o, v, by rw [l]; rfl⟩
 ·rw [if_neg (by omega), if_neg (by omega), if_neg (by omega), if_pos k];have : (q.l.length : Int) ≤ 8 := (by omega);simp [c, o, v, this]
 ·rw [if_neg (by omega), if_neg (by omega), if_neg (by omega), if_neg (by omega), if_pos k];have : (q.l.length : Int) = 1 := (by omega);simp [c, o, v, this]
theorem look_yes {s : Sch} : ∀ {d : Nat} {q : Pr} {n : Nat}, PrL s d q → n + cntP q ≤ 64 → lookF s d q n = (true, n + cntP q)
 | 0, _, _, h, _ => h.elim
 | d + 1, q, n, ⟨h1, h2⟩, hn => by
  have hc := cntP_eq (q := q)
  have key : ∀ (l : List Pr) (m : Nat), (∀ x, x ∈ l → PrL s d x) → m + cntPs l ≤ 64 → lookL (lookF s d) l m = (true, m + cntPs l) := by
   intro l
   induction l with
   | nil => intro m _ _; simp [lookL, cntPs]
   | cons x l ih =>
    intro m hl hm;simp only [cntPs] at hm ⊢;have hx := look_yes (n := m) (hl x List.mem_cons_self) (by omega);unfold lookL;rw [hx, if_pos rfl, ih _ (fun y hy => hl y (List.mem_cons_of_mem _ hy)) (by simp only; omega)];simp only [Nat.add_assoc]
  unfold lookF;rw [if_neg (by rintro (h | h); omega; rw [one_oneB h1] at h; cases h), key q.l (n + 1) h2 (by omega), hc];simp only [Nat.add_assoc]
theorem parseP_back {s : Sch} (hs : Names s) {q : Pr} (h : PrL s 5 q) (hc : cntP q ≤ 64) : parseP s (toldN s q) = (q, true) := by
 unfold parseP;rw [read_back hs 5 q h]
 have hp : predN s q = toldN s q := by
  unfold predN;rw [look_yes h (by omega), if_pos rfl]
 rw [if_pos ⟨rfl, told_nonempty, hp⟩]
theorem parseP_right {s : Sch} {t : List Nat} {q : Pr} (h : parseP s t = (q, true)) : PrL s 5 q ∧ toldN s q = t := by
 unfold parseP at h;split at h
 ·rename_i hh;simp only [Prod.mk.injEq, and_true] at h;subst h;obtain ⟨_, h2, h3⟩ := hh;unfold predN at h3;split at h3
  ·rename_i hl;exact ⟨look_right read_pv hl, h3⟩
  ·exact absurd h3.symm h2
 ·simp only [Prod.mk.injEq] at h;exact absurd h.2 (by simp)
theorem look_cnt {s : Sch} : ∀ {d : Nat} {q : Pr} {n : Nat}, (lookF s d q n).1 = true → (lookF s d q n).2 = n + cntP q
 | 0, _, _, h => by cases h
 | d + 1, q, n, h => by
  have key : ∀ (l : List Pr) (m : Nat), (lookL (lookF s d) l m).1 = true → (lookL (lookF s d) l m).2 = m + cntPs l := by
   intro l
   induction l with
   | nil => intro m _; simp [lookL, cntPs]
   | cons x l ih =>
    intro m hm;unfold lookL at hm ⊢
    by_cases c : (lookF s d x m).1 = true
    ·rw [if_pos c] at hm ⊢;rw [ih _ hm, look_cnt c];simp only [cntPs]; omega
    ·rw [if_neg c] at hm; cases hm
  unfold lookF at h ⊢
  by_cases c : 64 < n + 1 ∨ oneB s q = false
  ·rw [if_pos c] at h; cases h
  ·rw [if_neg c] at h ⊢;rw [key _ _ h, cntP_eq]; omega
theorem parseP_cnt {s : Sch} {t : List Nat} {q : Pr} (h : parseP s t = (q, true)) : cntP q ≤ 64 := by
 unfold parseP at h;split at h
 ·rename_i hh;simp only [Prod.mk.injEq, and_true] at h;subst h;obtain ⟨_, h2, h3⟩ := hh;unfold predN at h3;split at h3
  ·rename_i hl;have e1 := look_cnt hl;have e2 := lookF_le hl;omega
  ·exact absurd h3.symm h2
 ·simp only [Prod.mk.injEq] at h;exact absurd h.2 (by simp)
end Go.Lib
end

section
set_option maxRecDepth 10000
namespace Go.Lib
open Go.Vm Go.Dv Go.Srt
theorem name_ne {x : List Nat} (h : NameOk x) {c : Nat} (hc : c ∈ x) : 97 ≤ c ∧ c ≤ 122 := h.2.2 c hc
theorem OkS.nm {s : Sch} (h : OkS s) : Names s := ⟨fun c hc x hx => by have := name_ne (h.names c hc) hx; unfold WdC; omega, h.inj⟩
theorem OkS.short {s : Sch} (h : OkS s) : Shorts s := fun c hc => by have := (h.names c hc).2.1; omega
theorem nameS_let {s : Sch} (h : OkS s) {c : Int} {x : Nat} (hx : x ∈ nameS s c) : 97 ≤ x ∧ x ≤ 122 := by
 unfold nameS at hx;split at hx
 ·rename_i cl hc; exact name_ne (h.names cl (List.mem_of_getElem? hc)) hx
 ·simp at hx
theorem inB_iff {s : Sch} {c : Int} : inB s c = true ↔ 0 ≤ c ∧ c < s.length := by unfold inB; exact decide_eq_true_iff
theorem split_joinT : ∀ (l : List (List Nat)) (x : List Nat) (f : Nat), l.length ≤ f → (∀ y, y ∈ x :: l → ∀ c, c ∈ y → c ≠ 44) → splitF (f + 1) (x ++ joinT [44] l) [44] = x :: l
 | [], x, f, _, h => by
  rw [show x ++ joinT [44] [] = x by simp [joinT]];exact splitF_no (h x List.mem_cons_self)
 | y :: l, x, 0, hf, _ => by simp at hf
 | y :: l, x, f + 1, hf, h => by
  rw [show x ++ joinT [44] (y :: l) = x ++ 44 :: (y ++ joinT [44] l) by simp [joinT], splitF_at (h x List.mem_cons_self), split_joinT l y f (by simp at hf; omega) (fun z hz => h z (List.mem_cons_of_mem _ hz))]
theorem joinT_len : ∀ l : List (List Nat), l.length ≤ (joinT [44] l).length
 | [] => by simp
 | x :: l => by have := joinT_len l; simp only [joinT, List.length_append, List.length_cons, List.length_nil]; omega
theorem split_join {l : List (List Nat)} (hl : l ≠ []) (h : ∀ y, y ∈ l → ∀ c, c ∈ y → c ≠ 44) : Vm.splitN (joinN l [44]) [44] = l := by
 cases l with
 | nil => exact absurd rfl hl
 | cons x l =>
  have := joinT_len l;exact split_joinT l x _ (by simp only [joinN, List.length_append]; omega) h
theorem pars_back {α : Type} {f : Nat → List Nat → α × Bool} {g : α → List Nat} : ∀ {l acc : List α} {k : Nat}, (∀ (i : Nat) x, l[i]? = some x → f (k + i) (g x) = (x, true)) → parsF f k (l.map g) acc = (acc ++ l, true)
 | [], acc, k, _ => by simp [parsF]
 | x :: l, acc, k, h => by
  have hx := h 0 x rfl;rw [Nat.add_zero] at hx
  rw [List.map_cons, parsF, hx, if_pos rfl, pars_back fun i y hy => by
   have := h (i + 1) y (by simpa using hy)
   rw [← this]; congr 1; omega]
  simp
theorem part_back {α : Type} {f : Nat → List Nat → α × Bool} {g : α → List Nat} {l : List α} (hl : l ≠ []) (hc : ∀ x, x ∈ l → ∀ c, c ∈ g x → c ≠ 44) (h : ∀ (i : Nat) x, l[i]? = some x → f i (g x) = (x, true)) : partF f (joinN (l.map g) [44]) = (l, true) := by
 unfold partF;rw [split_join (by simpa using hl) (fun y hy => by obtain ⟨x, hx, rfl⟩ := List.mem_map.1 hy; exact hc x hx), pars_back (fun i x hx => by rw [Nat.zero_add]; exact h i x hx)];simp
theorem val_any {v : Vl} {c : Nat} (hc : c ∈ valN v) : WdC c ∧ c < 256 := by
 cases hn : v.null with
 | true =>
  unfold valN at hc;rw [if_pos hn] at hc;have key : ∀ c, c ∈ ([110, 117, 108, 108] : List Nat) → WdC c ∧ c < 256 := (by unfold WdC; decide);exact key c hc
 | false =>
  refine ⟨val_chars hn hc, ?_⟩;unfold valN at hc;rw [if_neg (by simp [hn])] at hc;split at hc
  ·have := itoa_chars hc; omega
  ·rcases List.mem_cons.1 hc with rfl | hc
   ·omega
   ·obtain ⟨x, hx, hc⟩ := List.mem_flatten.1 hc;obtain ⟨b, _, rfl⟩ := List.mem_map.1 hx;have := hexN_chars hc; omega
theorem val_any_len {v : Vl} (h : isB v = true) : (valN v).length ≤ 200 := by
 cases hn : v.null with
 | true => unfold valN; rw [if_pos hn]; simp
 | false => exact val_len hn h
theorem val_back {v : Vl} {k : Int} (hk : v.kind = k) (hi : isB v = true) (h64 : In64 v.n) : parseV k (valN v) = (v, true) := by
 cases hn : v.null with
 | false => exact parseV_back hk hn hi h64
 | true =>
  have hi' := hi;unfold isB at hi';rw [decide_eq_true_iff, if_pos hn] at hi'
  have hv : valN v = nullN := by unfold valN nullN; rw [if_pos hn]
  have ha : asV k nullN = v := by
   rw [vl_ext];unfold asV;rw [if_pos rfl];exact ⟨hn.symm, hk.symm, hi'.2.1.symm, hi'.2.2.symm⟩
  unfold parseV;rw [hv, ha, if_pos ⟨hi, hv⟩]
theorem holdsB_iff {c : Cl} {v : Vl} : holdsB c v = true ↔ isB v = true ∧ v.kind = c.kind ∧ (c.null = true ∨ v.null = false) := by
 unfold holdsB;simp [and_assoc]
theorem fitsB_at : ∀ {s : Sch} {r : Row} {i : Nat} {v : Vl}, fitsB s r = true → r[i]? = some v → ∃ c, s[i]? = some c ∧ holdsB c v = true
 | c :: s, w :: r, 0, v, h, hv => by
  simp at hv; subst hv;unfold fitsB at h;rw [Bool.and_eq_true] at h;exact ⟨c, rfl, h.1⟩
 | c :: s, w :: r, i + 1, v, h, hv => by
  unfold fitsB at h;rw [Bool.and_eq_true] at h;exact fitsB_at (s := s) (r := r) h.2 (by simpa using hv)
 | [], [], i, v, _, hv => by simp at hv
 | [], v :: r, _, _, h, _ => by cases h
 | c :: s, [], _, _, h, _ => by cases h
theorem row_back {s : Sch} {r : Row} (h : fitsB s r = true) (hs : 1 ≤ s.length) (hv : ∀ v, v ∈ r → In64 v.n) : partF (rowP s) (joinN (r.map valN) [44]) = (r, true) := by
 have hl := fitsB_len h;refine part_back (fun e => by rw [e] at hl; simp at hl; omega) (fun v _ c hc => (val_any hc).1.2.2.2) fun i v hi => ?_;obtain ⟨c, hc, hh⟩ := fitsB_at h hi;obtain ⟨h1, h2, _⟩ := holdsB_iff.1 hh;unfold rowP;rw [hc];exact val_back h2 h1 (hv v (List.mem_of_getElem? hi))
theorem cutS_no {w : List Nat} {c : Nat} (h : ∀ x, x ∈ w → x ≠ c) : cutSN w [c] = (w, false) := by
 unfold cutSN sfx
 rw [show pfx [c].reverse w.reverse = false by
  cases e : w.reverse with
  | nil => rfl
  | cons a t =>
   have : a ∈ w := (by rw [← List.mem_reverse, e]; exact List.mem_cons_self);rw [show [c].reverse = [c] from rfl, pfx_one]
   exact decide_eq_false (fun e => h a this e.symm)]
 rfl
theorem set_back {s : Sch} (hs : OkS s) {x : Sx} (h : setB s x = true) (hv : In64 x.v.n) : setRd s (setT s x) = (x, true) := by
 unfold setB at h;simp only [Bool.and_eq_true] at h;obtain ⟨⟨⟨h1, h2⟩, h3⟩, h4⟩ := h;obtain ⟨v1, v2, _⟩ := holdsB_iff.1 h3;have hin := inB_iff.1 h1;have hf := find_col hs.nm hin;have hci : colI s (nameS s x.col) = x.col := (by unfold colI; rw [hf]; omega);have hn := fun c (hc : c ∈ nameS s x.col) => nameS_let hs hc
 have key : cutN (setT s x) [61] = (nameS s x.col ++ (if x.add = true then [43] else []), valN x.v, true) ∧ cutSN (nameS s x.col ++ (if x.add = true then [43] else [])) [43] = (nameS s x.col, x.add) := by
  unfold setT
  cases x.add with
  | true =>
   refine ⟨?_, cutS_at⟩
   have := cut_at (c := 61) (w := nameS s x.col ++ [43]) (t := valN x.v) (fun y hy => by
    rcases List.mem_append.1 hy with hy | hy
    ·have := hn y hy; omega
    ·simp at hy; omega)
   simpa using this
  | false =>
   rw [if_neg (by simp), if_neg (by simp), List.append_nil];refine ⟨?_, cutS_no fun y hy => by have := hn y hy; omega⟩;have := cut_at (c := 61) (w := nameS s x.col) (t := valN x.v) (fun y hy => by have := hn y hy; omega);simpa using this
 unfold setRd;rw [key.1];simp only;rw [key.2];simp only;rw [hf, if_neg (by omega), hci, val_back v2 v1 hv]
theorem setT_no {s : Sch} (hs : OkS s) {x : Sx} {c : Nat} (h : c ∈ setT s x) : WdC c ∧ c < 256 := by
 unfold setT at h;rcases List.mem_append.1 h with h | h
 ·rcases List.mem_append.1 h with h | h
  ·have := nameS_let hs h; unfold WdC; omega
  ·split at h
   ·simp at h; unfold WdC; omega
   ·simp at h; unfold WdC; omega
 ·exact val_any h
theorem setsGo_all {s : Sch} : ∀ {l pre : List Sx}, setsGo s pre l = true → ∀ x, x ∈ l → setB s x = true
 | [], _, _, x, hx => by simp at hx
 | y :: l, pre, h, x, hx => by
  unfold setsGo at h;simp only [Bool.and_eq_true] at h;rcases List.mem_cons.1 hx with rfl | hx
  ·exact h.1.1
  ·exact setsGo_all h.2 x hx
theorem agg_back {s : Sch} (hs : OkS s) {a : Ag} (h : aggB s a = true) : aggP s (aggT s a) = (a, true) := by
 unfold aggB at h;obtain ⟨k, c⟩ := a;simp only at h
 by_cases k1 : k = 1
 ·subst k1;simp at h; subst h;have e : aggT s ⟨1, 0⟩ = [99, 111, 117, 110, 116] := (by unfold aggT; rfl);unfold aggP;rw [e];rfl
 ·rw [if_neg k1] at h
  have hk : (k = 2 ∨ k = 3 ∨ k = 4) ∧ inB s c = true := by
   split at h
   ·rename_i e; rw [Bool.and_eq_true] at h; exact ⟨.inl e, h.1⟩
   ·split at h
    ·rename_i e; exact ⟨by omega, h⟩
    ·cases h
  have hin := inB_iff.1 hk.2;have hf := find_col hs.nm hin
  have hci : colI s (nameS s c) = c := by unfold colI; rw [hf]; omega
  have key : ∀ (w : List Nat), (∀ x, x ∈ w → x ≠ 40) → (aggW[k.toNat]?).getD [] = w → max (findN aggW w) 0 = k → aggP s (aggT s ⟨k, c⟩) = (⟨k, c⟩, true) := fun w hw e1 e2 => by
   have hcut : cutN (aggT s ⟨k, c⟩) [40] = (w, nameS s c ++ [41], true) := by
    unfold aggT;simp only;rw [e1, if_neg k1];have := cut_at (c := 40) (w := w) (t := nameS s c ++ [41]) hw;simpa using this
   unfold aggP trimSN;rw [hcut];simp only;rw [if_neg (by simp), cutS_at, e2, hci, hf];simp [hin.1]
  rcases hk.1 with rfl | rfl | rfl
  ·exact key [115, 117, 109] (by decide) rfl (by decide)
  ·exact key [109, 105, 110] (by decide) rfl (by decide)
  ·exact key [109, 97, 120] (by decide) rfl (by decide)
theorem aggW_chars : ∀ w, w ∈ aggW → ∀ c, c ∈ w → 97 ≤ c ∧ c ≤ 122 := by decide
theorem aggT_no {s : Sch} (hs : OkS s) {a : Ag} {c : Nat} (h : c ∈ aggT s a) : c ≠ 32 ∧ c ≠ 44 ∧ c < 256 := by
 unfold aggT at h;rcases List.mem_append.1 h with h | h
 ·cases e : aggW[a.kind.toNat]? with
  | none => rw [e] at h; simp at h
  | some w =>
   rw [e] at h;have := aggW_chars w (List.mem_of_getElem? e) c (by simpa using h);omega
 ·split at h
  ·simp at h
  ·simp only [List.mem_append, List.mem_singleton] at h;rcases h with (h | h) | h
   ·omega
   ·have := nameS_let hs h; omega
   ·omega
theorem col_back {s : Sch} (hs : OkS s) {c : Int} (h : inB s c = true) : colP s (nameS s c) = (c, true) := by
 have hin := inB_iff.1 h;have hf := find_col hs.nm hin;unfold colP colI;rw [hf];simp [hin.1];omega
structure Shp (o : Op) : Prop where
 row : o.kind ≠ 1 → o.row = []
 sets : o.kind ≠ 2 → o.sets = []
 cols : o.kind ≠ 4 → o.cols = []
 aggs : o.kind ≠ 5 → o.group = 0 ∧ o.aggs = []
structure OpR (s : Sch) (o : Op) : Prop where
 shp : Shp o
 expr : exprB s o = true
 kind : 1 ≤ o.kind ∧ o.kind ≤ 6
 pred : 2 ≤ o.kind → o.kind ≤ 5 → PrL s 5 o.pred ∧ cntP o.pred ≤ 64
 prz : o.kind = 1 ∨ o.kind = 6 → o.pred = pr0
 row : ∀ v, v ∈ o.row → In64 v.n
 sets : ∀ x, x ∈ o.sets → In64 x.v.n
structure OpP (s : Sch) (o : Op) : Prop where
 shp : Shp o
 pred : o.pred = pr0 ∨ (PrL s 5 o.pred ∧ cntP o.pred ≤ 64)
 row : ∀ v, v ∈ o.row → In64 v.n
 sets : ∀ x, x ∈ o.sets → In64 x.v.n
 len : o.row.length < 1000000 ∧ o.sets.length < 1000000 ∧ o.cols.length < 1000000 ∧ o.aggs.length < 1000000
theorem op_ext {a b : Op} (h1 : a.kind = b.kind) (h2 : a.row = b.row) (h3 : a.pred = b.pred) (h4 : a.sets = b.sets) (h5 : a.cols = b.cols) (h6 : a.group = b.group) (h7 : a.aggs = b.aggs) : a = b := by
 cases a; cases b; simp only at h1 h2 h3 h4 h5 h6 h7; subst h1 h2 h3 h4 h5 h6 h7; rfl
theorem groupT_no {s : Sch} (hs : OkS s) {g : Int} {c : Nat} (h : c ∈ groupT s g) : c ≠ 32 ∧ c < 256 := by
 unfold groupT at h;split at h
 ·simp at h; omega
 ·have := nameS_let hs h; omega
theorem body_back {s : Sch} (hs : OkS s) {o : Op} (h : OpR s o) : bodyF s (headT s o) = (withP o pr0, true) := by
 have hk : o.kind = 1 ∨ o.kind = 2 ∨ o.kind = 3 ∨ o.kind = 4 ∨ o.kind = 5 ∨ o.kind = 6 := (by have := h.kind; omega);have he := h.expr;unfold exprB at he;rcases hk with k | k | k | k | k | k
 ·have e : headT s o = [105, 110, 115, 101, 114, 116] ++ 32 :: joinN (o.row.map valN) [44] := (by unfold headT; rw [if_pos k]; simp);have hc : cutN (headT s o) [32] = ([105, 110, 115, 101, 114, 116], joinN (o.row.map valN) [44], true) := (by rw [e]; exact cut_at (by decide));rw [if_pos k] at he;simp only [Bool.and_eq_true] at he;unfold bodyF;rw [hc];simp only;rw [if_pos trivial, row_back he.2 hs.len.1 h.row];have ea := h.shp.aggs (by omega);rw [show (⟨1, o.row, pr0, [], [], 0, []⟩ : Op) = withP o pr0 from op_ext k.symm rfl rfl (h.shp.sets (by omega)).symm (h.shp.cols (by omega)).symm ea.1.symm ea.2.symm]
 ·have e : headT s o = [117, 112, 100, 97, 116, 101] ++ 32 :: joinN (o.sets.map (setT s)) [44] := (by unfold headT; rw [if_neg (by omega), if_pos k]; simp);have hc : cutN (headT s o) [32] = ([117, 112, 100, 97, 116, 101], joinN (o.sets.map (setT s)) [44], true) := (by rw [e]; exact cut_at (by decide));rw [if_neg (by omega), if_pos k] at he;unfold setsB at he;simp only [Bool.and_eq_true, decide_eq_true_eq] at he;obtain ⟨_, hg, hl, _⟩ := he;have hp : partF (fun _ => setRd s) (joinN (o.sets.map (setT s)) [44]) = (o.sets, true) := part_back (fun e => by rw [e] at hl; simp at hl) (fun x _ c hc => (setT_no hs hc).1.2.2.2) fun i x hx => set_back hs (setsGo_all hg x (List.mem_of_getElem? hx)) (h.sets x (List.mem_of_getElem? hx))
  unfold bodyF;rw [hc];simp only;rw [if_neg (by decide), if_pos trivial, hp];have ea := h.shp.aggs (by omega);rw [show (⟨2, [], pr0, o.sets, [], 0, []⟩ : Op) = withP o pr0 from op_ext k.symm (h.shp.row (by omega)).symm rfl rfl (h.shp.cols (by omega)).symm ea.1.symm ea.2.symm]
 ·have e : headT s o = [100, 101, 108, 101, 116, 101] := (by unfold headT; rw [if_neg (by omega), if_neg (by omega), if_pos k]);have hc : cutN (headT s o) [32] = ([100, 101, 108, 101, 116, 101], [], false) := (by rw [e]; exact cut_none (by decide));unfold bodyF;rw [hc];simp only;rw [if_neg (by decide), if_neg (by decide), if_pos trivial];have ea := h.shp.aggs (by omega);rw [show (⟨3, [], pr0, [], [], 0, []⟩ : Op) = withP o pr0 from op_ext k.symm (h.shp.row (by omega)).symm rfl (h.shp.sets (by omega)).symm (h.shp.cols (by omega)).symm ea.1.symm ea.2.symm]
 ·have e : headT s o = [115, 99, 97, 110] ++ 32 :: joinN (o.cols.map (nameS s)) [44] := (by unfold headT; rw [if_neg (by omega), if_neg (by omega), if_neg (by omega), if_pos k]; simp);have hc : cutN (headT s o) [32] = ([115, 99, 97, 110], joinN (o.cols.map (nameS s)) [44], true) := (by rw [e]; exact cut_at (by decide));rw [if_neg (by omega), if_neg (by omega), if_neg (by omega), if_pos k] at he;unfold colsB at he;simp only [Bool.and_eq_true, decide_eq_true_eq, Bool.not_eq_true', List.any_eq_false] at he;obtain ⟨_, ⟨hl, _⟩, hg⟩ := he;have hp : partF (fun _ => colP s) (joinN (o.cols.map (nameS s)) [44]) = (o.cols, true) := part_back (fun e => by rw [e] at hl; simp at hl) (fun x _ c hc => by have := nameS_let hs hc; omega) fun i x hx => col_back hs (by have := hg x (List.mem_of_getElem? hx); simpa using this)
  unfold bodyF;rw [hc];simp only;rw [if_neg (by decide), if_neg (by decide), if_neg (by decide), if_pos trivial, hp];have ea := h.shp.aggs (by omega);rw [show (⟨4, [], pr0, [], o.cols, 0, []⟩ : Op) = withP o pr0 from op_ext k.symm (h.shp.row (by omega)).symm rfl (h.shp.sets (by omega)).symm rfl ea.1.symm ea.2.symm]
 ·have e : headT s o = [97, 103, 103] ++ 32 :: (groupT s o.group ++ 32 :: joinN (o.aggs.map (aggT s)) [44]) := (by unfold headT; rw [if_neg (by omega), if_neg (by omega), if_neg (by omega), if_neg (by omega), if_pos k]; simp);have hc : cutN (headT s o) [32] = ([97, 103, 103], groupT s o.group ++ 32 :: joinN (o.aggs.map (aggT s)) [44], true) := (by rw [e]; exact cut_at (by decide));have hc2 : cutN (groupT s o.group ++ 32 :: joinN (o.aggs.map (aggT s)) [44]) [32] = (groupT s o.group, joinN (o.aggs.map (aggT s)) [44], true) := cut_at fun c hc => (groupT_no hs hc).1;rw [if_neg (by omega), if_neg (by omega), if_neg (by omega), if_neg (by omega), if_pos k] at he
  unfold aggsB at he;simp only [Bool.and_eq_true, Bool.or_eq_true, decide_eq_true_eq, Bool.not_eq_true', List.any_eq_false] at he;obtain ⟨⟨_, hgr⟩, ⟨hl, _⟩, hg⟩ := he;have hp : partF (fun _ => aggP s) (joinN (o.aggs.map (aggT s)) [44]) = (o.aggs, true) := part_back (fun e => by rw [e] at hl; simp at hl) (fun x _ c hc => (aggT_no hs hc).2.1) fun i x hx => agg_back hs (by have := hg x (List.mem_of_getElem? hx); simpa using this)
  have hG : (if groupT s o.group = [45] then (-1 : Int) else colI s (groupT s o.group)) = o.group ∧ (decide (groupT s o.group = [45]) || decide (0 ≤ findC s (groupT s o.group))) = true := by
   rcases hgr with e | e
   ·rw [e]; exact ⟨rfl, rfl⟩
   ·have hin := inB_iff.1 e;have hf := find_col hs.nm hin;have e1 : groupT s o.group = nameS s o.group := (by unfold groupT; rw [if_neg (by omega)]);have e2 : nameS s o.group ≠ [45] := fun e => (by have := nameS_let hs (c := o.group) (x := 45) (by rw [e]; simp); omega);rw [e1, if_neg e2, hf];refine ⟨?_, by simp [hin.1]⟩;unfold colI; rw [hf]; omega
  unfold bodyF;rw [hc];simp only;rw [hc2];simp only;rw [if_neg (by decide), if_neg (by decide), if_neg (by decide), if_neg (by decide), if_pos trivial, hp, hG.1, hG.2];rw [show (⟨5, [], pr0, [], [], o.group, o.aggs⟩ : Op) = withP o pr0 from op_ext k.symm (h.shp.row (by omega)).symm rfl (h.shp.sets (by omega)).symm (h.shp.cols (by omega)).symm rfl rfl];rfl
 ·have e : headT s o = [114, 111, 108, 108, 98, 97, 99, 107] := (by unfold headT; rw [if_neg (by omega), if_neg (by omega), if_neg (by omega), if_neg (by omega), if_neg (by omega)]);have hc : cutN (headT s o) [32] = ([114, 111, 108, 108, 98, 97, 99, 107], [], false) := (by rw [e]; exact cut_none (by decide));unfold bodyF;rw [hc];simp only;rw [if_neg (by decide), if_neg (by decide), if_neg (by decide), if_neg (by decide), if_neg (by decide), if_pos trivial];have ea := h.shp.aggs (by omega);rw [show rollO = withP o pr0 from op_ext k.symm (h.shp.row (by omega)).symm rfl (h.shp.sets (by omega)).symm (h.shp.cols (by omega)).symm ea.1.symm ea.2.symm]
theorem idx_word : ∀ {a t : List Nat}, (∀ c, c ∈ a → c ≠ 32) → indexN (a ++ t) whereN = (indexN t whereN).map (· + a.length)
 | [], t, _ => by
  rw [List.nil_append];cases indexN t whereN <;> rfl
 | x :: a, t, h => by
  have hx : Nat.beq 32 x = false := (by rw [nbeq_d]; exact decide_eq_false (fun e => h x List.mem_cons_self e.symm));rw [List.cons_append, indexN, show pfx whereN (x :: (a ++ t)) = false by simp only [whereN, pfx, hx, cond_false], idx_word fun c hc => h c (List.mem_cons_of_mem _ hc)]
  cases indexN t whereN with
  | none => rfl
  | some i => simp; omega
theorem pfx_word : ∀ {w b t : List Nat}, (∀ c, c ∈ w → c ≠ 32) → (∀ c, c ∈ b → c ≠ 32) → pfx (w ++ [32]) (b ++ 32 :: t) = decide (w = b)
 | [], [], t, _, _ => by simp [pfx]
 | [], y :: b, t, _, h => by
  simp [pfx];exact fun e => h y List.mem_cons_self e.symm
 | x :: w, [], t, h, _ => by
  simp [pfx];exact fun e => absurd e (h x List.mem_cons_self)
 | x :: w, y :: b, t, h, h2 => by
  simp only [List.cons_append, pfx];rw [pfx_word (fun c hc => h c (List.mem_cons_of_mem _ hc)) fun c hc => h2 c (List.mem_cons_of_mem _ hc), nbeq_d]
  by_cases e : x = y <;> simp [e]
theorem pfx_none : ∀ {w b : List Nat}, (∀ c, c ∈ b → c ≠ 32) → pfx (w ++ [32]) b = false
 | [], [], _ => rfl
 | [], y :: b, h => by
  simp [pfx];exact fun e => h y List.mem_cons_self e.symm
 | x :: w, [], _ => rfl
 | x :: w, y :: b, h => by
  simp only [List.cons_append, pfx];rw [pfx_none fun c hc => h c (List.mem_cons_of_mem _ hc)];cases Nat.beq x y <;> rfl
def whereW : List Nat := [119, 104, 101, 114, 101]
theorem idx_sp {t : List Nat} : indexN (32 :: t) whereN = if pfx (whereW ++ [32]) t = true then some 0 else (indexN t whereN).map (· + 1) := by
 have e : pfx whereN (32 :: t) = pfx (whereW ++ [32]) t := (by simp [whereN, whereW, pfx]);rw [indexN, e]
 cases pfx (whereW ++ [32]) t with
 | true => rfl
 | false => cases indexN t whereN <;> rfl
theorem idx_hit {a t : List Nat} (h : ∀ c, c ∈ a → c ≠ 32) : indexN (a ++ (whereN ++ t)) whereN = some a.length := by
 rw [idx_word h, show whereN ++ t = 32 :: (whereW ++ 32 :: t) from rfl, idx_sp, pfx_word (by decide) (by decide), if_pos (by simp)];simp
theorem idx_hit2 {a b t : List Nat} (h : ∀ c, c ∈ a → c ≠ 32) (h2 : ∀ c, c ∈ b → c ≠ 32) (h3 : whereW ≠ b) : indexN (a ++ 32 :: (b ++ (whereN ++ t))) whereN = some (a ++ 32 :: b).length := by
 rw [idx_word h, idx_sp, show b ++ (whereN ++ t) = b ++ 32 :: (whereW ++ 32 :: t) from rfl, pfx_word (by decide) h2, if_neg (by simp [h3])];have := idx_hit (t := t) h2;rw [show whereN ++ t = 32 :: (whereW ++ 32 :: t) from rfl] at this;rw [this];simp; omega
theorem idx_hit3 {a b d t : List Nat} (h : ∀ c, c ∈ a → c ≠ 32) (h2 : ∀ c, c ∈ b → c ≠ 32) (h3 : whereW ≠ b) (h4 : ∀ c, c ∈ d → c ≠ 32) (h5 : whereW ≠ d) : indexN (a ++ 32 :: (b ++ 32 :: (d ++ (whereN ++ t)))) whereN = some (a ++ 32 :: (b ++ 32 :: d)).length := by
 rw [idx_word h, idx_sp, pfx_word (by decide) h2, if_neg (by simp [h3]), idx_hit2 h2 h4 h5];simp; omega
theorem idx_none1 {a : List Nat} (h : ∀ c, c ∈ a → c ≠ 32) : indexN a whereN = none := by
 have := idx_word (t := []) h;rw [List.append_nil] at this;rw [this]; rfl
theorem idx_none2 {a b : List Nat} (h : ∀ c, c ∈ a → c ≠ 32) (h2 : ∀ c, c ∈ b → c ≠ 32) : indexN (a ++ 32 :: b) whereN = none := by
 rw [idx_word h, idx_sp, pfx_none h2, if_neg (by simp), idx_none1 h2];rfl
end Go.Lib
end

section
set_option maxRecDepth 10000
namespace Go.Lib
open Go.Vm Go.Dv Go.Srt
variable {p : Prog} {ext : Ext} {F : Nat → Nat}
attribute [-simp] bin_and bin_xor
def EqI (H0 : HpD) (fv : D) (w : Nat) (fr : FrD) (H : HpD) : Prop :=
 w = 0 ∧ fr = [(1, prsD []), (2, fv), (15, prsD []), (16, .lit (.int .i64 0)), (17, .lit (.int .i64 0))] ∧ Sub H0 H
theorem eqf0 (L : HExpr p ext F) : FnD p ext (F 298) [prsD [], prsD [], .func (F 294) [] []] (.lit (.bool true)) := by
 refine fn_of L.h298 (M := M298) rfl ok298 rfl fun H => sem_run 9000 _ ?_;simp;refine sem_loop (EqI H (.func (F 294) [] [])) ?_ (k := 0) ⟨rfl, rfl, sR⟩;rintro w fr H' ⟨rfl, rfl, sb⟩;refine sem_run 9000 _ ?_;simp;refine sem_exit (sem_run 9000 _ ?_);simp;refine sem_ret ?_;simp [M298];exact .le sb (D.le_refl _) (by simp)
theorem pred_same0 (L : HExpr p ext F) {q : Pr} (h : q = pr0 ∨ q.kind ≠ 0) : FnD p ext (F 294) [.agg q.c, .agg pr0.c] (.lit (.bool (decide (q.kind = 0)))) := by
 refine fn_of L.h294 (M := M294) rfl ok294 rfl fun H => sem_run 9000 _ ?_;simp;have e1 : pr0.kind = 0 := rfl;have e2 : pr0.col = 0 := rfl;have e3 : pr0.op = 0 := rfl;have e4 : pr0.v = zv := rfl;have e5 : pr0.l = [] := rfl;rcases h with rfl | h
 ·simp [e1, e2, e3, e4];refine sf (schm_equal L.text.schm (a := zv) (b := zv)) ?_;simp [e5];refine sf (eqf0 L) ?_;simp;refine sem_ret ?_;simp [M294];exact .le sR (D.le_refl _) (by simp)
 ·simp [e1, h];refine sem_ret ?_;simp [M294];exact .le sR (D.le_refl _) (by simp)
theorem expr_none (L : HExpr p ext F) {q : Pr} (h : q = pr0 ∨ q.kind ≠ 0) : FnD p ext (F 278) [.agg q.c] (.lit (.bool (decide (q.kind = 0)))) := by
 refine fn_of L.h278 (M := M278) rfl ok278 rfl fun H => sem_run 9000 _ ?_;simp;refine sem_fn (pred_same0 L h) (by simp [D.les, D.le, pr0, pr_c, Pr.kind, Pr.col, Pr.op, Pr.v, Pr.l, zv, byD, byE, prsD]) (sem_run 9000 _ ?_);simp;refine sem_ret ?_;simp [M278];exact .le sR (D.le_refl _) (by simp)
theorem expr_bare (L : HExpr p ext F) {o : Op} {r a st cl ag : Bool} (hp : o.pred = pr0 ∨ o.pred.kind ≠ 0) (hr : r = false → o.row = []) (hs : st = false → o.sets = []) (hc : cl = false → o.cols = []) (hg : ag = false → o.group = 0 ∧ o.aggs = []) : FnD p ext (F 267) [.agg o.c, .lit (.bool r), .lit (.bool a), .lit (.bool st), .lit (.bool cl), .lit (.bool ag)] (.lit (.bool (a || decide (o.pred.kind = 0)))) := by
 refine fn_of L.h267 (M := M267) rfl ok267 rfl fun H => sem_run 9000 _ ?_
 cases a with
 | true =>
  cases r <;> cases st <;> cases cl <;> cases ag
  all_goals
   simp at hr hs hc hg
   try simp only [hr, hs, hc, hg, sxsD, intsD]
   simp [hr, hs, hc, hg, -op_0];refine sem_ret ?_;simp [M267];exact .le sR (D.le_refl _) (by simp)
 | false =>
  cases r <;> cases st <;> cases cl <;> cases ag
  all_goals
   simp at hr hs hc hg
   try simp only [hr, hs, hc, hg, sxsD, intsD]
   simp [hr, -op_0];refine sf (expr_none L hp) ?_
   by_cases k : o.pred.kind = 0
   ·simp [k, hs, hc, hg];refine sem_ret ?_;simp [M267];exact .le sR (D.le_refl _) (by simp)
   ·simp [k];refine sem_ret ?_;simp [M267];exact .le sR (D.le_refl _) (by simp)
theorem prl_kind {s : Sch} {q : Pr} (h : PrL s 5 q) : q.kind ≠ 0 := by
 rcases h.1 with h | h | h | h | h
 ·have := h.1; omega
 ·have := h.1; omega
 ·have := h.1; omega
 ·have := h.1; omega
 ·have := h.1; omega
theorem expr_op (L : HExpr p ext F) {s : Sch} {o : Op} (hsn : s.length < 1000000) (h : OpP s o) : FnD p ext (F 256) [schD s, .agg o.c] (.lit (.bool (exprB s o))) := by
 refine fn_of L.h256 (M := M256) rfl ok256 rfl fun H => sem_run 9000 _ ?_;simp
 have hp : o.pred = pr0 ∨ o.pred.kind ≠ 0 := by
  rcases h.pred with h | h
  ·exact .inl h
  ·exact .inr (prl_kind h.1)
 obtain ⟨n1, n2, n3, n4⟩ := h.len
 by_cases k1 : o.kind = 1
 ·simp [k1];have ha := h.shp.aggs (by omega);refine sf (expr_bare L (r := true) (a := false) (st := false) (cl := false) (ag := false) hp (fun e => by cases e) (fun _ => h.shp.sets (by omega)) (fun _ => h.shp.cols (by omega)) (fun _ => ha)) ?_
  by_cases k : o.pred.kind = 0
  ·simp [k];refine sf (schm_fits L (s := s) (r := o.row) hsn) ?_;simp;refine sem_ret ?_;simp [M256, exprB, k1, k];exact .le sR (D.le_refl _) (by simp)
  ·simp [k];refine sem_ret ?_;simp [M256, exprB, k1, k];exact .le sR (D.le_refl _) (by simp)
 ·by_cases k2 : o.kind = 2
  ·simp [k2];have ha := h.shp.aggs (by omega);refine sf (expr_bare L (r := false) (a := true) (st := true) (cl := false) (ag := false) hp (fun _ => h.shp.row (by omega)) (fun e => by cases e) (fun _ => h.shp.cols (by omega)) (fun _ => ha)) ?_;simp;refine sf (pred_okG L.text (s := s) (q := o.pred)) ?_
   cases ho : (lookF s 5 o.pred 0).1 with
   | true =>
    simp;refine sf (expr_sets L (s := s) (l := o.sets) n2) ?_;simp;refine sem_ret ?_;simp [M256, exprB, okP, k2, ho];exact .le sR (D.le_refl _) (by simp)
   | false =>
    simp;refine sem_ret ?_;simp [M256, exprB, okP, k2, ho];exact .le sR (D.le_refl _) (by simp)
  ·by_cases k3 : o.kind = 3
   ·simp [k3];have ha := h.shp.aggs (by omega);refine sf (expr_bare L (r := false) (a := true) (st := false) (cl := false) (ag := false) hp (fun _ => h.shp.row (by omega)) (fun _ => h.shp.sets (by omega)) (fun _ => h.shp.cols (by omega)) (fun _ => ha)) ?_;simp;refine sf (pred_okG L.text (s := s) (q := o.pred)) ?_;simp;refine sem_ret ?_;simp [M256, exprB, okP, k3];exact .le sR (D.le_refl _) (by simp)
   ·by_cases k4 : o.kind = 4
    ·have ha := h.shp.aggs (by omega);have hb := expr_bare L (o := o) (r := false) (a := true) (st := false) (cl := true) (ag := false) hp (fun _ => h.shp.row (by omega)) (fun _ => h.shp.sets (by omega)) (fun e => by cases e) (fun _ => ha);have hcon := conI L.h283 L.h271 (g := F 270) (cap := .rptr [schR s] 0) (f := fun c => !inB s c) (l := o.cols) n3 (fun z => op_bad_col L)
     by_cases h1 : 1 ≤ o.cols.length
     ·have h1' : (1 : Int) ≤ (o.cols.length : Int) := by omega
      by_cases h2 : o.cols.length ≤ 6
      ·have h2' : (o.cols.length : Int) ≤ 6 := (by omega);simp [k4, h1', h2'];refine sf hcon ?_;simp;refine sf hb ?_;simp;refine sf (pred_okG L.text (s := s) (q := o.pred)) ?_
       cases ho : (lookF s 5 o.pred 0).1 with
       | true =>
        simp;refine sem_ret ?_;simp [M256, exprB, okP, k4, ho, colsB, h1, h2];exact .le sR (D.le_refl _) (by simp)
       | false =>
        simp;refine sem_ret ?_;simp [M256, exprB, okP, k4, ho];exact .le sR (D.le_refl _) (by simp)
      ·have h2' : ¬ (o.cols.length : Int) ≤ 6 := (by omega);simp [k4, h1', h2'];refine sf hb ?_;simp;refine sf (pred_okG L.text (s := s) (q := o.pred)) ?_
       cases ho : (lookF s 5 o.pred 0).1 with
       | true =>
        simp;refine sem_ret ?_;simp [M256, exprB, okP, k4, ho, colsB, h1, h2];exact .le sR (D.le_refl _) (by simp)
       | false =>
        simp;refine sem_ret ?_;simp [M256, exprB, okP, k4, ho];exact .le sR (D.le_refl _) (by simp)
     ·have h1' : ¬ (1 : Int) ≤ (o.cols.length : Int) := (by omega);have h2 : True := trivial;simp [k4, h1'];refine sf hb ?_;simp;refine sf (pred_okG L.text (s := s) (q := o.pred)) ?_
      cases ho : (lookF s 5 o.pred 0).1 with
      | true =>
       simp;refine sem_ret ?_;simp [M256, exprB, okP, k4, ho, colsB, h1];exact .le sR (D.le_refl _) (by simp)
      | false =>
       simp;refine sem_ret ?_;simp [M256, exprB, okP, k4, ho];exact .le sR (D.le_refl _) (by simp)
    ·by_cases k5 : o.kind = 5
     ·have hb := expr_bare L (o := o) (r := false) (a := true) (st := false) (cl := false) (ag := true) hp (fun _ => h.shp.row (by omega)) (fun _ => h.shp.sets (by omega)) (fun _ => h.shp.cols (by omega)) (fun e => by cases e);have hcon := conA L.h285 L.h273 (g := F 272) (cap := .rptr [schR s] 0) (f := fun c => !aggB s c) (l := o.aggs) n4 (fun z => op_bad_agg L)
      by_cases h1 : 1 ≤ o.aggs.length
      ·have h1' : (1 : Int) ≤ (o.aggs.length : Int) := by omega
       by_cases h2 : o.aggs.length ≤ 4
       ·have h2' : (o.aggs.length : Int) ≤ 4 := (by omega);simp [k5, h1', h2'];refine sf hcon ?_;simp;refine sf hb ?_;simp;refine sf (pred_okG L.text (s := s) (q := o.pred)) ?_
        cases ho : (lookF s 5 o.pred 0).1 with
        | false =>
         simp;refine sem_ret ?_;simp [M256, exprB, okP, k5, ho];exact .le sR (D.le_refl _) (by simp)
        | true =>
         by_cases hg : o.group = -1
         ·simp [hg];refine sem_ret ?_;simp [M256, exprB, okP, k5, ho, hg, aggsB, h1, h2];exact .le sR (D.le_refl _) (by simp)
         ·simp [hg];refine sf (expr_in L (s := s) (c := o.group)) ?_
          cases hi : inB s o.group with
          | true =>
           simp;refine sem_ret ?_;simp [M256, exprB, okP, k5, ho, hg, hi, aggsB, h1, h2];exact .le sR (D.le_refl _) (by simp)
          | false =>
           simp;refine sem_ret ?_;simp [M256, exprB, okP, k5, ho, hg, hi];exact .le sR (D.le_refl _) (by simp)
       ·have h2' : ¬ (o.aggs.length : Int) ≤ 4 := (by omega);simp [k5, h1', h2'];refine sf hb ?_;simp;refine sf (pred_okG L.text (s := s) (q := o.pred)) ?_
        cases ho : (lookF s 5 o.pred 0).1 with
        | false =>
         simp;refine sem_ret ?_;simp [M256, exprB, okP, k5, ho];exact .le sR (D.le_refl _) (by simp)
        | true =>
         by_cases hg : o.group = -1
         ·simp [hg];refine sem_ret ?_;simp [M256, exprB, okP, k5, ho, hg, aggsB, h1, h2];exact .le sR (D.le_refl _) (by simp)
         ·simp [hg];refine sf (expr_in L (s := s) (c := o.group)) ?_
          cases hi : inB s o.group with
          | true =>
           simp;refine sem_ret ?_;simp [M256, exprB, okP, k5, ho, hg, hi, aggsB, h1, h2];exact .le sR (D.le_refl _) (by simp)
          | false =>
           simp;refine sem_ret ?_;simp [M256, exprB, okP, k5, ho, hg, hi];exact .le sR (D.le_refl _) (by simp)
      ·have h1' : ¬ (1 : Int) ≤ (o.aggs.length : Int) := (by omega);simp [k5, h1'];refine sf hb ?_;simp;refine sf (pred_okG L.text (s := s) (q := o.pred)) ?_
       cases ho : (lookF s 5 o.pred 0).1 with
       | false =>
        simp;refine sem_ret ?_;simp [M256, exprB, okP, k5, ho];exact .le sR (D.le_refl _) (by simp)
       | true =>
        by_cases hg : o.group = -1
        ·simp [hg];refine sem_ret ?_;simp [M256, exprB, okP, k5, ho, hg, aggsB, h1];exact .le sR (D.le_refl _) (by simp)
        ·simp [hg];refine sf (expr_in L (s := s) (c := o.group)) ?_
         cases hi : inB s o.group with
         | true =>
          simp;refine sem_ret ?_;simp [M256, exprB, okP, k5, ho, hg, hi, aggsB, h1];exact .le sR (D.le_refl _) (by simp)
         | false =>
          simp;refine sem_ret ?_;simp [M256, exprB, okP, k5, ho, hg, hi];exact .le sR (D.le_refl _) (by simp)
     ·by_cases k6 : o.kind = 6
      ·simp [k6];have ha := h.shp.aggs (by omega);refine sf (expr_bare L (r := false) (a := false) (st := false) (cl := false) (ag := false) hp (fun _ => h.shp.row (by omega)) (fun _ => h.shp.sets (by omega)) (fun _ => h.shp.cols (by omega)) (fun _ => ha)) ?_;simp;refine sem_ret ?_;simp [M256, exprB, k6];exact .le sR (D.le_refl _) (by simp)
      ·simp [k1, k2, k3, k4, k5, k6];refine sem_ret ?_;simp [M256, exprB, k1, k2, k3, k4, k5, k6];exact .le sR (D.le_refl _) (by simp)
end Go.Lib
end

section
set_option maxRecDepth 10000
namespace Go.Lib
open Go.Vm Go.Dv Go.Srt
variable {p : Prog} {ext : Ext} {F : Nat → Nat}
attribute [-simp] bin_and bin_xor
theorem in64_eq {n : Int} (h : In64 n) : wr .i64 n = n := by unfold In64 at h; rw [wr_of] <;> omega
structure HProgT (p : Prog) (ext : Ext) (F : Nat → Nat) (g : SG) : Prop where
 expr : HExpr p ext F
 told : HTold p ext F g
 h251 : Has p ext F 251 M251
 h253 : Has p ext F 253 M253
 h257 : Has p ext F 257 M257
 h258 : Has p ext F 258 M258
 h259 : Has p ext F 259 M259
 h260 : Has p ext F 260 M260
 h261 : Has p ext F 261 M261
 h263 : Has p ext F 263 M263
 h275 : Has p ext F 275 M275
 h276 : Has p ext F 276 M276
theorem eap_one {H : HpD} {t d : D} {y b : Nat} (hb : b = H.next) : appendD 1 y (H.new (.cells [d] false)) t (.slice b 0 1 1 1 true) = appendD 1 y (H.new (.cells [d] false)) t (.row 1 .p [[d]]) := by
 subst hb;have := appendD_slice1 (H := H.new (.cells [d] false)) (s := t) (sz := 1) (by_ := y) (b := H.next) (o := 0) (cap := 1) (ex := true) (ro := false) (cs := [d]) (by rw [new_blk, if_pos rfl]) (Nat.le_refl _);exact this
theorem prog_words {g : SG} (L : HProgT p ext F g) : FnD p ext (F 276) [] (strsD aggW) := by
 refine fn_of L.h276 (M := M276) rfl ok276 rfl fun H => sem_run 9000 _ ?_;simp;refine sem_ret ?_;simp [M276];exact .le .refl (by simp [strsD, strE, aggW, D.le, D.less_refl]) (by simp)
theorem prog_kinds {g : SG} (L : HProgT p ext F g) : FnD p ext (F 263) [] (strsD kindsL) := by
 refine fn_of L.h263 (M := M263) rfl ok263 rfl fun H => sem_run 9000 _ ?_;simp;refine sem_ret ?_;simp [M263];exact .le .refl (by simp [strsD, strE, kindsL, D.le, D.less_refl]) (by simp)
theorem prog_name {g : SG} (L : HProgT p ext F g) {s : Sch} {c : Int} (h : inB s c = true) : FnD p ext (F 275) [schD s, .lit (.int .i64 c)] (.lit (.str (nameS s c))) := by
 refine fn_of L.h275 (M := M275) rfl ok275 rfl fun H => sem_run 9000 _ ?_;obtain ⟨c1, c2⟩ := inB_iff.1 h;have hci : c.toNat < s.length := (by omega);obtain ⟨cl, hcl⟩ : ∃ cl, s[c.toNat] = cl := ⟨_, rfl⟩;have hn : nameS s c = cl.name := (by unfold nameS; rw [List.getElem?_eq_getElem hci, hcl]);simp [c1, c2, hcl];refine sem_ret ?_;simp [M275];rw [hn];exact .le sR (D.le_refl _) (by simp)
theorem prog_group {g : SG} (L : HProgT p ext F g) {s : Sch} {c : Int} (h : c = -1 ∨ inB s c = true) : FnD p ext (F 260) [schD s, .lit (.int .i64 c)] (.lit (.str (groupT s c))) := by
 refine fn_of L.h260 (M := M260) rfl ok260 rfl fun H => sem_run 9000 _ ?_;rcases h with rfl | h
 ·simp;refine sem_ret ?_;simp [M260];exact .le sR (D.le_refl _) (by simp)
 ·have h0 := (inB_iff.1 h).1;have h1 : ¬ c < 0 := (by omega);simp [h1];refine sf (prog_name L h) ?_;simp;refine sem_ret ?_;simp [M260];rw [show groupT s c = nameS s c by unfold groupT; rw [if_neg h1]];exact .le sR (D.le_refl _) (by simp)
def valsI (H0 : HpD) (_s : Sch) (l : List Vl) (w : Nat) (fr : FrD) (H : HpD) : Prop :=
 ∃ (i : Nat) (t : D), w = l.length - i ∧ i ≤ l.length ∧ fr = [(3, t), (6, rowD l), (7, .lit (.int .i64 (l.length : Int))), (8, .lit (.int .i64 (i : Int)))] ∧ Gr H0 H 1 t (strE ((l.take i).map (valN)))
theorem prog_vals {g : SG} (L : HProgT p ext F g) {s : Sch} (_hs : OkS s) {l : List Vl} (hl : l.length ≤ 6) (hv : ∀ v, v ∈ l → isB v = true ∧ In64 v.n) : FnD p ext (F 257) [rowD l] (.lit (.str (joinN (l.map (valN)) [44]))) := by
 refine fn_of L.h257 (M := M257) rfl ok257 rfl fun H => sem_run 9000 _ ?_;simp;refine sem_loop (valsI H s l) ?_ (k := l.length) ⟨0, .lit .nilslice, by simp, by simp, rfl, by simpa [strE] using Gr.start⟩;rintro w fr H' ⟨i, t, rfl, hi, rfl, gr⟩
 by_cases c : i < l.length
 ·obtain ⟨x, hx⟩ : ∃ x, l[i]? = some x := ⟨_, List.getElem?_eq_getElem c⟩;have hxi : l[i] = x := (by rw [List.getElem?_eq_getElem c] at hx; exact Option.some.inj hx);have hxm : x ∈ l := List.mem_of_getElem? hx;have hw : wr .i64 ((i : Int) + 1) = ((i + 1 : Nat) : Int) := (by rw [wr_of] <;> omega);have e : (l.take (i + 1)).map (valN) = (l.take i).map (valN) ++ [(valN) x] := (by rw [List.take_add_one, hx]; simp);refine sem_run 9000 _ ?_;simp;simp [c, hxi];refine sf (text_val L.told.val (in64_eq (hv x hxm).2)) ?_;simp;refine sem_push (gr.mono sR) rfl rfl (roomyD (by simp [str_len]; omega) (by simp [str_len]; omega)) fun s' H1 g1 _ _ => ?_
  simp;refine sem_ok ?_;refine ⟨_, by omega, i + 1, s', rfl, by omega, by rw [hw], ?_⟩;rw [e, strE_append]; exact g1
 ·have : i = l.length := (by omega);subst this;rw [List.take_length] at gr
  have hj := joinN_le (B := 200) (l := l.map (valN)) (fun y hy => by
   obtain ⟨x, hx, rfl⟩ := List.mem_map.1 hy
   exact val_any_len (hv x hx).1)
  rw [List.length_map] at hj;have hm := Nat.mul_le_mul_right (200 + 1) hl;refine sem_turn gr 3 (by simp) fun H1 s1 _ _ => ?_;refine sem_run 9000 _ ?_;simp;refine sem_exit (sem_run 9000 _ ?_);simp;refine sem_fn (join_ext L.told.x207 (l := l.map (valN)) (sep := [44]) (by omega) (by simp; omega)) (by first | exact D.les_refl _ | simp [strsD]) (sem_run 9000 _ ?_);simp;refine sem_ret ?_;simp [M257];exact .le s1 (D.le_refl _) (by simp)
def colsI (H0 : HpD) (s : Sch) (l : List Int) (w : Nat) (fr : FrD) (H : HpD) : Prop :=
 ∃ (i : Nat) (t : D), w = l.length - i ∧ i ≤ l.length ∧ fr = [(2, .rptr [schR s] 0), (5, t), (8, intsP l), (9, .lit (.int .i64 (l.length : Int))), (10, .lit (.int .i64 (i : Int)))] ∧ Gr H0 H 1 t (strE ((l.take i).map (nameS s)))
theorem prog_cols {g : SG} (L : HProgT p ext F g) {s : Sch} (hs : OkS s) {l : List Int} (hl : l.length ≤ 6) (hv : ∀ c, c ∈ l → inB s c = true) : FnD p ext (F 259) [schD s, intsP l] (.lit (.str (joinN (l.map (nameS s)) [44]))) := by
 refine fn_of L.h259 (M := M259) rfl ok259 rfl fun H => sem_run 9000 _ ?_;simp;refine sem_loop (colsI H s l) ?_ (k := l.length) ⟨0, .lit .nilslice, by simp, by simp, rfl, by simpa [strE] using Gr.start⟩;rintro w fr H' ⟨i, t, rfl, hi, rfl, gr⟩
 by_cases c : i < l.length
 ·obtain ⟨x, hx⟩ : ∃ x, l[i]? = some x := ⟨_, List.getElem?_eq_getElem c⟩;have hxi : l[i] = x := (by rw [List.getElem?_eq_getElem c] at hx; exact Option.some.inj hx);have hxm : x ∈ l := List.mem_of_getElem? hx;have hw : wr .i64 ((i : Int) + 1) = ((i + 1 : Nat) : Int) := (by rw [wr_of] <;> omega);have e : (l.take (i + 1)).map (nameS s) = (l.take i).map (nameS s) ++ [(nameS s) x] := (by rw [List.take_add_one, hx]; simp);refine sem_run 9000 _ ?_;simp;simp [c, hxi];refine sf (prog_name L (hv x hxm)) ?_;simp;refine sem_push (gr.mono sR) rfl rfl (roomyD (by simp [str_len]; omega) (by simp [str_len]; omega)) fun s' H1 g1 _ _ => ?_
  simp;refine sem_ok ?_;refine ⟨_, by omega, i + 1, s', rfl, by omega, by rw [hw], ?_⟩;rw [e, strE_append]; exact g1
 ·have : i = l.length := (by omega);subst this;rw [List.take_length] at gr
  have hj := joinN_le (B := 100) (l := l.map (nameS s)) (fun y hy => by
   obtain ⟨x, hx, rfl⟩ := List.mem_map.1 hy
   exact nameS_len hs.short)
  rw [List.length_map] at hj;have hm := Nat.mul_le_mul_right (100 + 1) hl;refine sem_turn gr 5 (by simp) fun H1 s1 _ _ => ?_;refine sem_run 9000 _ ?_;simp;refine sem_exit (sem_run 9000 _ ?_);simp;refine sem_fn (join_ext L.told.x207 (l := l.map (nameS s)) (sep := [44]) (by omega) (by simp; omega)) (by first | exact D.les_refl _ | simp [strsD]) (sem_run 9000 _ ?_);simp;refine sem_ret ?_;simp [M259];exact .le s1 (D.le_refl _) (by simp)
theorem set_len {s : Sch} (hs : OkS s) {x : Sx} (h : setB s x = true) : (setT s x).length ≤ 400 := by
 have hn := nameS_len hs.short (c := x.col);unfold setB at h;simp only [Bool.and_eq_true] at h;have hv := val_any_len (holdsB_iff.1 h.1.2).1;unfold setT;cases x.add <;> (simp; omega)
theorem agg_len {s : Sch} (hs : OkS s) {a : Ag} : (aggT s a).length ≤ 400 := by
 have hn := nameS_len hs.short (c := a.col)
 have key : ((aggW[a.kind.toNat]?).getD []).length ≤ 10 := by
  cases e : aggW[a.kind.toNat]? with
  | none => simp
  | some w =>
   have : ∀ w, w ∈ aggW → w.length ≤ 10 := (by decide);exact this w (List.mem_of_getElem? e)
 unfold aggT;split
 ·simp; omega
 ·simp; omega
def setsI (H0 : HpD) (s : Sch) (l : List Sx) (w : Nat) (fr : FrD) (H : HpD) : Prop :=
 ∃ (i : Nat) (t : D), w = l.length - i ∧ i ≤ l.length ∧ fr = [(2, .rptr [schR s] 0), (5, t), (9, sxsD l), (10, .lit (.int .i64 (l.length : Int))), (11, .lit (.int .i64 (i : Int)))] ∧ Gr H0 H 1 t (strE ((l.take i).map (setT s)))
theorem prog_sets {g : SG} (L : HProgT p ext F g) {s : Sch} (hs : OkS s) {l : List Sx} (hl : l.length ≤ 6) (hv : ∀ x, x ∈ l → setB s x = true ∧ In64 x.v.n) : FnD p ext (F 258) [schD s, sxsD l] (.lit (.str (joinN (l.map (setT s)) [44]))) := by
 refine fn_of L.h258 (M := M258) rfl ok258 rfl fun H => sem_run 9000 _ ?_;simp;refine sem_loop (setsI H s l) ?_ (k := l.length) ⟨0, .lit .nilslice, by simp, by simp, rfl, by simpa [strE] using Gr.start⟩;rintro w fr H' ⟨i, t, rfl, hi, rfl, gr⟩
 by_cases c : i < l.length
 ·obtain ⟨x, hx⟩ : ∃ x, l[i]? = some x := ⟨_, List.getElem?_eq_getElem c⟩;have hxi : l[i] = x := (by rw [List.getElem?_eq_getElem c] at hx; exact Option.some.inj hx);have hxm : x ∈ l := List.mem_of_getElem? hx;have hw : wr .i64 ((i : Int) + 1) = ((i + 1 : Nat) : Int) := (by rw [wr_of] <;> omega);have e : (l.take (i + 1)).map (setT s) = (l.take i).map (setT s) ++ [(setT s) x] := (by rw [List.take_add_one, hx]; simp);refine sem_run 19 _ ?_;simp [c, hxi];refine sem_box (b := H'.next) (cs := x.c) (ro := false) 7 (by simp) (by simp) ?_;have hb := (hv x hxm).1;unfold setB at hb;simp only [Bool.and_eq_true] at hb
  have hin := hb.1.1.1;have hvl := val_any_len (holdsB_iff.1 hb.1.2).1;have hnl := nameS_len hs.short (c := x.col);have hst : setT s x = nameS s x.col ++ ((if x.add = true then [43, 61] else [61]) ++ valN x.v) := (by unfold setT; rw [List.append_assoc]);refine sem_run 9000 _ ?_;simp;cases ha : x.add
  all_goals
   simp;refine sem_dfn (prog_name L hin) (by first | exact D.les_refl _ | simp) (sem_run 9000 _ ?_);simp;refine sem_dfn (text_val L.told.val (in64_eq (hv x hxm).2)) (by first | exact D.les_refl _ | simp) (sem_run 9000 _ ?_);simp;rw [sadd_of (by simp; omega)];simp;rw [sadd_of (by simp; omega)];simp;simp [ha] at hst;rw [← hst];refine sem_opt_eq (eap_one (by simp)) ?_;refine sem_push (gr.mono sR) rfl rfl (roomyD (by simp [str_len]; omega) (by simp [str_len]; omega)) fun s' H1 g1 _ _ => ?_;simp;refine sem_ok ?_;refine ⟨_, by omega, i + 1, s', rfl, by omega, by rw [hw], ?_⟩;rw [e, strE_append]; exact g1
 ·have : i = l.length := (by omega);subst this;rw [List.take_length] at gr
  have hj := joinN_le (B := 400) (l := l.map (setT s)) (fun y hy => by
   obtain ⟨x, hx, rfl⟩ := List.mem_map.1 hy
   exact set_len hs (hv x hx).1)
  rw [List.length_map] at hj;have hm := Nat.mul_le_mul_right (400 + 1) hl;refine sem_turn gr 5 (by simp) fun H1 s1 _ _ => ?_;refine sem_run 9000 _ ?_;simp;refine sem_exit (sem_run 9000 _ ?_);simp;refine sem_fn (join_ext L.told.x207 (l := l.map (setT s)) (sep := [44]) (by omega) (by simp; omega)) (by first | exact D.les_refl _ | simp [strsD]) (sem_run 9000 _ ?_);simp;refine sem_ret ?_;simp [M258];exact .le s1 (D.le_refl _) (by simp)
def aggsI (H0 : HpD) (s : Sch) (l : List Ag) (w : Nat) (fr : FrD) (H : HpD) : Prop :=
 ∃ (i : Nat) (t : D), w = l.length - i ∧ i ≤ l.length ∧ fr = [(2, .rptr [schR s] 0), (5, t), (9, agsD l), (10, .lit (.int .i64 (l.length : Int))), (11, .lit (.int .i64 (i : Int)))] ∧ Gr H0 H 1 t (strE ((l.take i).map (aggT s)))
theorem prog_aggs {g : SG} (L : HProgT p ext F g) {s : Sch} (hs : OkS s) {l : List Ag} (hl : l.length ≤ 6) (hv : ∀ a, a ∈ l → aggB s a = true) : FnD p ext (F 261) [schD s, agsD l] (.lit (.str (joinN (l.map (aggT s)) [44]))) := by
 refine fn_of L.h261 (M := M261) rfl ok261 rfl fun H => sem_run 9000 _ ?_;simp;refine sem_loop (aggsI H s l) ?_ (k := l.length) ⟨0, .lit .nilslice, by simp, by simp, rfl, by simpa [strE] using Gr.start⟩;rintro w fr H' ⟨i, t, rfl, hi, rfl, gr⟩
 by_cases c : i < l.length
 ·obtain ⟨x, hx⟩ : ∃ x, l[i]? = some x := ⟨_, List.getElem?_eq_getElem c⟩;have hxi : l[i] = x := (by rw [List.getElem?_eq_getElem c] at hx; exact Option.some.inj hx);have hxm : x ∈ l := List.mem_of_getElem? hx;have hw : wr .i64 ((i : Int) + 1) = ((i + 1 : Nat) : Int) := (by rw [wr_of] <;> omega);have e : (l.take (i + 1)).map (aggT s) = (l.take i).map (aggT s) ++ [(aggT s) x] := (by rw [List.take_add_one, hx]; simp);refine sem_run 19 _ ?_;simp [c, hxi];refine sem_box (b := H'.next) (cs := x.c) (ro := false) 7 (by simp) (by simp) ?_;have hb := hv x hxm;have hnl := nameS_len hs.short (c := x.col)
  refine sem_run 9000 _ ?_;simp;refine sem_dfn (prog_words L) (by first | exact D.les_refl _ | simp) (sem_run 9000 _ ?_);unfold aggB at hb
  by_cases k1 : x.kind = 1
  ·have ht : aggT s x = [99, 111, 117, 110, 116] := (by unfold aggT; rw [k1]; rfl);simp [Ag.c, k1, aggW, strsD, strE];refine sem_push (gr.mono sR) rfl rfl (roomyD (by simp [str_len]; omega) (by simp [str_len]; omega)) fun s' H1 g1 _ _ => ?_;simp;refine sem_ok ?_;refine ⟨_, by omega, i + 1, s', rfl, by omega, by rw [hw], ?_⟩;rw [e, ht, strE_append]; exact g1
  ·rw [if_neg k1] at hb
   have hin : inB s x.col = true ∧ (x.kind = 2 ∨ x.kind = 3 ∨ x.kind = 4) := by
    split at hb
    ·rename_i k; rw [Bool.and_eq_true] at hb; exact ⟨hb.1, .inl k⟩
    ·split at hb
     ·rename_i k; exact ⟨hb, by omega⟩
     ·cases hb
   rcases hin.2 with k | k | k
   all_goals
    have ht : aggT s x = (aggW[x.kind.toNat]?).getD [] ++ ([40] ++ nameS s x.col ++ [41]) := (by unfold aggT; rw [if_neg k1]);simp only [k] at ht;simp [Ag.c, k, aggW, strsD, strE];refine sf (prog_name L hin.1) ?_;simp;rw [sadd_of (by simp; omega)];simp;rw [sadd_of (by simp; omega)];simp;rw [sadd_of (by simp; omega)];simp;simp [aggW] at ht;refine sem_push (gr.mono sR) rfl rfl (roomyD (by simp [str_len]; omega) (by simp [str_len]; omega)) fun s' H1 g1 _ _ => ?_;simp;refine sem_ok ?_;refine ⟨_, by omega, i + 1, s', rfl, by omega, by rw [hw], ?_⟩;rw [e, ht, strE_append]; exact g1
 ·have : i = l.length := (by omega);subst this;rw [List.take_length] at gr
  have hj := joinN_le (B := 400) (l := l.map (aggT s)) (fun y hy => by
   obtain ⟨x, hx, rfl⟩ := List.mem_map.1 hy
   exact agg_len hs)
  rw [List.length_map] at hj;have hm := Nat.mul_le_mul_right (400 + 1) hl;refine sem_turn gr 5 (by simp) fun H1 s1 _ _ => ?_;refine sem_run 9000 _ ?_;simp;refine sem_exit (sem_run 9000 _ ?_);simp;refine sem_fn (join_ext L.told.x207 (l := l.map (aggT s)) (sep := [44]) (by omega) (by simp; omega)) (by first | exact D.les_refl _ | simp [strsD]) (sem_run 9000 _ ?_);simp;refine sem_ret ?_;simp [M261];exact .le s1 (D.le_refl _) (by simp)
end Go.Lib
end

section
set_option maxRecDepth 10000
namespace Go.Lib
open Go.Vm Go.Dv Go.Srt
variable {p : Prog} {ext : Ext} {F : Nat → Nat}
attribute [-simp] bin_and bin_xor
theorem mem_joinT {c : Nat} : ∀ {l : List (List Nat)}, c ∈ joinT [44] l → c = 44 ∨ ∃ x, x ∈ l ∧ c ∈ x
 | [], h => by simp [joinT] at h
 | x :: l, h => by
  simp only [joinT, List.mem_append, List.mem_singleton] at h;rcases h with h | h | h
  ·exact .inl h
  ·exact .inr ⟨x, List.mem_cons_self, h⟩
  ·rcases mem_joinT h with h | ⟨y, hy, hc⟩
   ·exact .inl h
   ·exact .inr ⟨y, List.mem_cons_of_mem _ hy, hc⟩
theorem mem_joinN {c : Nat} {l : List (List Nat)} (h : c ∈ joinN l [44]) : c = 44 ∨ ∃ x, x ∈ l ∧ c ∈ x := by
 cases l with
 | nil => simp [joinN] at h
 | cons x l =>
  simp only [joinN, List.mem_append] at h;rcases h with h | h
  ·exact .inr ⟨x, List.mem_cons_self, h⟩
  ·rcases mem_joinT h with h | ⟨y, hy, hc⟩
   ·exact .inl h
   ·exact .inr ⟨y, List.mem_cons_of_mem _ hy, hc⟩
theorem told_cnt {s : Sch} (hs : Shorts s) : ∀ {k : Nat} {q : Pr}, PrL s k q → (toldN s q).length ≤ 400 * cntP q
 | 0, _, h => h.elim
 | k + 1, q, ⟨h1, h2⟩ => by
  have key : ∀ l : List Pr, (∀ x, x ∈ l → PrL s k x) → (joinT [44] (l.map (toldN s))).length ≤ 400 * cntPs l + l.length := by
   intro l
   induction l with
   | nil => intro _; simp [joinT]
   | cons x l ih =>
    intro h;have h3 := told_cnt hs (h x List.mem_cons_self);have h4 := ih fun y hy => h y (List.mem_cons_of_mem _ hy);simp only [List.map_cons, joinT, List.length_append, List.length_cons, List.length_nil, cntPs];omega
  have hj : (joinN (q.l.map (toldN s)) [44]).length ≤ 400 * cntPs q.l + q.l.length := by
   have := key q.l h2
   cases e : q.l with
   | nil => simp [joinN]
   | cons x l =>
    rw [e] at this;simp only [List.map_cons, joinT, joinN, List.length_append, List.length_cons, List.length_nil] at this ⊢;omega
  have hl := one_short h1;have hc := cntP_eq (q := q);have hn := nameS_len hs (c := q.col);have ho := opN_len (o := q.op);rw [toldN_eq, hc];split
  ·rename_i k2
   have hv : (valN q.v).length ≤ 200 := by
    rcases h1 with h | h | h | h | h
    ·exfalso; have := h.1; omega
    ·exact val_len h.2.2.2.1 h.2.2.2.2.1
    ·exfalso; have := h.1; omega
    ·exfalso; have := h.1; omega
    ·exfalso; have := h.1; omega
   simp only [List.length_append, List.length_cons, List.length_nil]; omega
  ·repeat' split
   all_goals (simp only [List.length_append, List.length_cons, List.length_nil]; omega)
theorem opN_lt {o : Int} {x : Nat} (h : x ∈ opN o) : x < 256 := by
 unfold opN at h
 repeat' split at h
 all_goals (simp at h; omega)
theorem mem_app3 {c : Nat} {w J : List Nat} (h : c ∈ w ++ ([40] ++ J ++ [41])) : c ∈ w ∨ c = 40 ∨ c ∈ J ∨ c = 41 := by
 rcases List.mem_append.1 h with h | h
 ·exact .inl h
 ·rcases List.mem_append.1 h with h | h
  ·rcases List.mem_append.1 h with h | h
   ·exact .inr (.inl (by simpa using h))
   ·exact .inr (.inr (.inl h))
  ·exact .inr (.inr (.inr (by simpa using h)))
theorem told_lt {s : Sch} (hs : OkS s) : ∀ {k : Nat} {q : Pr}, PrL s k q → ∀ c, c ∈ toldN s q → c < 256
 | 0, _, h => h.elim
 | k + 1, q, ⟨h1, h2⟩ => by
  intro c hc
  have hn : ∀ i c, c ∈ nameS s i → c < 256 := fun i c h => by have := nameS_let hs h; omega
  have hj : c ∈ joinN (q.l.map (toldN s)) [44] → c < 256 := fun h => by
   rcases mem_joinN h with h | ⟨x, hx, h⟩
   ·omega
   ·obtain ⟨y, hy, rfl⟩ := List.mem_map.1 hx;exact told_lt hs (h2 y hy) c h
  rw [toldN_eq] at hc
  repeat' split at hc
  ·simp only [List.mem_append, List.mem_singleton] at hc;rcases hc with (((h | h) | h) | h) | h
   ·exact hn _ _ h
   ·omega
   ·exact opN_lt h
   ·omega
   ·exact (val_any h).2
  ·rcases List.mem_append.1 hc with h | h
   ·simp at h; omega
   ·exact hn _ _ h
  all_goals first | exact (mem_app3 hc).elim (fun h => by simp at h; omega) fun h => h.elim (fun h => by omega) fun h => h.elim hj fun h => by omega | (simp at hc; omega)
theorem look_pr0 {s : Sch} : (lookF s 5 pr0 0).1 = false := by
 unfold lookF;have : oneB s pr0 = false := (by unfold oneB; rfl);rw [if_pos (.inr this)]
theorem prog_op {g : SG} (L : HProgT p ext F g) {s : Sch} {o : Op} (hs : OkS s) (h : OpP s o) : FnD p ext (F 251) [schD s, .agg o.c] (.lit (.str (opTx s o))) := by
 refine fn_of L.h251 (M := M251) rfl ok251 rfl fun H => sem_run 9000 _ ?_;have hsl := hs.len;simp;refine sf (schm_ok L.expr hs) ?_;simp;refine sf (expr_op L.expr (s := s) (o := o) (by omega) h) ?_
 cases he : exprB s o with
 | false =>
  simp;refine sem_ret ?_;simp [M251];rw [show opTx s o = [] by unfold opTx; rw [he]; rfl];exact .le sR (D.le_refl _) (by simp)
 | true =>
  have hT : opTx s o = opT s o := (by unfold opTx; rw [if_pos he]);rw [hT]
  have hA : ∃ A : List Nat, A.length ≤ 30000 ∧ FnD p ext (F 212) [schD s, .agg o.pred.c] (.lit (.str A)) ∧ (okP s o.pred = true → A = toldN s o.pred) := by
   rcases h.pred with e | ⟨e1, e2⟩
   ·rw [e];refine ⟨predN s pr0, ?_, text_predG L.told hs.short (q := pr0) ?_, fun h => ?_⟩
    ·unfold predN; rw [look_pr0]; simp
    ·exact pv_leaf (by show In64 0; unfold In64; omega)
    ·unfold okP at h; rw [look_pr0] at h; cases h
   ·have := told_cnt hs.short e1;exact ⟨_, by omega, text_pred L.told hs.short e1 e2, fun _ => rfl⟩
  obtain ⟨A, hAl, hAf, hAt⟩ := hA;have he' := he;unfold exprB at he';simp;refine sf hAf ?_;simp;rw [sadd_of (by simp; omega)];simp
  by_cases k1 : o.kind = 1
  ·rw [if_pos k1, Bool.and_eq_true] at he';have hfl := fitsB_len he'.2;simp [k1]
   refine sem_fn (prog_vals L hs (l := o.row) (by omega) (fun v hv => by
    obtain ⟨i, hi⟩ := List.getElem?_of_mem hv;obtain ⟨c, _, hh⟩ := fitsB_at he'.2 hi
    exact ⟨(holdsB_iff.1 hh).1, h.row v hv⟩)) (by first | exact D.les_refl _ | simp) (sem_run 9000 _ ?_)
   simp
   have hjl := joinN_le (B := 200) (l := o.row.map valN) (fun y hy => by
    obtain ⟨v, hv, rfl⟩ := List.mem_map.1 hy;obtain ⟨i, hi⟩ := List.getElem?_of_mem hv;obtain ⟨c, _, hh⟩ := fitsB_at he'.2 hi
    exact val_any_len (holdsB_iff.1 hh).1)
   rw [List.length_map] at hjl;have hm := Nat.mul_le_mul_right (200 + 1) (show o.row.length ≤ 6 by omega);rw [sadd_of (by simp; omega)];simp;refine sem_ret ?_;simp [M251];rw [show opT s o = [105, 110, 115, 101, 114, 116, 32] ++ joinN (o.row.map valN) [44] by unfold opT headT; rw [if_neg (by omega), if_pos k1]];exact .le sR (D.le_refl _) (by simp)
  ·rw [if_neg k1] at he'
   by_cases k2 : o.kind = 2
   ·rw [if_pos k2, Bool.and_eq_true] at he';obtain ⟨hp, hss⟩ := he';have hA := hAt hp;unfold setsB at hss;simp only [Bool.and_eq_true, decide_eq_true_eq] at hss;have hsx : ∀ x, x ∈ o.sets → setB s x = true := setsGo_all hss.1
    have hjl := joinN_le (B := 400) (l := o.sets.map (setT s)) (fun y hy => by
     obtain ⟨v, hv, rfl⟩ := List.mem_map.1 hy
     exact set_len hs (hsx v hv))
    rw [List.length_map] at hjl;have hm := Nat.mul_le_mul_right (400 + 1) (show o.sets.length ≤ 6 by omega);simp [k2];refine sf (prog_sets L hs (l := o.sets) (by omega) (fun v hv => ⟨hsx v hv, h.sets v hv⟩)) ?_;simp;rw [sadd_of (by simp; omega)];simp;rw [sadd_of (by simp; omega)];simp;refine sem_ret ?_;simp [M251];rw [show opT s o = [117, 112, 100, 97, 116, 101, 32] ++ joinN (o.sets.map (setT s)) [44] ++ (whereN ++ A) by unfold opT headT; rw [if_pos (by omega), if_neg k1, if_pos k2, hA]];exact .le sR (by simp [D.le, whereN]) (by simp)
   ·rw [if_neg k2] at he'
    by_cases k3 : o.kind = 3
    ·rw [if_pos k3] at he';have hA := hAt he';simp [k3];rw [sadd_of (by simp; omega)];simp;refine sem_ret ?_;simp [M251];rw [show opT s o = [100, 101, 108, 101, 116, 101] ++ (whereN ++ A) by unfold opT headT; rw [if_pos (by omega), if_neg k1, if_neg k2, if_pos k3, hA]];exact .le sR (by simp [D.le, whereN]) (by simp)
    ·rw [if_neg k3] at he'
     by_cases k4 : o.kind = 4
     ·rw [if_pos k4, Bool.and_eq_true] at he';obtain ⟨hp, hss⟩ := he';have hA := hAt hp;unfold colsB at hss;simp only [Bool.and_eq_true, decide_eq_true_eq, Bool.not_eq_true', List.any_eq_false] at hss
      have hsx : ∀ x, x ∈ o.cols → inB s x = true := fun x hx => by have := hss.2 x hx; simpa using this
      have hjl := joinN_le (B := 100) (l := o.cols.map (nameS s)) (fun y hy => by
       obtain ⟨v, hv, rfl⟩ := List.mem_map.1 hy
       exact nameS_len hs.short)
      rw [List.length_map] at hjl;have hm := Nat.mul_le_mul_right (100 + 1) (show o.cols.length ≤ 6 by omega);simp [k4];refine sf (prog_cols L hs (l := o.cols) (by omega) hsx) ?_;simp;rw [sadd_of (by simp; omega)];simp;rw [sadd_of (by simp; omega)];simp;refine sem_ret ?_;simp [M251];rw [show opT s o = [115, 99, 97, 110, 32] ++ joinN (o.cols.map (nameS s)) [44] ++ (whereN ++ A) by unfold opT headT; rw [if_pos (by omega), if_neg k1, if_neg k2, if_neg k3, if_pos k4, hA]];exact .le sR (by simp [D.le, whereN]) (by simp)
     ·rw [if_neg k4] at he'
      by_cases k5 : o.kind = 5
      ·rw [if_pos k5, Bool.and_eq_true, Bool.and_eq_true] at he';obtain ⟨⟨hp, hgr⟩, hss⟩ := he';have hA := hAt hp;unfold aggsB at hss;simp only [Bool.and_eq_true, decide_eq_true_eq, Bool.not_eq_true', List.any_eq_false] at hss;have hsx : ∀ x, x ∈ o.aggs → aggB s x = true := fun x hx => (by have := hss.2 x hx; simpa using this);simp only [Bool.or_eq_true, decide_eq_true_eq] at hgr
       have hjl := joinN_le (B := 400) (l := o.aggs.map (aggT s)) (fun y hy => by
        obtain ⟨v, hv, rfl⟩ := List.mem_map.1 hy
        exact agg_len hs)
       rw [List.length_map] at hjl;have hm := Nat.mul_le_mul_right (400 + 1) (show o.aggs.length ≤ 6 by omega)
       have hgl : (groupT s o.group).length ≤ 100 := by
        have := nameS_len hs.short (c := o.group);unfold groupT;split
        ·simp
        ·exact this
       simp [k5];refine sem_dfn (prog_group L hgr) (by first | exact D.les_refl _ | simp) (sem_run 9000 _ ?_);simp;refine sem_dfn (prog_aggs L hs (l := o.aggs) (by omega) hsx) (by first | exact D.les_refl _ | simp) (sem_run 9000 _ ?_);simp;rw [sadd_of (by simp; omega)];simp;rw [sadd_of (by simp; omega)];simp;rw [sadd_of (by simp; omega)];simp;rw [sadd_of (by simp; omega)];simp;refine sem_ret ?_;simp [M251];rw [show opT s o = [97, 103, 103, 32] ++ groupT s o.group ++ [32] ++ joinN (o.aggs.map (aggT s)) [44] ++ (whereN ++ A) by unfold opT headT; rw [if_pos (by omega), if_neg k1, if_neg k2, if_neg k3, if_neg k4, if_pos k5, hA]]
       exact .le sR (by simp [D.le, whereN]) (by simp)
      ·rw [if_neg k5] at he'
       have k6 : o.kind = 6 := by
        by_cases k6 : o.kind = 6
        ·exact k6
        ·rw [if_neg k6] at he'; cases he'
       simp [k6];refine sem_ret ?_;simp [M251];rw [show opT s o = [114, 111, 108, 108, 98, 97, 99, 107] by unfold opT headT; rw [if_neg (by omega), if_neg k1, if_neg k2, if_neg k3, if_neg k4, if_neg k5]];exact .le sR (D.le_refl _) (by simp)
end Go.Lib
end
