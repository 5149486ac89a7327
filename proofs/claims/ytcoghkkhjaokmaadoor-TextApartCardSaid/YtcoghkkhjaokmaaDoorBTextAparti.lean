/-
  Texts that the claim's last one rests on, joined.
-/
import Derived.Test.YtcoghkkhjaokmaaDoorBTextAparth
import Derived.Test.YtcoghkkhjaokmaaDoorBTextApartf
import Derived.Test.YtcoghkkhjaokmaaDoorBTextApartg
import Derived.Test.YtcoghkkhjaokmaaDoorBTextApartc

section
set_option maxRecDepth 10000
namespace Go.Lib
open Go.Vm Go.Dv Go.Srt
def isB (v : Vl) : Bool := decide ((v.kind = 1 ∨ v.kind = 2) ∧ (if v.null = true then v.n = 0 ∧ v.bytes = [] else if v.kind = 1 then v.bytes = [] else v.n = 0 ∧ v.bytes.length ≤ 64))
def OneP (s : Sch) (q : Pr) : Prop :=
  (q.kind = 1 ∧ q.col = 0 ∧ q.op = 0 ∧ q.v = zv ∧ q.l = []) ∨
  (q.kind = 2 ∧ (0 ≤ q.col ∧ q.col < s.length) ∧ (1 ≤ q.op ∧ q.op ≤ 6) ∧ q.v.null = false ∧ isB q.v = true ∧ (∃ c, s[q.col.toNat]? = some c ∧ q.v.kind = c.kind) ∧ q.l = [] ∧ In64 q.v.n) ∨
  (q.kind = 3 ∧ (0 ≤ q.col ∧ q.col < s.length) ∧ q.op = 0 ∧ q.v = zv ∧ q.l = []) ∨
  ((q.kind = 4 ∨ q.kind = 5) ∧ q.col = 0 ∧ q.op = 0 ∧ q.v = zv ∧ q.l.length ≤ 8) ∨
  (q.kind = 6 ∧ q.col = 0 ∧ q.op = 0 ∧ q.v = zv ∧ q.l.length = 1)
def PrL (s : Sch) : Nat → Pr → Prop
  | 0, _ => False
  | d + 1, q => OneP s q ∧ ∀ x, x ∈ q.l → PrL s d x
def nameS (s : Sch) (c : Int) : List Nat := match s[c.toNat]? with
  | some c => c.name
  | none => []
def opN (o : Int) : List Nat := if o = 1 then [61] else if o = 2 then [33, 61] else if o = 3 then [60] else if o = 4 then [60, 61] else if o = 5 then [62] else [62, 61]
mutual
def toldN (s : Sch) : Pr → List Nat
  | .mk k c o v l => if k = 2 then nameS s c ++ [32] ++ opN o ++ [32] ++ valN v else if k = 3 then [110, 117, 108, 108, 32] ++ nameS s c
      else if k = 4 then [97, 110, 100] ++ ([40] ++ joinN (toldsN s l) [44] ++ [41]) else if k = 5 then [111, 114] ++ ([40] ++ joinN (toldsN s l) [44] ++ [41]) else if k = 6 then [110, 111, 116] ++ ([40] ++ joinN (toldsN s l) [44] ++ [41])
      else [116, 114, 117, 101]
def toldsN (s : Sch) : List Pr → List (List Nat)
  | [] => []
  | x :: l => toldN s x :: toldsN s l
end
theorem toldsN_map {s : Sch} : ∀ {l : List Pr}, toldsN s l = l.map (toldN s)
  | [] => by simp [toldsN]
  | x :: l => by simp [toldsN, toldsN_map (l := l)]
theorem toldN_eq {s : Sch} {q : Pr} : toldN s q = if q.kind = 2 then nameS s q.col ++ [32] ++ opN q.op ++ [32] ++ valN q.v else if q.kind = 3 then [110, 117, 108, 108, 32] ++ nameS s q.col
      else if q.kind = 4 then [97, 110, 100] ++ ([40] ++ joinN (q.l.map (toldN s)) [44] ++ [41]) else if q.kind = 5 then [111, 114] ++ ([40] ++ joinN (q.l.map (toldN s)) [44] ++ [41]) else if q.kind = 6 then [110, 111, 116] ++ ([40] ++ joinN (q.l.map (toldN s)) [44] ++ [41])
      else [116, 114, 117, 101] := by
  cases q; simp only [toldN, Pr.kind, Pr.col, Pr.op, Pr.v, Pr.l, toldsN_map]; rfl
def unD (l : List Nat) : Nat := l.foldl (fun a c => a * 10 + (c - 48)) 0
theorem unD_snoc {l : List Nat} {c : Nat} : unD (l ++ [c]) = unD l * 10 + (c - 48) := by simp [unD]
theorem unD_dig : ∀ {f u : Nat}, u < 10 ^ (f + 1) → unD (digN f u) = u
  | 0, u, h => by
    have : u < 10 := by simpa using h
    simp [digN, unD]
    show u % 10 = u
    omega
  | f + 1, u, h => by
    unfold digN
    by_cases c : u < 10
    · rw [show Nat.blt u 10 = true from nblt.2 c]; simp [unD]
    · rw [show Nat.blt u 10 = false from by rw [Bool.eq_false_iff]; exact fun h => c (nblt.1 h)]
      show unD (digN f (u / 10) ++ [48 + u % 10]) = u
      rw [unD_snoc, unD_dig (f := f) (by rw [Nat.pow_succ] at h; omega)]
      omega
theorem dig_chars : ∀ {f u c : Nat}, c ∈ digN f u → 48 ≤ c ∧ c ≤ 57
  | 0, u, c, h => by
    simp [digN] at h
    have : u.mod 10 < 10 := Nat.mod_lt _ (by omega)
    omega
  | f + 1, u, c, h => by
    unfold digN at h
    have hm : u.mod 10 < 10 := Nat.mod_lt _ (by omega)
    by_cases k : u < 10
    · rw [show Nat.blt u 10 = true from nblt.2 k] at h; simp at h; omega
    · rw [show Nat.blt u 10 = false from by rw [Bool.eq_false_iff]; exact fun h => k (nblt.1 h)] at h
      rcases List.mem_append.1 h with h | h
      · exact dig_chars h
      · simp at h; omega
theorem itoa_chars {n : Int} {c : Nat} (h : c ∈ itoaN n) : (48 ≤ c ∧ c ≤ 57) ∨ c = 45 := by
  cases n with
  | ofNat n => exact .inl (dig_chars h)
  | negSucc n =>
    simp only [itoaN, List.mem_cons] at h
    rcases h with h | h
    · exact .inr h
    · exact .inl (dig_chars h)
theorem itoa_inj {a b : Int} (ha : In64 a) (hb : In64 b) (h : itoaN a = itoaN b) : a = b := by
  unfold In64 at ha hb
  have p : (10 : Nat) ^ (20 + 1) = 1000000000000000000000 := by decide
  cases a with
  | ofNat x => cases b with
    | ofNat y =>
      have h : digN 20 x = digN 20 y := h
      have ha : -9223372036854775808 ≤ (x : Int) ∧ (x : Int) < 9223372036854775808 := ha
      have hb : -9223372036854775808 ≤ (y : Int) ∧ (y : Int) < 9223372036854775808 := hb
      have h1 : unD (digN 20 x) = x := unD_dig (by omega)
      have h2 : unD (digN 20 y) = y := unD_dig (by omega)
      rw [h, h2] at h1; rw [h1]
    | negSucc y =>
      exfalso
      have h : digN 20 x = 45 :: digN 20 (y + 1) := h
      have := dig_chars (f := 20) (u := x) (c := 45) (by rw [h]; exact List.mem_cons_self)
      omega
  | negSucc x => cases b with
    | ofNat y =>
      exfalso
      have h : 45 :: digN 20 (x + 1) = digN 20 y := h
      have := dig_chars (f := 20) (u := y) (c := 45) (by rw [← h]; exact List.mem_cons_self)
      omega
    | negSucc y =>
      have h : 45 :: digN 20 (x + 1) = 45 :: digN 20 (y + 1) := h
      simp only [List.cons.injEq, true_and] at h
      have h1 : unD (digN 20 (x + 1)) = x + 1 := unD_dig (by omega)
      have h2 : unD (digN 20 (y + 1)) = y + 1 := unD_dig (by omega)
      rw [h, h2] at h1
      have : x = y := by omega
      rw [this]
theorem hexN_inj (a b : By) (h : hexN a = hexN b) : a = b := by
  have key : ∀ i j : Fin 16, hexD.getD i.val 0 = hexD.getD j.val 0 → i = j := by decide +kernel
  simp only [hexN, List.cons.injEq, and_true] at h
  have h1 := key ⟨a.val / 16, by omega⟩ ⟨b.val / 16, by omega⟩ h.1
  have h2 := key ⟨a.val % 16, by omega⟩ ⟨b.val % 16, by omega⟩ h.2
  simp only [Fin.mk.injEq] at h1 h2
  exact Fin.ext (by omega)
theorem hexN_chars {b : By} {c : Nat} (h : c ∈ hexN b) : (48 ≤ c ∧ c ≤ 57) ∨ (97 ≤ c ∧ c ≤ 102) := by
  have : ∀ b : By, ∀ c, c ∈ hexN b → (48 ≤ c ∧ c ≤ 57) ∨ (97 ≤ c ∧ c ≤ 102) := by decide +kernel
  exact this b c h
theorem hexs_inj : ∀ {x y : List By}, (x.map hexN).flatten = (y.map hexN).flatten → x = y
  | [], [], _ => rfl
  | [], b :: y, h => by simp [hexN] at h
  | a :: x, [], h => by simp [hexN] at h
  | a :: x, b :: y, h => by
    simp only [List.map_cons, List.flatten_cons] at h
    obtain ⟨h1, h2⟩ := List.append_inj h (by simp [hexN])
    rw [hexN_inj a b h1, hexs_inj h2]
def WdC (c : Nat) : Prop := c ≠ 32 ∧ c ≠ 40 ∧ c ≠ 41 ∧ c ≠ 44
theorem val_chars {v : Vl} (h : v.null = false) {c : Nat} (hc : c ∈ valN v) : WdC c := by
  unfold valN at hc
  rw [if_neg (by simp [h])] at hc
  unfold WdC
  split at hc
  · have := itoa_chars hc; omega
  · rcases List.mem_cons.1 hc with rfl | hc
    · omega
    · obtain ⟨x, hx, hc⟩ := List.mem_flatten.1 hc
      obtain ⟨b, _, rfl⟩ := List.mem_map.1 hx
      have := hexN_chars hc; omega
theorem val_inj {v w : Vl} (hv : v.null = false) (hw : w.null = false) (iv : isB v = true) (iw : isB w = true) (hk : v.kind = w.kind) (nv : In64 v.n) (nw : In64 w.n) (h : valN v = valN w) : v = w := by
  unfold isB at iv iw
  rw [decide_eq_true_iff, if_neg (by simp [hv])] at iv
  rw [decide_eq_true_iff, if_neg (by simp [hw])] at iw
  have e1 : valN v = if v.kind = 1 then itoaN v.n else 120 :: (v.bytes.map hexN).flatten := by unfold valN; rw [if_neg (by simp [hv])]
  have e2 : valN w = if w.kind = 1 then itoaN w.n else 120 :: (w.bytes.map hexN).flatten := by unfold valN; rw [if_neg (by simp [hw])]
  rw [e1, e2] at h
  rw [vl_ext]
  by_cases k : v.kind = 1
  · have k' : w.kind = 1 := by omega
    rw [if_pos k, if_pos k'] at h
    rw [if_pos k] at iv
    rw [if_pos k'] at iw
    exact ⟨by rw [hv, hw], hk, itoa_inj nv nw h, by rw [iv.2, iw.2]⟩
  · have k' : ¬ w.kind = 1 := by omega
    rw [if_neg k, if_neg k'] at h
    rw [if_neg k] at iv
    rw [if_neg k'] at iw
    simp only [List.cons.injEq, true_and] at h
    exact ⟨by rw [hv, hw], hk, by rw [iv.2.1, iw.2.1], hexs_inj h⟩
def Wf (l : List Nat) : Prop := ∀ c, c ∈ l → c ≠ 40 ∧ c ≠ 41 ∧ c ≠ 44
def Brk (t : List Nat) : Prop := t = [] ∨ ∃ r, t = 40 :: r ∨ t = 41 :: r ∨ t = 44 :: r
def Ends (t : List Nat) : Prop := t = [] ∨ ∃ r, t = 41 :: r ∨ t = 44 :: r
theorem Ends.brk {t : List Nat} : Ends t → Brk t
  | .inl h => .inl h
  | .inr ⟨r, .inl h⟩ => .inr ⟨r, .inr (.inl h)⟩
  | .inr ⟨r, .inr h⟩ => .inr ⟨r, .inr (.inr h)⟩
theorem span_eq : ∀ {w w' t t' : List Nat}, Wf w → Wf w' → Brk t → Brk t' → w ++ t = w' ++ t' → w = w' ∧ t = t'
  | [], [], _, _, _, _, _, _, h => ⟨rfl, h⟩
  | [], c :: w', t, t', _, h2, h3, _, h => by
    exfalso
    have hc := h2 c List.mem_cons_self
    rcases h3 with rfl | ⟨r, rfl | rfl | rfl⟩ <;> simp at h <;> omega
  | c :: w, [], t, t', h1, _, _, h4, h => by
    exfalso
    have hc := h1 c List.mem_cons_self
    rcases h4 with rfl | ⟨r, rfl | rfl | rfl⟩ <;> simp at h <;> omega
  | c :: w, c' :: w', t, t', h1, h2, h3, h4, h => by
    simp only [List.cons_append, List.cons.injEq] at h
    obtain ⟨rfl, h⟩ := h
    obtain ⟨rfl, hh⟩ := span_eq (fun x hx => h1 x (List.mem_cons_of_mem _ hx)) (fun x hx => h2 x (List.mem_cons_of_mem _ hx)) h3 h4 h
    exact ⟨rfl, hh⟩
theorem cut_eq : ∀ {a a' b b' : List Nat}, (∀ c, c ∈ a → c ≠ 32) → (∀ c, c ∈ a' → c ≠ 32) → a ++ 32 :: b = a' ++ 32 :: b' → a = a' ∧ b = b'
  | [], [], _, _, _, _, h => by simp at h; exact ⟨rfl, h⟩
  | [], c :: a', _, _, _, h2, h => by simp at h; exact absurd h.1.symm (h2 c List.mem_cons_self)
  | c :: a, [], _, _, h1, _, h => by simp at h; exact absurd h.1 (h1 c List.mem_cons_self)
  | c :: a, c' :: a', b, b', h1, h2, h => by
    simp only [List.cons_append, List.cons.injEq] at h
    obtain ⟨rfl, h⟩ := h
    obtain ⟨rfl, hh⟩ := cut_eq (fun x hx => h1 x (List.mem_cons_of_mem _ hx)) (fun x hx => h2 x (List.mem_cons_of_mem _ hx)) h
    exact ⟨rfl, hh⟩
theorem cut_no {a a' b : List Nat} (h1 : ∀ c, c ∈ a → c ≠ 32) (h : a = a' ++ 32 :: b) : False := h1 32 (by rw [h]; simp) rfl
structure Names (s : Sch) : Prop where
  chars : ∀ c, c ∈ s → ∀ x, x ∈ c.name → WdC x
  inj : ∀ (i j : Nat) (c c' : Cl), s[i]? = some c → s[j]? = some c' → c.name = c'.name → i = j
theorem nameS_chars {s : Sch} (hs : Names s) {i : Int} {x : Nat} (h : x ∈ nameS s i) : WdC x := by
  unfold nameS at h
  split at h
  · rename_i c hc; exact hs.chars c (List.mem_of_getElem? hc) x h
  · simp at h
theorem nameS_inj {s : Sch} (hs : Names s) {i j : Int} (hi : 0 ≤ i ∧ i < s.length) (hj : 0 ≤ j ∧ j < s.length) (h : nameS s i = nameS s j) : i = j := by
  obtain ⟨c, hc⟩ : ∃ c, s[i.toNat]? = some c := ⟨_, List.getElem?_eq_getElem (by omega)⟩
  obtain ⟨c', hc'⟩ : ∃ c, s[j.toNat]? = some c := ⟨_, List.getElem?_eq_getElem (by omega)⟩
  unfold nameS at h
  rw [hc, hc'] at h
  have := hs.inj _ _ _ _ hc hc' h
  omega
theorem opN_chars {o : Int} {x : Nat} (h : x ∈ opN o) : WdC x := by
  unfold opN at h
  unfold WdC
  repeat' split at h
  all_goals (simp at h; omega)
theorem opN_inj {o o' : Int} (h1 : 1 ≤ o ∧ o ≤ 6) (h2 : 1 ≤ o' ∧ o' ≤ 6) (h : opN o = opN o') : o = o' := by
  rcases (by omega : o = 1 ∨ o = 2 ∨ o = 3 ∨ o = 4 ∨ o = 5 ∨ o = 6) with rfl | rfl | rfl | rfl | rfl | rfl <;> rcases (by omega : o' = 1 ∨ o' = 2 ∨ o' = 3 ∨ o' = 4 ∨ o' = 5 ∨ o' = 6) with rfl | rfl | rfl | rfl | rfl | rfl <;> first | rfl | (simp [opN] at h)
def wordN (s : Sch) (q : Pr) : List Nat := if q.kind = 2 then nameS s q.col ++ 32 :: (opN q.op ++ 32 :: valN q.v) else if q.kind = 3 then [110, 117, 108, 108] ++ 32 :: nameS s q.col
  else if q.kind = 4 then [97, 110, 100] else if q.kind = 5 then [111, 114] else if q.kind = 6 then [110, 111, 116] else [116, 114, 117, 101]
def restN (s : Sch) (q : Pr) (t : List Nat) : List Nat := if q.kind = 4 ∨ q.kind = 5 ∨ q.kind = 6 then 40 :: (joinN (q.l.map (toldN s)) [44] ++ 41 :: t) else t
theorem told_split {s : Sch} {q : Pr} {t : List Nat} : toldN s q ++ t = wordN s q ++ restN s q t := by
  rw [toldN_eq]
  unfold wordN restN
  by_cases h2 : q.kind = 2
  · simp [h2]
  · by_cases h3 : q.kind = 3
    · simp [h3]
    · by_cases h4 : q.kind = 4
      · simp [h4]
      · by_cases h5 : q.kind = 5
        · simp [h5]
        · by_cases h6 : q.kind = 6
          · simp [h6]
          · simp [h2, h3, h4, h5, h6]
theorem word_wf {s : Sch} (hs : Names s) {q : Pr} (hq : OneP s q) : Wf (wordN s q) := by
  intro c hc
  unfold wordN at hc
  split at hc
  · rename_i k
    have hv : q.v.null = false := by rcases hq with h | h | h | h | h <;> first | exact h.2.2.2.1 | (exfalso; have := h.1; omega)
    have key : WdC c ∨ c = 32 := by
      simp only [List.mem_append, List.mem_cons] at hc
      rcases hc with h | h | h | h | h
      · exact .inl (nameS_chars hs h)
      · exact .inr h
      · exact .inl (opN_chars h)
      · exact .inr h
      · exact .inl (val_chars hv h)
    rcases key with h | h
    · exact ⟨h.2.1, h.2.2.1, h.2.2.2⟩
    · omega
  · split at hc
    · have key : WdC c ∨ (c = 32 ∨ c = 110 ∨ c = 117 ∨ c = 108) := by
        simp only [List.mem_append, List.mem_cons, List.not_mem_nil, or_false] at hc
        rcases hc with (h | h | h | h) | h | h
        · omega
        · omega
        · omega
        · omega
        · omega
        · exact .inl (nameS_chars hs h)
      rcases key with h | h
      · exact ⟨h.2.1, h.2.2.1, h.2.2.2⟩
      · omega
    · repeat' split at hc
      all_goals (simp at hc; omega)
theorem word_cons {s : Sch} {q : Pr} : wordN s q ≠ [] := by
  unfold wordN
  repeat' split
  all_goals simp
theorem rest_brk {s : Sch} {q : Pr} {t : List Nat} (ht : Ends t) : Brk (restN s q t) := by
  unfold restN
  split
  · exact .inr ⟨_, .inl rfl⟩
  · exact ht.brk
theorem told_head {s : Sch} (hs : Names s) {q : Pr} (hq : OneP s q) {t r : List Nat} : toldN s q ++ t ≠ 41 :: r := by
  rw [told_split]
  intro h
  cases e : wordN s q with
  | nil => exact word_cons e
  | cons c w =>
    rw [e] at h
    simp at h
    have := word_wf hs hq c (by rw [e]; exact List.mem_cons_self)
    omega
def tailN (s : Sch) (l : List Pr) (t : List Nat) : List Nat := joinT [44] (l.map (toldN s)) ++ 41 :: t
theorem tailN_nil {s : Sch} {t : List Nat} : tailN s [] t = 41 :: t := rfl
theorem tailN_cons {s : Sch} {x : Pr} {l : List Pr} {t : List Nat} : tailN s (x :: l) t = 44 :: (toldN s x ++ tailN s l t) := by simp [tailN, joinT]
theorem tailN_ends {s : Sch} {l : List Pr} {t : List Nat} : Ends (tailN s l t) := by
  cases l with
  | nil => exact .inr ⟨_, .inl rfl⟩
  | cons x l => rw [tailN_cons]; exact .inr ⟨_, .inr rfl⟩
theorem joinN_tail {s : Sch} {x : Pr} {l : List Pr} {t : List Nat} : joinN ((x :: l).map (toldN s)) [44] ++ 41 :: t = toldN s x ++ tailN s l t := by simp [tailN, joinN]
section
variable {s : Sch} {d : Nat} (hs : Names s) (ih : ∀ p q t t', PrL s d p → PrL s d q → Ends t → Ends t' → toldN s p ++ t = toldN s q ++ t' → p = q ∧ t = t')
include ih
theorem tails_inj : ∀ {l l' : List Pr} {t t' : List Nat}, (∀ x, x ∈ l → PrL s d x) → (∀ x, x ∈ l' → PrL s d x) → tailN s l t = tailN s l' t' → l = l' ∧ t = t'
  | [], [], t, t', _, _, h => by simp [tailN_nil] at h; exact ⟨rfl, h⟩
  | [], y :: l', t, t', _, _, h => by simp [tailN_nil, tailN_cons] at h
  | x :: l, [], t, t', _, _, h => by simp [tailN_nil, tailN_cons] at h
  | x :: l, y :: l', t, t', h1, h2, h => by
    simp only [tailN_cons, List.cons.injEq, true_and] at h
    obtain ⟨rfl, hh⟩ := ih x y _ _ (h1 x List.mem_cons_self) (h2 y List.mem_cons_self) tailN_ends tailN_ends h
    obtain ⟨rfl, h3⟩ := tails_inj (fun z hz => h1 z (List.mem_cons_of_mem _ hz)) (fun z hz => h2 z (List.mem_cons_of_mem _ hz)) hh
    exact ⟨rfl, h3⟩
include hs
theorem joins_inj {l l' : List Pr} {t t' : List Nat} (h1 : ∀ x, x ∈ l → PrL s d x) (h2 : ∀ x, x ∈ l' → PrL s d x) (h : joinN (l.map (toldN s)) [44] ++ 41 :: t = joinN (l'.map (toldN s)) [44] ++ 41 :: t') : l = l' ∧ t = t' := by
  have one : ∀ {x : Pr}, PrL s d x → OneP s x := fun {x} hx => by cases d with
    | zero => exact hx.elim
    | succ d => exact hx.1
  cases l with
  | nil => cases l' with
    | nil => simp [joinN] at h; exact ⟨rfl, h⟩
    | cons y l' => rw [joinN_tail] at h; exact absurd h.symm (told_head hs (one (h2 y List.mem_cons_self)))
  | cons x l => cases l' with
    | nil => rw [joinN_tail] at h; exact absurd h (told_head hs (one (h1 x List.mem_cons_self)))
    | cons y l' =>
      rw [joinN_tail, joinN_tail] at h
      obtain ⟨rfl, hh⟩ := ih x y _ _ (h1 x List.mem_cons_self) (h2 y List.mem_cons_self) tailN_ends tailN_ends h
      obtain ⟨rfl, h3⟩ := tails_inj ih (fun z hz => h1 z (List.mem_cons_of_mem _ hz)) (fun z hz => h2 z (List.mem_cons_of_mem _ hz)) hh
      exact ⟨rfl, h3⟩
end
theorem pr_ext {a b : Pr} (h1 : a.kind = b.kind) (h2 : a.col = b.col) (h3 : a.op = b.op) (h4 : a.v = b.v) (h5 : a.l = b.l) : a = b := by
  cases a; cases b; simp [Pr.kind, Pr.col, Pr.op, Pr.v, Pr.l] at *; exact ⟨h1, h2, h3, h4, h5⟩
theorem told_inj {s : Sch} (hs : Names s) : ∀ (d : Nat) (p q : Pr) (t t' : List Nat), PrL s d p → PrL s d q → Ends t → Ends t' → toldN s p ++ t = toldN s q ++ t' → p = q ∧ t = t'
  | 0, _, _, _, _, h, _, _, _, _ => h.elim
  | d + 1, p, q, t, t', hp, hq, ht, ht', h => by
    rw [told_split, told_split] at h
    obtain ⟨hw, hr⟩ := span_eq (word_wf hs hp.1) (word_wf hs hq.1) (rest_brk ht) (rest_brk ht') h
    have nl : ∀ c, c ∈ ([110, 117, 108, 108] : List Nat) → c ≠ 32 := by decide
    have nm : ∀ i : Int, ∀ c, c ∈ nameS s i → c ≠ 32 := fun i c h => (nameS_chars hs h).1
    have no : ∀ i : Int, ∀ c, c ∈ opN i → c ≠ 32 := fun i c h => (opN_chars h).1
    have n1 : ∀ c, c ∈ ([116, 114, 117, 101] : List Nat) → c ≠ 32 := by decide
    have lf : ∀ {r : List Nat}, Ends r → ∀ x, ¬ r = 40 :: x := fun {r} h x e => by
      subst e; rcases h with h | ⟨_, h | h⟩ <;> simp at h
    have ih := told_inj hs d
    have leaf : ∀ {q : Pr} {t : List Nat}, ¬ (q.kind = 4 ∨ q.kind = 5 ∨ q.kind = 6) → restN s q t = t := fun h => by unfold restN; rw [if_neg h]
    have node : ∀ {q : Pr} {t : List Nat}, (q.kind = 4 ∨ q.kind = 5 ∨ q.kind = 6) → restN s q t = 40 :: (joinN (q.l.map (toldN s)) [44] ++ 41 :: t) := fun h => by unfold restN; rw [if_pos h]
    by_cases kp : p.kind = 4 ∨ p.kind = 5 ∨ p.kind = 6
    · by_cases kq : q.kind = 4 ∨ q.kind = 5 ∨ q.kind = 6
      · rw [node kp, node kq] at hr
        simp only [List.cons.injEq, true_and] at hr
        obtain ⟨hl, e⟩ := joins_inj hs ih hp.2 hq.2 hr
        have bare : ∀ {q : Pr}, OneP s q → (q.kind = 4 ∨ q.kind = 5 ∨ q.kind = 6) → q.col = 0 ∧ q.op = 0 ∧ q.v = zv := fun {q} h k => by
          rcases h with h | h | h | h | h
          · exfalso; have := h.1; omega
          · exfalso; have := h.1; omega
          · exfalso; have := h.1; omega
          · exact ⟨h.2.1, h.2.2.1, h.2.2.2.1⟩
          · exact ⟨h.2.1, h.2.2.1, h.2.2.2.1⟩
        obtain ⟨a1, a2, a3⟩ := bare hp.1 kp
        obtain ⟨b1, b2, b3⟩ := bare hq.1 kq
        refine ⟨pr_ext ?_ (by rw [a1, b1]) (by rw [a2, b2]) (by rw [a3, b3]) hl, e⟩
        unfold wordN at hw
        rcases kp with k | k | k <;> rcases kq with k' | k' | k' <;> first | exact k.trans k'.symm | (exfalso; simp [k, k'] at hw)
      · rw [node kp, leaf kq] at hr
        exact absurd hr.symm (lf ht' _)
    · by_cases kq : q.kind = 4 ∨ q.kind = 5 ∨ q.kind = 6
      · rw [leaf kp, node kq] at hr
        exact absurd hr (lf ht _)
      · rw [leaf kp, leaf kq] at hr
        refine ⟨?_, hr⟩
        unfold wordN at hw
        rcases hp.1 with ⟨k, c, o, v, l⟩ | ⟨k, c, o, nu, is, ⟨cl, hc, kk⟩, l, nn⟩ | ⟨k, c, o, v, l⟩ | ⟨k, _⟩ | ⟨k, _⟩
        · rcases hq.1 with ⟨k', c', o', v', l'⟩ | ⟨k', _⟩ | ⟨k', _⟩ | ⟨k', _⟩ | ⟨k', _⟩
          · exact pr_ext (by rw [k, k']) (by rw [c, c']) (by rw [o, o']) (by rw [v, v']) (by rw [l, l'])
          · exfalso; simp only [k, k'] at hw; exact cut_no n1 (by simpa using hw)
          · exfalso; simp only [k, k'] at hw; simp at hw
          · exact absurd (by omega) kq
          · exact absurd (by omega) kq
        · rcases hq.1 with ⟨k', _⟩ | ⟨k', c', o', nu', is', ⟨cl', hc', kk'⟩, l', nn'⟩ | ⟨k', _⟩ | ⟨k', _⟩ | ⟨k', _⟩
          · exfalso; simp only [k, k'] at hw; exact cut_no n1 (by simpa using hw.symm)
          · simp only [k, k', if_true] at hw
            obtain ⟨e1, e2⟩ := cut_eq (nm _) (nm _) hw
            obtain ⟨e3, e4⟩ := cut_eq (no _) (no _) e2
            have ec := nameS_inj hs c c' e1
            rw [ec] at hc
            rw [hc] at hc'
            cases hc'
            exact pr_ext (by rw [k, k']) ec (opN_inj o o' e3) (val_inj nu nu' is is' (by rw [kk, kk']) nn nn' e4) (by rw [l, l'])
          · exfalso; simp only [k, k'] at hw
            obtain ⟨_, e2⟩ := cut_eq (nm _) nl (by simpa using hw)
            exact cut_no (nm _) e2.symm
          · exact absurd (by omega) kq
          · exact absurd (by omega) kq
        · rcases hq.1 with ⟨k', _⟩ | ⟨k', _⟩ | ⟨k', c', o', v', l'⟩ | ⟨k', _⟩ | ⟨k', _⟩
          · exfalso; simp only [k, k'] at hw; simp at hw
          · exfalso; simp only [k, k'] at hw
            obtain ⟨_, e2⟩ := cut_eq nl (nm _) (by simpa using hw)
            exact cut_no (nm _) e2
          · simp only [k, k'] at hw
            obtain ⟨_, e2⟩ := cut_eq nl nl (by simpa using hw)
            exact pr_ext (by rw [k, k']) (nameS_inj hs c c' e2) (by rw [o, o']) (by rw [v, v']) (by rw [l, l'])
          · exact absurd (by omega) kq
          · exact absurd (by omega) kq
        · exact absurd (by omega) kp
        · exact absurd (by omega) kp
end Go.Lib
end

section
namespace Go.Lib
open Go.Vm Go.Dv
set_option maxRecDepth 100000
abbrev K222 (F : Nat → Nat) : KC := .seq (.region [⟨(some 6),(.p (.mov (.val (.bool false)))),none⟩] [] [0,1,2])
 (.seq (.region [⟨(some 7),(.p (.mov (.val (.func (F 223) [] [])))),none⟩] [] [0,1,2,7])
 (.seq (.region [mv 11 0,bi 12 .and 11 16777215,mv 13 1,bi 14 .and 13 16777215,mv 0 12,mv 1 14] [] [0,1,2,7])
 (.seq (.seq (.region [mv 15 2] [] [0,1,7,15])
 (.cond (.tmp 15) (.region [mv 16 0,mv 1 16] [] [0,1,7])
 (.skip)))
 (.seq (.region [mv 17 7,mv 18 0,⟨(some 19),(.e (.callv (.tmp 17) [(.tmp 18)])),none⟩,mv 20 7,mv 21 1,⟨(some 22),(.e (.callv (.tmp 20) [(.tmp 21)])),none⟩,⟨(some 8),(.a (.new [.int .i64 (.ofNat 0),.int .i64 (.ofNat 0),.nilslice])),none⟩,⟨(some 9),(.a (.new [.int .i64 (.ofNat 0),.int .i64 (.ofNat 0),.nilslice])),none⟩,⟨none,(.e (.store 3 (.tmp 8) (.tmp 19))),none⟩,⟨none,(.e (.store 3 (.tmp 9) (.tmp 22))),none⟩] [] [8,9])
 (.seq (.region [fa 23 0 8,l1 24 23,fa 25 0 9,l1 26 25,bt 27 .eql 24 26,mv 28 27,⟨(some 29),(.p (.faddr 0 (.tmp 8))),(some (28,true))⟩,⟨(some 30),(.load1 (.tmp 29)),(some (28,true))⟩,⟨(some 31),(.p (.bin .neq (.tmp 30) (.val (.int .i64 (.ofNat 0))))),(some (28,true))⟩,⟨(some 32),(.p (.mov (.tmp 31))),(some (28,true))⟩,⟨(some 33),(.p (.faddr 1 (.tmp 8))),(some (32,false))⟩,⟨(some 34),(.load1 (.tmp 33)),(some (32,false))⟩,⟨(some 35),(.p (.faddr 1 (.tmp 9))),(some (32,false))⟩,⟨(some 36),(.load1 (.tmp 35)),(some (32,false))⟩,⟨(some 37),(.p (.bin .eql (.tmp 34) (.tmp 36))),(some (32,false))⟩,⟨(some 38),(.p (.mov (.tmp 37))),(some (32,false))⟩,⟨(some 39),(.p (.faddr 2 (.tmp 8))),(some (38,true))⟩,⟨(some 40),(.load1 (.tmp 39)),(some (38,true))⟩,⟨(some 41),(.p (.faddr 2 (.tmp 9))),(some (38,true))⟩,⟨(some 42),(.load1 (.tmp 41)),(some (38,true))⟩,⟨(some 43),(.e (.call (F 48) [(.tmp 40),(.tmp 42)])),(some (38,true))⟩,⟨(some 44),(.p (.pick (.tmp 38) (.tmp 43) (.val (.bool false)))),(some (32,false))⟩,⟨(some 45),(.p (.pick (.tmp 32) (.val (.bool true)) (.tmp 44))),(some (28,true))⟩,⟨(some 46),(.p (.pick (.tmp 28) (.tmp 45) (.val (.bool false)))),none⟩,mv 10 46] [] [8,9,10])
 (.seq (.dregion [⟨ln 47 3 8,0,1⟩,⟨⟨(some 48),(.e (.call (F 224) [(.tmp 47)])),none⟩,0,3⟩,⟨ln 49 3 9,0,3⟩,⟨⟨(some 50),(.e (.call (F 224) [(.tmp 49)])),none⟩,2,8⟩,⟨bt 51 .eql 48 50,4,8⟩,⟨mv 52 10,0,8⟩,⟨⟨(some 53),(.p (.eq .bool false (.tmp 51) (.tmp 52))),none⟩,4,8⟩,⟨mv 54 53,4,8⟩,⟨⟨(some 55),(.e (.call (F 227) [])),(some (54,true))⟩,4,11⟩,⟨⟨(some 56),(.p (.pick (.tmp 54) (.tmp 55) (.val (.bool false)))),none⟩,9,11⟩,⟨mv 6 56,9,11⟩] [6])
 (.ret)))))))
def M222 (F : Nat → Nat) : Fun := ⟨57,3,(K222 F).erase,[.tmp 6]⟩
abbrev K223 (_F : Nat → Nat) : KC := .seq (.region [⟨(some 2),(.a (.new [.int .i64 (.ofNat 0),.int .i64 (.ofNat 0),.nilslice])),none⟩] [] [0,2])
 (.seq (.region [mv 7 0,bi 8 .and 7 3,⟨(some 9),(.p (.build [.int .i64 (.ofNat 0),.int .i64 (.ofNat 0),.nilslice] [(1,1,(.tmp 8))])),none⟩,⟨(some 3),(.a (.new [.int .i64 (.ofNat 0),.int .i64 (.ofNat 0),.nilslice])),none⟩,⟨none,(.e (.store 3 (.tmp 3) (.tmp 9))),none⟩] [] [0,2,3])
 (.seq (.seq (.region [mv 10 0,⟨(some 11),(.p (.bin .shr (.tmp 10) (.val (.int .u64 (.ofNat 2))))),none⟩,bi 12 .and 11 7,bi 13 .eql 12 0] [] [0,2,3,13])
 (.cond (.tmp 13) (.seq (.region [mv 14 0,⟨(some 15),(.p (.bin .shr (.tmp 14) (.val (.int .u64 (.ofNat 5))))),none⟩,bi 16 .and 15 3,⟨(some 17),(.p (.bin .add (.val (.int .i64 (.ofNat 1))) (.tmp 16))),none⟩,mv 18 0,bi 19 .and 18 3,⟨(some 20),(.p (.build [.int .i64 (.ofNat 0),.int .i64 (.ofNat 0),.nilslice] [(0,1,(.tmp 17)),(1,1,(.tmp 19))])),none⟩,⟨none,(.e (.store 3 (.tmp 2) (.tmp 20))),none⟩] [] [2])
 (.ret))
 (.skip)))
 (.seq (.seq (.region [mi 4 0] [] [0,2,3,4])
 (.block 0 (.loop (.seq (.seq (.region [mv 21 4,mv 22 0,⟨(some 23),(.p (.bin .shr (.tmp 22) (.val (.int .u64 (.ofNat 5))))),none⟩,bi 24 .and 23 3,bt 25 .lss 21 24] [] [0,2,3,4,25])
 (.cond (.tmp 25) (.skip)
 (.exit 0)))
 (.seq (.block 1 (.seq (.region [⟨(some 5),(.p (.mov (.val (.nilslice)))),none⟩] [] [0,2,3,4,5])
 (.seq (.seq (.region [mi 6 0] [] [0,2,3,4,5,6])
 (.block 2 (.loop (.seq (.seq (.region [mv 28 6,mv 29 0,mv 30 4,⟨(some 31),(.p (.bin .add (.val (.int .i64 (.ofNat 7))) (.tmp 30))),none⟩,⟨(some 32),(.p (.conv (.int .u64) (.tmp 31))),none⟩,bt 33 .shr 29 32,bi 34 .and 33 1,⟨(some 35),(.p (.bin .add (.val (.int .i64 (.ofNat 1))) (.tmp 34))),none⟩,bt 36 .lss 28 35] [] [0,2,3,4,5,6,36])
 (.cond (.tmp 36) (.skip)
 (.exit 2)))
 (.seq (.block 3 (.region [mv 39 5,mv 40 0,mv 41 4,⟨(some 42),(.p (.bin .mul (.val (.int .i64 (.ofNat 2))) (.tmp 41))),none⟩,⟨(some 43),(.p (.bin .add (.val (.int .i64 (.ofNat 10))) (.tmp 42))),none⟩,mv 44 6,bt 45 .add 43 44,⟨(some 46),(.p (.conv (.int .u64) (.tmp 45))),none⟩,bt 47 .shr 40 46,bi 48 .and 47 3,⟨(some 49),(.p (.build [.bool false,.int .i64 (.ofNat 0),.int .i64 (.ofNat 0),.nilslice] [(1,1,(.val (.int .i64 (.ofNat 1)))),(2,1,(.tmp 48))])),none⟩,⟨(some 50),(.a (.bslice [.bool false,.int .i64 (.ofNat 0),.int .i64 (.ofNat 0),.nilslice] 4 1 [(0,4,(.tmp 49))])),none⟩,⟨(some 51),(.e (.append 4 48 (.tmp 39) (.tmp 50))),none⟩,mv 5 51] [50] [0,2,3,4,5,6]))
 (.region [mv 37 6,bi 38 .add 37 1,mv 6 38] [] [0,2,3,4,5,6]))))))
 (.region [fa 52 2 3,l1 53 52,mv 54 5,⟨(some 55),(.a (.bslice [.nilslice] 1 1 [(0,1,(.tmp 54))])),none⟩,⟨(some 56),(.e (.append 1 24 (.tmp 53) (.tmp 55))),none⟩,fa 57 2 3,⟨none,(.e (.store 1 (.tmp 57) (.tmp 56))),none⟩] [55] [0,2,3,4]))))
 (.region [mv 26 4,bi 27 .add 26 1,mv 4 27] [] [0,2,3,4]))))))
 (.seq (.region [ln 58 3 3,⟨none,(.e (.store 3 (.tmp 2) (.tmp 58))),none⟩] [] [2])
 (.ret)))))
def M223 (F : Nat → Nat) : Fun := ⟨59,1,(K223 F).erase,[.celln 3 2]⟩
abbrev K224 (F : Nat → Nat) : KC := .seq (.region [⟨(some 1),(.a (.box (.tmp 0))),none⟩,⟨(some 2),(.p (.mov (.val (.str [])))),none⟩] [1] [1])
 (.seq (.seq (.region [fa 6 0 1,l1 7 6,bi 8 .neq 7 0] [] [1,8])
 (.cond (.tmp 8) (.seq (.region [fa 9 0 1,l1 10 9,⟨(some 11),(.e (.call (F 225) [(.tmp 10)])),none⟩,⟨(some 12),(.p (.bin .add (.val (.str [101,114,114,111,114,32])) (.tmp 11))),none⟩,mv 2 12] [] [2])
 (.ret))
 (.skip)))
 (.seq (.region [fa 13 1 1,l1 14 13,⟨(some 15),(.e (.call (F 225) [(.tmp 14)])),none⟩,⟨(some 16),(.p (.bin .add (.val (.str [110,32])) (.tmp 15))),none⟩,mv 3 16] [] [1,3])
 (.seq (.seq (.region [fa 17 2 1,l1 18 17,lb 19 18,mi 20 0] [] [3,18,19,20])
 (.block 0 (.loop (.seq (.region [bt 21 .lss 20 19] [] [3,18,19,20,21])
 (.seq (.cond (.tmp 21) (.skip)
 (.exit 0))
 (.seq (.block 1 (.seq (.region [ix 22 1 18 20,l1 23 22,mv 5 23] [] [3,5,18,19,20])
 (.region [mv 24 3,mv 25 5,⟨(some 26),(.e (.call (F 226) [(.tmp 25)])),none⟩,⟨(some 27),(.p (.bin .add (.val (.str [32])) (.tmp 26))),none⟩,bt 28 .add 24 27,mv 3 28] [] [3,18,19,20])))
 (.region [bi 29 .add 20 1,mv 20 29] [] [3,18,19,20])))))))
 (.seq (.region [mv 30 3,mv 2 30] [] [2])
 (.ret)))))
def M224 (F : Nat → Nat) : Fun := ⟨31,1,(K224 F).erase,[.tmp 2]⟩
abbrev K225 (F : Nat → Nat) : KC := .seq (.region [⟨(some 2),(.p (.mov (.val (.str [])))),none⟩] [] [0])
 (.seq (.region [mv 3 0,⟨(some 4),(.e (.call (F 208) [(.tmp 3)])),none⟩,mv 2 4] [] [2])
 (.ret))
def M225 (F : Nat → Nat) : Fun := ⟨5,1,(K225 F).erase,[.tmp 2]⟩
abbrev K226 (F : Nat → Nat) : KC := .seq (.region [⟨(some 2),(.p (.mov (.val (.str [])))),none⟩] [] [0])
 (.seq (.region [⟨(some 3),(.p (.mov (.val (.nilslice)))),none⟩] [] [0,3])
 (.seq (.seq (.region [mv 6 0,lb 7 6,mi 8 0] [] [3,6,7,8])
 (.block 0 (.loop (.seq (.region [bt 9 .lss 8 7] [] [3,6,7,8,9])
 (.seq (.cond (.tmp 9) (.skip)
 (.exit 0))
 (.seq (.block 1 (.seq (.region [ix 10 4 6 8,ln 11 4 10,⟨(some 5),(.a (.new [.bool false,.int .i64 (.ofNat 0),.int .i64 (.ofNat 0),.nilslice])),none⟩,⟨none,(.e (.store 4 (.tmp 5) (.tmp 11))),none⟩] [] [3,5,6,7,8])
 (.region [mv 12 3,ln 13 4 5,⟨(some 14),(.e (.call (F 213) [(.tmp 13)])),none⟩,⟨(some 15),(.a (.bslice [.str []] 1 1 [(0,1,(.tmp 14))])),none⟩,⟨(some 16),(.e (.append 1 16 (.tmp 12) (.tmp 15))),none⟩,mv 3 16] [15] [3,6,7,8])))
 (.region [bi 17 .add 8 1,mv 8 17] [] [3,6,7,8])))))))
 (.seq (.region [mv 18 3,⟨(some 19),(.e (.call (F 207) [(.tmp 18),(.val (.str [44]))])),none⟩,⟨(some 20),(.p (.bin .add (.val (.str [91])) (.tmp 19))),none⟩,⟨(some 21),(.p (.bin .add (.tmp 20) (.val (.str [93])))),none⟩,mv 2 21] [] [2])
 (.ret))))
def M226 (F : Nat → Nat) : Fun := ⟨22,1,(K226 F).erase,[.tmp 2]⟩
end Go.Lib
end

section
namespace Go.Lib
open Go.Vm Go.Dv
set_option maxRecDepth 100000
abbrev K62 (F : Nat → Nat) : KC := .seq (.region [⟨(some 8),(.p (.mov (.val (.bool false)))),none⟩] [] [0,1,2,3])
 (.seq (.region [mv 23 0,⟨(some 24),(.e (.call (F 23) [(.tmp 23)])),none⟩,⟨(some 9),(.a (.new [.nilslice])),none⟩,⟨none,(.e (.store 1 (.tmp 9) (.tmp 24))),none⟩] [] [1,2,3,9])
 (.seq (.region [ln 25 1 9,mv 26 1,⟨(some 27),(.e (.call (F 22) [(.tmp 25),(.tmp 26)])),none⟩,mv 10 27] [] [2,3,9,10])
 (.seq (.region [⟨(some 28),(.a (.bslice [] 1 0 [])),none⟩,mv 29 10,⟨(some 30),(.e (.append 1 24 (.tmp 28) (.tmp 29))),none⟩,mv 11 30] [] [2,3,9,10,11])
 (.seq (.seq (.region [mi 12 0] [] [2,3,9,10,11,12])
 (.block 0 (.loop (.seq (.seq (.region [mv 31 12,bi 32 .add 31 1,mv 33 2,lb 34 33,bt 35 .lss 32 34,mv 36 35,⟨(some 37),(.p (.mov (.tmp 10))),(some (36,true))⟩,⟨(some 38),(.p (.lenb (.tmp 37))),(some (36,true))⟩,⟨(some 39),(.p (.bin .gtr (.tmp 38) (.val (.int .i64 (.ofNat 0))))),(some (36,true))⟩,⟨(some 40),(.p (.pick (.tmp 36) (.tmp 39) (.val (.bool false)))),none⟩] [] [2,3,9,10,11,12,40])
 (.cond (.tmp 40) (.skip)
 (.exit 0)))
 (.seq (.block 1 (.seq (.dregion [⟨mv 43 2,0,19⟩,⟨mv 44 12,0,19⟩,⟨ix 45 1 43 44,0,19⟩,⟨l1 46 45,0,19⟩,⟨bi 47 .and 46 255,0,19⟩,⟨mv 48 10,0,19⟩,⟨lb 49 48,0,19⟩,⟨bt 50 .rem 47 49,0,19⟩,⟨mv 51 2,0,19⟩,⟨mv 52 12,0,19⟩,⟨bi 53 .add 52 1,0,19⟩,⟨ix 54 1 51 53,0,19⟩,⟨l1 55 54,0,19⟩,⟨bi 56 .and 55 255,0,19⟩,⟨mv 57 10,0,19⟩,⟨lb 58 57,0,19⟩,⟨bt 59 .rem 56 58,0,19⟩,⟨mv 13 50,0,19⟩,⟨mv 14 59,0,19⟩] [2,3,9,10,11,12,13,14])
 (.dregion [⟨mv 60 11,0,11⟩,⟨mv 61 13,0,11⟩,⟨mv 64 11,0,11⟩,⟨mv 65 14,0,11⟩,⟨ix 66 1 64 65,0,11⟩,⟨l1 67 66,0,11⟩,⟨mv 68 11,0,11⟩,⟨mv 69 13,0,11⟩,⟨ix 70 1 68 69,0,11⟩,⟨l1 71 70,0,11⟩,⟨ix 72 1 60 61,0,11⟩,⟨⟨none,(.e (.store 1 (.tmp 72) (.tmp 67))),none⟩,0,15⟩,⟨mv 62 11,0,15⟩,⟨mv 63 14,0,15⟩,⟨ix 73 1 62 63,12,15⟩,⟨⟨none,(.e (.store 1 (.tmp 73) (.tmp 71))),none⟩,12,16⟩] [2,3,9,10,11,12])))
 (.region [mv 41 12,bi 42 .add 41 1,mv 12 42] [] [2,3,9,10,11,12]))))))
 (.seq (.region [mv 74 3,bi 75 .and 74 255,fa 76 0 9,l1 77 76,lb 78 77,bt 79 .rem 75 78,mv 15 79] [] [10,11,15])
 (.seq (.region [⟨(some 80),(.p (.build [.int .i64 (.ofNat 0),.int .i64 (.ofNat 0)] [(0,1,(.val (.int .i64 (.ofNat 1))))])),none⟩,⟨(some 81),(.p (.build [.int .i64 (.ofNat 0),.int .i64 (.ofNat 0)] [(0,1,(.val (.int .i64 (.ofNat 2))))])),none⟩,mv 82 15,⟨(some 83),(.p (.build [.int .i64 (.ofNat 0),.int .i64 (.ofNat 0)] [(0,1,(.val (.int .i64 (.ofNat 3)))),(1,1,(.tmp 82))])),none⟩,mv 84 15,⟨(some 85),(.p (.build [.int .i64 (.ofNat 0),.int .i64 (.ofNat 0)] [(0,1,(.val (.int .i64 (.ofNat 4)))),(1,1,(.tmp 84))])),none⟩,⟨(some 86),(.a (.bslice [.int .i64 (.ofNat 0),.int .i64 (.ofNat 0),.int .i64 (.ofNat 0),.int .i64 (.ofNat 0),.int .i64 (.ofNat 0),.int .i64 (.ofNat 0),.int .i64 (.ofNat 0),.int .i64 (.ofNat 0)] 2 4 [(0,2,(.tmp 80)),(2,2,(.tmp 81)),(4,2,(.tmp 83)),(6,2,(.tmp 85))])),none⟩,mv 16 86] [86] [10,11,15,16])
 (.seq (.seq (.region [mv 87 15,⟨(some 88),(.a (.bslice [.int .i64 (.ofNat 0),.int .i64 (.ofNat 0)] 1 2 [(0,1,(.val (.int .i64 (.negSucc 0)))),(1,1,(.tmp 87))])),none⟩,lb 89 88,mi 90 0] [88] [10,11,15,16,88,89,90])
 (.block 2 (.loop (.seq (.region [bt 91 .lss 90 89] [] [10,11,15,16,88,89,90,91])
 (.seq (.cond (.tmp 91) (.skip)
 (.exit 2))
 (.seq (.block 3 (.seq (.region [ix 92 1 88 90,l1 93 92,mv 18 93] [] [10,11,15,16,18,88,89,90])
 (.seq (.region [mv 95 10,mv 96 18,mv 97 16,⟨(some 98),(.e (.call (F 32) [(.tmp 95),(.tmp 96),(.tmp 97)])),none⟩,mv 94 98,et 99 94 0,et 100 94 1,mv 19 99,mv 20 100] [] [10,11,15,16,18,19,20,88,89,90])
 (.seq (.region [mv 102 11,mv 103 18,mv 104 16,⟨(some 105),(.e (.call (F 32) [(.tmp 102),(.tmp 103),(.tmp 104)])),none⟩,mv 101 105,et 106 101 0,et 107 101 1,mv 21 106,mv 22 107] [] [10,11,15,16,18,19,20,21,22,88,89,90])
 (.seq (.region [mv 108 20,mv 109 22,⟨(some 110),(.p (.eq .bool true (.tmp 108) (.tmp 109))),none⟩,mv 111 110,⟨(some 112),(.p (.mov (.tmp 19))),(some (111,false))⟩,⟨(some 113),(.p (.mov (.tmp 21))),(some (111,false))⟩,⟨(some 114),(.e (.call (F 48) [(.tmp 112),(.tmp 113)])),(some (111,false))⟩,⟨(some 115),(.p (.not (.tmp 114))),(some (111,false))⟩,⟨(some 116),(.p (.pick (.tmp 111) (.val (.bool true)) (.tmp 115))),none⟩,mv 117 116,⟨(some 118),(.p (.mov (.tmp 20))),(some (117,false))⟩,⟨(some 119),(.p (.mov (.tmp 118))),(some (117,false))⟩,⟨(some 120),(.p (.mov (.tmp 18))),(some (119,true))⟩,⟨(some 121),(.p (.bin .geq (.tmp 120) (.val (.int .i64 (.ofNat 0))))),(some (119,true))⟩,⟨(some 122),(.p (.pick (.tmp 119) (.tmp 121) (.val (.bool false)))),(some (117,false))⟩,⟨(some 123),(.p (.mov (.tmp 122))),(some (117,false))⟩,⟨(some 124),(.p (.mov (.tmp 19))),(some (123,true))⟩,⟨(some 125),(.p (.lenb (.tmp 124))),(some (123,true))⟩,⟨(some 126),(.p (.mov (.tmp 10))),(some (123,true))⟩,⟨(some 127),(.p (.lenb (.tmp 126))),(some (123,true))⟩,⟨(some 128),(.p (.bin .gtr (.tmp 125) (.tmp 127))),(some (123,true))⟩,⟨(some 129),(.p (.pick (.tmp 123) (.tmp 128) (.val (.bool false)))),(some (117,false))⟩,⟨(some 130),(.p (.pick (.tmp 117) (.val (.bool true)) (.tmp 129))),none⟩] [] [10,11,15,16,88,89,90,130])
 (.cond (.tmp 130) (.seq (.region [⟨(some 8),(.p (.mov (.val (.bool false)))),none⟩] [] [8])
 (.ret))
 (.skip)))))))
 (.region [bi 131 .add 90 1,mv 90 131] [] [10,11,15,16,88,89,90])))))))
 (.seq (.region [mv 132 10,⟨(some 133),(.e (.call (F 33) [(.tmp 132)])),none⟩,mv 134 11,⟨(some 135),(.e (.call (F 33) [(.tmp 134)])),none⟩,⟨(some 136),(.e (.call (F 48) [(.tmp 133),(.tmp 135)])),none⟩,mv 137 136,⟨(some 138),(.p (.mov (.tmp 10))),(some (137,true))⟩,⟨(some 139),(.p (.mov (.tmp 15))),(some (137,true))⟩,⟨(some 140),(.a (.bslice [.int .i64 (.ofNat 0),.int .i64 (.ofNat 0)] 1 2 [(0,1,(.tmp 139)),(1,1,(.val (.int .i64 (.ofNat 0))))])),(some (137,true))⟩,⟨(some 141),(.e (.call (F 34) [(.tmp 138),(.tmp 140)])),(some (137,true))⟩,⟨(some 142),(.p (.mov (.tmp 11))),(some (137,true))⟩,⟨(some 143),(.p (.mov (.tmp 15))),(some (137,true))⟩,⟨(some 144),(.a (.bslice [.int .i64 (.ofNat 0),.int .i64 (.ofNat 0)] 1 2 [(0,1,(.tmp 143)),(1,1,(.val (.int .i64 (.ofNat 0))))])),(some (137,true))⟩,⟨(some 145),(.e (.call (F 34) [(.tmp 142),(.tmp 144)])),(some (137,true))⟩,⟨(some 146),(.e (.call (F 48) [(.tmp 141),(.tmp 145)])),(some (137,true))⟩,⟨(some 147),(.p (.pick (.tmp 137) (.tmp 146) (.val (.bool false)))),none⟩,mv 148 147,⟨(some 149),(.e (.call (F 52) [])),(some (148,true))⟩,⟨(some 150),(.p (.pick (.tmp 148) (.tmp 149) (.val (.bool false)))),none⟩,mv 8 150] [140,144] [8])
 (.ret)))))))))
def M62 (F : Nat → Nat) : Fun := ⟨151,4,(K62 F).erase,[.tmp 8]⟩
end Go.Lib
end

section
set_option maxRecDepth 10000
namespace Go.Lib
open Go.Vm Go.Dv Go.Srt
variable {p : Prog} {ext : Ext} {F : Nat → Nat}
attribute [-simp] bin_and bin_xor
structure HLaw16m (p : Prog) (ext : Ext) (F : Nat → Nat) : Prop where
  aggr : HAggr p ext F
  law6 : HLaw6 p ext F
  ref6 : HRef6 p ext F
  x45 : ∀ args h, ext (F 45) args h = extV .add64 args h
  awake : FnD p ext (F 52) [] (.lit (.bool true))
  h62 : Has p ext F 62 M62
end Go.Lib
end

section
set_option maxRecDepth 10000
namespace Go.Lib
open Go.Vm Go.Dv Go.Srt
variable {p : Prog} {ext : Ext} {F : Nat → Nat}
attribute [-simp] bin_and bin_xor
structure HRept (p : Prog) (ext : Ext) (F : Nat → Nat) (g : SG) : Prop where
  val : HVal p ext F g
  ref6 : HSame6 p ext F
  x207 : ∀ args h, ext (F 207) args h = strV g .join args h
  x208 : ∀ args h, ext (F 208) args h = strV g .itoa args h
  awake : FnD p ext (F 227) [] (.lit (.bool true))
  h222 : Has p ext F 222 M222
  h223 : Has p ext F 223 M223
  h224 : Has p ext F 224 M224
  h225 : Has p ext F 225 M225
  h226 : Has p ext F 226 M226
structure Shy (r : Row) : Prop where
  len : r.length < 1000
  num : ∀ v, v ∈ r → wr .i64 v.n = v.n
  txt : (joinN (r.map valN) [44]).length < 1000000
structure Re where
  err : Int
  n : Int
  rows : List Row
def Re.c (r : Re) : List D := [.lit (.int .i64 r.err), .lit (.int .i64 r.n), rowsD r.rows]
structure ShyR (r : Re) : Prop where
  err : wr .i64 r.err = r.err
  n : wr .i64 r.n = r.n
  len : r.rows.length < 1000
  rows : ∀ x, x ∈ r.rows → Shy x
theorem digN_len : ∀ {f u : Nat}, (digN f u).length ≤ f + 1
  | 0, u => by simp [digN]
  | f + 1, u => by
    have := digN_len (f := f) (u := Nat.div u 10)
    unfold digN
    cases Nat.blt u 10
    · simp; exact this
    · simp
theorem itoa_short {n : Int} : (itoaN n).length < 100 := by
  cases n with
  | ofNat n => have := digN_len (f := 20) (u := n); simp only [itoaN]; omega
  | negSucc n => have := digN_len (f := 20) (u := n + 1); simp only [itoaN, List.length_cons]; omega
end Go.Lib
end

section
set_option maxRecDepth 10000
namespace Go.Lib
open Go.Vm Go.Dv Go.Srt
variable {p : Prog} {ext : Ext} {F : Nat → Nat}
attribute [-simp] bin_and bin_xor
structure HText (p : Prog) (ext : Ext) (F : Nat → Nat) : Prop where
  schm : HSchmE p ext F
  h214 : Has p ext F 214 M214
  h216 : Has p ext F 216 M216
  h218 : Has p ext F 218 M218
  h219 : Has p ext F 219 M219
  h220 : Has p ext F 220 M220
  h221 : Has p ext F 221 M221
theorem pred_none (L : HText p ext F) {v : Vl} : FnD p ext (F 221) [.agg v.c] (.lit (.bool (decide (v = zv)))) := by
  refine fn_of L.h221 (M := M221) rfl ok221 rfl fun H => sem_run 9000 _ ?_
  simp
  refine sem_fn (schm_equal L.schm (a := v) (b := zv)) (by first | exact D.les_refl _ | simp [D.les, D.le, Vl.c, zv, byD, byE]) (sem_run 9000 _ ?_)
  simp
  refine sem_ret ?_
  simp [M221]
  exact .le (by repeat (first | exact Sub.refl | apply Sub.new | refine Sub.put ?_ (by first | omega | (simp only [put_next, new_next]; omega)))) (D.le_refl _) (by simp)
def bareB (q : Pr) : Bool := decide (q.col = 0 ∧ q.op = 0 ∧ q.v = zv)
theorem pred_bare (L : HText p ext F) {q : Pr} : FnD p ext (F 219) [.agg q.c] (.lit (.bool (bareB q))) := by
  refine fn_of L.h219 (M := M219) rfl ok219 rfl fun H => sem_run 9000 _ ?_
  simp
  by_cases h1 : q.col = 0
  · by_cases h2 : q.op = 0
    · simp [h1, h2]
      refine sem_fn (pred_none L) (by first | exact D.les_refl _ | simp) (sem_run 9000 _ ?_)
      simp
      refine sem_ret ?_
      simp [M219, bareB, h1, h2]
      exact .same (by simp)
    · simp [h1, h2]
      refine sem_ret ?_
      simp [M219, bareB, h1, h2]
      exact .same (by simp)
  · simp [h1]
    refine sem_ret ?_
    simp [M219, bareB, h1]
    exact .same (by simp)
theorem schm_is (L : HText p ext F) {v : Vl} (hn : v.null = false) : FnD p ext (F 220) [.agg v.c] (.lit (.bool (isB v))) := by
  refine fn_of L.h220 (M := M220) rfl ok220 rfl fun H => sem_run 9000 _ ?_
  simp
  by_cases h1 : v.kind = 1
  · simp [h1, hn]
    refine sem_ret ?_
    simp [M220, isB, h1, hn]
    exact .same (by simp)
  · by_cases h2 : v.kind = 2
    · simp [h2, hn]
      by_cases h3 : v.n = 0
      · by_cases h4 : v.bytes.length ≤ 64
        · have h4' : (v.bytes.length : Int) ≤ 64 := by omega
          simp [h3, h4']
          refine sem_ret ?_
          simp [M220, isB, h2, h3, h4, hn]
          exact .same (by simp)
        · have h4' : ¬ (v.bytes.length : Int) ≤ 64 := by omega
          simp [h3, h4']
          refine sem_ret ?_
          simp [M220, isB, h2, h3, h4, hn]
          exact .same (by simp)
      · simp [h3]
        refine sem_ret ?_
        simp [M220, isB, h2, h3, hn]
        exact .same (by simp)
    · simp [h1, h2]
      refine sem_ret ?_
      simp [M220, isB, h1, h2, hn]
      exact .same (by simp)
theorem pr_g3 {q : Pr} (h : 3 < q.c.length) : q.c[3] = .lit (.bool q.v.null) := pr_g (by rw [pr_c]; rfl) h
theorem pr_g4 {q : Pr} (h : 4 < q.c.length) : q.c[4] = .lit (.int .i64 q.v.kind) := pr_g (by rw [pr_c]; rfl) h
attribute [simp] pr_g3 pr_g4
theorem pred_one (L : HText p ext F) {s : Sch} {q : Pr} (h : OneP s q) : FnD p ext (F 218) [schD s, .agg q.c] (.lit (.bool true)) := by
  refine fn_of L.h218 (M := M218) rfl ok218 rfl fun H => sem_run 9000 _ ?_
  simp
  rcases h with ⟨k, c, o, v, l⟩ | ⟨k, ⟨c1, c2⟩, ⟨o1, o2⟩, nu, is, ⟨cl, hc, kk⟩, l, _⟩ | ⟨k, ⟨c1, c2⟩, o, v, l⟩ | ⟨k, c, o, v, l⟩ | ⟨k, c, o, v, l⟩
  · have c0 : (0 : Int) ≤ q.col := by omega
    simp [k, c0]
    refine sem_fn (pred_bare L) (by first | exact D.les_refl _ | simp) (sem_run 9000 _ ?_)
    simp
    simp [bareB, c, o, v, l]
    refine sem_ret ?_
    simp [M218]
    exact .same (by simp)
  · simp [k, c1, c2, o1, o2]
    have hci : q.col.toNat < s.length := by omega
    have hcc : s[q.col.toNat] = cl := by rw [List.getElem?_eq_getElem hci] at hc; exact Option.some.inj hc
    refine sem_dfn (schm_is L nu) (by first | exact D.les_refl _ | simp) (sem_run 9000 _ ?_)
    simp [is, nu, hc, c1, kk, l]
    refine sem_ret ?_
    simp [M218]
    exact .same (by simp)
  · simp [k, c1, c2, o]
    refine sem_fn (pred_none L) (by first | exact D.les_refl _ | simp) (sem_run 9000 _ ?_)
    simp
    simp [v, l]
    refine sem_ret ?_
    simp [M218]
    exact .same (by simp)
  · have c0 : (0 : Int) ≤ q.col := by omega
    have l' : (q.l.length : Int) ≤ 8 := by omega
    rcases k with k | k
    · simp [k, c0]
      refine sem_fn (pred_bare L) (by first | exact D.les_refl _ | simp) (sem_run 9000 _ ?_)
      simp
      simp [bareB, c, o, v, l']
      refine sem_ret ?_
      simp [M218]
      exact .same (by simp)
    · simp [k, c0]
      refine sem_fn (pred_bare L) (by first | exact D.les_refl _ | simp) (sem_run 9000 _ ?_)
      simp
      simp [bareB, c, o, v, l']
      refine sem_ret ?_
      simp [M218]
      exact .same (by simp)
  · have c0 : (0 : Int) ≤ q.col := by omega
    simp [k, c0]
    refine sem_fn (pred_bare L) (by first | exact D.les_refl _ | simp) (sem_run 9000 _ ?_)
    simp
    simp [bareB, c, o, v, l]
    refine sem_ret ?_
    simp [M218]
    exact .same (by simp)
mutual
def cntP : Pr → Nat
  | .mk _ _ _ _ l => 1 + cntPs l
def cntPs : List Pr → Nat
  | [] => 0
  | x :: l => cntP x + cntPs l
end
theorem cntP_eq {q : Pr} : cntP q = 1 + cntPs q.l := by cases q; simp [cntP, Pr.l]
theorem cntPs_append : ∀ {a b : List Pr}, cntPs (a ++ b) = cntPs a + cntPs b
  | [], b => by simp [cntPs]
  | x :: a, b => by simp [cntPs, cntPs_append (a := a)]; omega
def LookR (H : HpD) (b : Nat) (m : Nat) (d : D) (H' : HpD) : Prop :=
  d = .lit (.bool true) ∧ H'.blk b = .cells [.lit (.int .i64 (m : Int))] false ∧ H.next ≤ H'.next ∧ ∀ x, x < H.next → x ≠ b → H'.blk x = H.blk x
def LookI (H : HpD) (s : Sch) (q : Pr) (k b n : Nat) (w : Nat) (fr : FrD) (H' : HpD) : Prop :=
  ∃ i : Nat, w = q.l.length - i ∧ i ≤ q.l.length ∧ fr = [(2, .lit (.int .i64 ((k : Int) + 1))), (3, .ptr b 0), (4, .rptr [schR s] 0), (31, prsD q.l), (32, .lit (.int .i64 (q.l.length : Int))), (33, .lit (.int .i64 (i : Int)))] ∧
    H'.blk b = .cells [.lit (.int .i64 ((n + 1 + cntPs (q.l.take i) : Nat) : Int))] false ∧ H.next ≤ H'.next ∧ ∀ x, x < H.next → x ≠ b → H'.blk x = H.blk x
theorem pred_look (L : HText p ext F) {s : Sch} : ∀ (k : Nat) (q : Pr) (H : HpD) (n b : Nat), PrL s k q → H.blk b = .cells [.lit (.int .i64 (n : Int))] false → b < H.next → n + cntP q ≤ 64 → k < 100 →
    WcD p ext (F 216) [schD s, .agg q.c, .lit (.int .i64 (k : Int)), .ptr b 0] H (LookR H b (n + cntP q))
  | 0, _, _, _, _, h, _, _, _, _ => h.elim
  | k + 1, q, H, n, b, ⟨h1, h2⟩, hb, hlt, hn, hk => by
    refine wc_of L.h216 (M := M216) rfl ok216 rfl (sem_run 9000 _ ?_)
    have hc := cntP_eq (q := q)
    have w1 : wr .i64 ((n : Int) + 1) = (n : Int) + 1 := by rw [wr_of] <;> omega
    have z1 : ¬ ((k : Int) + 1 = 0) := by omega
    have z2 : ¬ (64 < (n : Int) + 1) := by omega
    simp [hb, w1, z1, z2]
    refine sem_fn (pred_one L h1) (by first | exact D.les_refl _ | simp) (sem_run 9000 _ ?_)
    simp
    have hkl : k + 1 < 100 := hk
    have hql : q.l.length ≤ 8 := by
      rcases h1 with h | h | h | h | h
      · rw [h.2.2.2.2]; simp
      · rw [h.2.2.2.2.2.2.1]; simp
      · rw [h.2.2.2.2]; simp
      · exact h.2.2.2.2
      · rw [h.2.2.2.2]; omega
    refine sem_loop (LookI H s q k b n) ?_ (k := q.l.length) ⟨0, by simp, by simp, rfl, by simp [cntPs], by simp, fun x hx hne => by rw [put_blk, if_neg hne]⟩
    rintro w fr H' ⟨i, rfl, hi, rfl, b1, b2, b3⟩
    by_cases c : i < q.l.length
    · obtain ⟨x, hx⟩ : ∃ x, q.l[i]? = some x := ⟨q.l[i], by simp⟩
      have hxi : q.l[i] = x := by rw [List.getElem?_eq_getElem c] at hx; exact Option.some.inj hx
      have htk : q.l.take (i + 1) = q.l.take i ++ [x] := by rw [List.take_succ_eq_append_getElem c, hxi]
      have hct : cntPs (q.l.take (i + 1)) = cntPs (q.l.take i) + cntP x := by rw [htk, cntPs_append]; simp [cntPs]
      have hcl : cntPs (q.l.take (i + 1)) ≤ cntPs q.l := by
        have := cntPs_append (a := q.l.take (i + 1)) (b := q.l.drop (i + 1))
        rw [List.take_append_drop] at this; omega
      have w2 : wr .i64 ((k : Int) + 1 - 1) = (k : Int) := by rw [wr_of] <;> omega
      have w3 : wr .i64 (k : Int) = (k : Int) := by rw [wr_of] <;> omega
      refine sem_run 9000 _ ?_
      simp
      simp [c, hxi, w3]
      refine sem_call (pred_look L k x _ (n + 1 + cntPs (q.l.take i)) b (h2 x (by rw [← hxi]; simp)) (by rw [put_blk, if_neg (by omega), new_blk, if_neg (by omega)]; exact b1) (by simp; omega) (by omega) (by omega)) ?_
      rintro d H2 ⟨rfl, e1, e2, e3⟩
      refine sem_run 9000 _ ?_
      simp
      refine sem_ok ?_
      have hw : wr .i64 ((i : Int) + 1) = ((i + 1 : Nat) : Int) := by rw [wr_of] <;> omega
      have e2 : H'.next + 1 ≤ H2.next := e2
      refine ⟨_, by omega, i + 1, rfl, by omega, by rw [hw], ?_, by omega, fun y hy hne => ?_⟩
      · rw [e1, hct]; congr 4; omega
      · rw [e3 y (by simp; omega) hne, put_blk, if_neg (by omega), new_blk, if_neg (by omega)]; exact b3 y hy hne
    · have : i = q.l.length := by omega
      subst this
      rw [List.take_length] at b1
      refine sem_run 9000 _ ?_
      simp
      refine sem_exit (sem_run 9000 _ ?_)
      simp
      refine sem_ret ?_
      simp [M216]
      refine ⟨rfl, ?_, b2, b3⟩
      rw [b1, hc]; congr 4; omega
theorem pred_ok (L : HText p ext F) {s : Sch} {q : Pr} (h : PrL s 5 q) (hc : cntP q ≤ 64) : FnD p ext (F 214) [schD s, .agg q.c] (.lit (.bool true)) := by
  refine fn_of L.h214 (M := M214) rfl ok214 rfl fun H => sem_run 9000 _ ?_
  simp
  refine sem_call (pred_look L 5 q _ 0 H.next h (by simp) (by simp) (by omega) (by omega)) ?_
  rintro d H2 ⟨rfl, e1, e2, e3⟩
  refine sem_run 9000 _ ?_
  simp
  refine sem_ret ?_
  simp [M214]
  simp at e2
  exact .le ⟨by omega, fun x hx => by rw [e3 x (by simp; omega) (by omega), put_blk, if_neg (by omega), new_blk, if_neg (by omega)]⟩ (D.le_refl _) (by simp)
structure HTold (p : Prog) (ext : Ext) (F : Nat → Nat) (g : SG) : Prop where
  text : HText p ext F
  val : HVal p ext F g
  x207 : ∀ args h, ext (F 207) args h = strV g .join args h
  h212 : Has p ext F 212 M212
  h215 : Has p ext F 215 M215
  h217 : Has p ext F 217 M217
def opsL : List (List Nat) := [[], [61], [33, 61], [60], [60, 61], [62], [62, 61]]
theorem text_ops {g : SG} (L : HTold p ext F g) : FnD p ext (F 217) [] (strsD opsL) := by
  refine fn_of L.h217 (M := M217) rfl ok217 rfl fun H => sem_run 9000 _ ?_
  simp
  refine sem_ret ?_
  simp [M217]
  exact .le .refl (by simp [strsD, strE, opsL, D.le, D.less_refl]) (by simp)
def Shorts (s : Sch) : Prop := ∀ c, c ∈ s → c.name.length ≤ 100
def capN : Nat → Nat
  | 0 => 0
  | k + 1 => 8 * (capN k + 1) + 1000
theorem join_le {B : Nat} : ∀ {l : List (List Nat)}, (∀ x, x ∈ l → x.length ≤ B) → (joinT [44] l).length ≤ l.length * (B + 1)
  | [], _ => by simp [joinT]
  | x :: l, h => by
    have h1 := join_le (l := l) (fun y hy => h y (List.mem_cons_of_mem _ hy))
    have h2 := h x List.mem_cons_self
    simp only [joinT, List.length_append, List.length_cons, List.length_nil]
    rw [Nat.add_mul]; omega
theorem joinN_le {B : Nat} {l : List (List Nat)} (h : ∀ x, x ∈ l → x.length ≤ B) : (joinN l [44]).length ≤ l.length * (B + 1) := by
  cases l with
  | nil => simp [joinN]
  | cons x l =>
    have h1 := join_le (l := l) (fun y hy => h y (List.mem_cons_of_mem _ hy))
    have h2 := h x List.mem_cons_self
    simp only [joinN, List.length_append, List.length_cons]
    rw [Nat.add_mul]; omega
theorem nameS_len {s : Sch} (hs : Shorts s) {c : Int} : (nameS s c).length ≤ 100 := by
  unfold nameS
  split
  · rename_i c hc; exact hs c (List.mem_of_getElem? hc)
  · simp
theorem opN_len {o : Int} : (opN o).length ≤ 2 := by
  unfold opN
  repeat' split
  all_goals simp
theorem val_len {v : Vl} (hn : v.null = false) (h : isB v = true) : (valN v).length ≤ 200 := by
  unfold isB at h
  rw [decide_eq_true_iff, if_neg (by simp [hn])] at h
  unfold valN
  rw [if_neg (by simp [hn])]
  split
  · have := itoa_short (n := v.n); omega
  · rename_i k
    rw [if_neg k] at h
    rw [List.length_cons, hexs_len]; omega
theorem one_short {s : Sch} {q : Pr} (h1 : OneP s q) : q.l.length ≤ 8 := by
  rcases h1 with h | h | h | h | h
  · rw [h.2.2.2.2]; simp
  · rw [h.2.2.2.2.2.2.1]; simp
  · rw [h.2.2.2.2]; simp
  · exact h.2.2.2.2
  · rw [h.2.2.2.2]; omega
theorem told_len {s : Sch} (hs : Shorts s) : ∀ {k : Nat} {q : Pr}, PrL s k q → (toldN s q).length ≤ capN k
  | 0, _, h => h.elim
  | k + 1, q, ⟨h1, h2⟩ => by
    have hj := joinN_le (B := capN k) (l := q.l.map (toldN s)) (fun x hx => by
      obtain ⟨y, hy, rfl⟩ := List.mem_map.1 hx; exact told_len hs (h2 y hy))
    rw [List.length_map] at hj
    have hl := one_short h1
    have hm := Nat.mul_le_mul_right (capN k + 1) hl
    have e : capN (k + 1) = 8 * (capN k + 1) + 1000 := rfl
    rw [toldN_eq, e]
    have hn := nameS_len hs (c := q.col)
    have ho := opN_len (o := q.op)
    split
    · rename_i k2
      have hv : (valN q.v).length ≤ 200 := by
        rcases h1 with h | h | h | h | h
        · exfalso; have := h.1; omega
        · exact val_len h.2.2.2.1 h.2.2.2.2.1
        · exfalso; have := h.1; omega
        · exfalso; have := h.1; omega
        · exfalso; have := h.1; omega
      simp only [List.length_append, List.length_cons, List.length_nil]; omega
    · repeat' split
      all_goals (simp only [List.length_append, List.length_cons, List.length_nil]; omega)
theorem cap_5 : ∀ k, k ≤ 5 → capN k ≤ 100000000 := by decide
def TelI (H0 : HpD) (s : Sch) (q : Pr) (w : Nat) (fr : FrD) (H : HpD) : Prop :=
  ∃ (i : Nat) (t : D), w = q.l.length - i ∧ i ≤ q.l.length ∧ fr = [(2, .rptr [schR s] 0), (3, .rptr q.c 0), (5, t), (10, prsD q.l), (11, .lit (.int .i64 (q.l.length : Int))), (12, .lit (.int .i64 (i : Int)))] ∧ Gr H0 H 1 t (strE ((q.l.take i).map (toldN s)))
theorem text_told {g : SG} (L : HTold p ext F g) {s : Sch} (hs : Shorts s) : ∀ (k : Nat) (q : Pr), PrL s k q → k ≤ 5 → FnD p ext (F 215) [schD s, .agg q.c] (.lit (.str (toldN s q)))
  | 0, _, h, _ => h.elim
  | k + 1, q, hq, hk => by
    obtain ⟨h1, h2⟩ := hq
    have hql := one_short h1
    refine fn_of L.h215 (M := M215) rfl ok215 rfl fun H => sem_run 9000 _ ?_
    simp
    refine sem_loop (TelI H s q) ?_ (k := q.l.length) ⟨0, .lit .nilslice, by simp, by simp, rfl, by simpa [strE] using Gr.start⟩
    rintro w fr H' ⟨i, t, rfl, hi, rfl, gr⟩
    by_cases c : i < q.l.length
    · obtain ⟨x, hx⟩ : ∃ x, q.l[i]? = some x := ⟨q.l[i], by simp⟩
      have hxi : q.l[i] = x := by rw [List.getElem?_eq_getElem c] at hx; exact Option.some.inj hx
      refine sem_run 9000 _ ?_
      simp
      simp [c, hxi]
      refine sem_fn (text_told L hs k x (h2 x (by rw [← hxi]; simp)) (by omega)) (by first | exact D.les_refl _ | simp [schD, D.les_refl]) (sem_run 9000 _ ?_)
      simp
      refine sem_push (gr.mono (by repeat (first | exact Sub.refl | apply Sub.new | refine Sub.put ?_ (by first | omega | (simp only [put_next, new_next]; omega))))) rfl rfl (roomyD (by simp [str_len]; omega) (by simp [str_len]; omega)) fun s' H1 g1 _ _ => ?_
      simp
      refine sem_ok ?_
      have hw : wr .i64 ((i : Int) + 1) = ((i + 1 : Nat) : Int) := by rw [wr_of] <;> omega
      refine ⟨_, by omega, i + 1, s', rfl, by omega, by rw [hw], ?_⟩
      rw [List.take_succ_eq_append_getElem c, List.map_append, strE_append, hxi]; exact g1
    · have : i = q.l.length := by omega
      subst this
      rw [List.take_length] at gr
      refine sem_turn gr 5 (by simp) fun H1 s1 _ _ => ?_
      have hj := joinN_le (B := capN k) (l := q.l.map (toldN s)) (fun x hx => by
        obtain ⟨y, hy, rfl⟩ := List.mem_map.1 hx; exact told_len hs (h2 y hy))
      rw [List.length_map] at hj
      have hm := Nat.mul_le_mul_right (capN k + 1) hql
      have hcap := cap_5 k (by omega)
      refine sem_run 9000 _ ?_
      simp
      refine sem_exit (sem_run 9000 _ ?_)
      simp
      refine sem_fn (join_ext L.x207 (l := q.l.map (toldN s)) (sep := [44]) (by omega) (by simp; omega)) (by first | exact D.les_refl _ | simp [strsD]) (sem_run 9000 _ ?_)
      simp
      rw [sadd_of (by simp; omega)]
      simp
      rw [sadd_of (by simp; omega)]
      simp
      rcases h1 with ⟨k1, _⟩ | ⟨k1, ⟨c1, c2⟩, ⟨o1, o2⟩, nu, is, _, hl, nn⟩ | ⟨k1, ⟨c1, c2⟩, _⟩ | ⟨k1 | k1, _⟩ | ⟨k1, _⟩
      · simp [k1]
        refine sem_ret ?_
        simp [M215]
        rw [show toldN s q = [116, 114, 117, 101] by rw [toldN_eq]; simp [k1]]
        exact .le s1 (D.le_refl _) (by simp)
      · have hci : q.col.toNat < s.length := by omega
        have hnm : nameS s q.col = (s[q.col.toNat]).name := by unfold nameS; rw [List.getElem?_eq_getElem hci]
        have hnl := nameS_len hs (c := q.col)
        rw [hnm] at hnl
        have hvl := val_len nu is
        have hop : opsL[q.op.toNat]? = some (opN q.op) := by
          rcases (by omega : q.op = 1 ∨ q.op = 2 ∨ q.op = 3 ∨ q.op = 4 ∨ q.op = 5 ∨ q.op = 6) with h | h | h | h | h | h <;> rw [h] <;> rfl
        have hol := opN_len (o := q.op)
        have w64 : wr .i64 q.v.n = q.v.n := by unfold In64 at nn; rw [wr_of] <;> omega
        have o0 : (0 : Int) ≤ q.op := by omega
        simp [k1]
        refine sem_dfn (text_ops L) (by first | exact D.les_refl _ | simp) (sem_run 9000 _ ?_)
        simp
        refine sem_dfn (text_val L.val w64) (by first | exact D.les_refl _ | simp) (sem_run 9000 _ ?_)
        simp [c1, c2]
        rw [sadd_of (by simp; omega)]
        simp [o0, hop]
        rw [sadd_of (by simp; omega)]
        simp
        rw [sadd_of (by simp; omega)]
        simp
        rw [sadd_of (by simp; omega)]
        simp
        refine sem_ret ?_
        simp [M215]
        rw [show toldN s q = (s[q.col.toNat]).name ++ 32 :: (opN q.op ++ 32 :: valN q.v) by rw [toldN_eq]; simp [k1, hnm]]
        exact .le s1 (D.le_refl _) (by simp)
      · have hci : q.col.toNat < s.length := by omega
        have hnm : nameS s q.col = (s[q.col.toNat]).name := by unfold nameS; rw [List.getElem?_eq_getElem hci]
        have hnl := nameS_len hs (c := q.col)
        rw [hnm] at hnl
        simp [k1, c1, c2]
        rw [sadd_of (by simp; omega)]
        simp
        refine sem_ret ?_
        simp [M215]
        rw [show toldN s q = [110, 117, 108, 108, 32] ++ nameS s q.col by rw [toldN_eq]; simp [k1], hnm]
        exact .le s1 (D.le_refl _) (by simp)
      · simp [k1]
        rw [sadd_of (by simp; omega)]
        simp
        refine sem_ret ?_
        simp [M215]
        rw [show toldN s q = [97, 110, 100] ++ ([40] ++ joinN (q.l.map (toldN s)) [44] ++ [41]) by rw [toldN_eq]; simp [k1]]
        exact .le s1 (D.le_refl _) (by simp)
      · simp [k1]
        rw [sadd_of (by simp; omega)]
        simp
        refine sem_ret ?_
        simp [M215]
        rw [show toldN s q = [111, 114] ++ ([40] ++ joinN (q.l.map (toldN s)) [44] ++ [41]) by rw [toldN_eq]; simp [k1]]
        exact .le s1 (D.le_refl _) (by simp)
      · simp [k1]
        rw [sadd_of (by simp; omega)]
        simp
        refine sem_ret ?_
        simp [M215]
        rw [show toldN s q = [110, 111, 116] ++ ([40] ++ joinN (q.l.map (toldN s)) [44] ++ [41]) by rw [toldN_eq]; simp [k1]]
        exact .le s1 (D.le_refl _) (by simp)
theorem text_pred {g : SG} (L : HTold p ext F g) {s : Sch} (hs : Shorts s) {q : Pr} (hq : PrL s 5 q) (hc : cntP q ≤ 64) : FnD p ext (F 212) [schD s, .agg q.c] (.lit (.str (toldN s q))) := by
  refine fn_of L.h212 (M := M212) rfl ok212 rfl fun H => sem_run 9000 _ ?_
  simp
  refine sem_fn (pred_ok L.text hq hc) (by first | exact D.les_refl _ | simp [schD, D.les_refl]) (sem_run 9000 _ ?_)
  simp
  refine sem_fn (text_told L hs 5 q hq (by omega)) (by first | exact D.les_refl _ | simp [schD, D.les_refl]) (sem_run 9000 _ ?_)
  simp
  refine sem_ret ?_
  simp [M212]
  exact .le (by repeat (first | exact Sub.refl | apply Sub.new | refine Sub.put ?_ (by first | omega | (simp only [put_next, new_next]; omega)))) (D.le_refl _) (by simp)
structure HSamP (p : Prog) (ext : Ext) (F : Nat → Nat) : Prop where
  ref6 : HSame6 p ext F
  h229 : Has p ext F 229 M229
def SamI (H0 : HpD) (a b : Pr) (w : Nat) (fr : FrD) (H : HpD) : Prop :=
  ∃ i : Nat, w = a.l.length - i ∧ i ≤ a.l.length ∧ a.l.take i = b.l.take i ∧ fr = [(2, .rptr a.c 0), (3, .rptr b.c 0), (5, .lit (.int .i64 (i : Int)))] ∧ Sub H0 H
theorem ref6_samePred (L : HSamP p ext F) {s : Sch} : ∀ (k : Nat) (a b : Pr), PrL s k a → PrL s k b → ∃ r : Bool, (r = true ↔ a = b) ∧ FnD p ext (F 229) [.agg a.c, .agg b.c] (.lit (.bool r))
  | 0, _, _, h, _ => h.elim
  | k + 1, a, b, ⟨a1, a2⟩, ⟨b1, b2⟩ => by
    have hal := one_short a1
    have hbl := one_short b1
    have key : ∀ r : Bool, (r = true ↔ a = b) → FnD p ext (F 229) [.agg a.c, .agg b.c] (.lit (.bool r)) := fun r hr => by
      refine fn_of L.h229 (M := M229) rfl ok229 rfl fun H => sem_run 9000 _ ?_
      have hrt : a = b → r = true := hr.2
      have hrf : ¬ a = b → r = false := fun h => by cases r with
        | false => rfl
        | true => exact absurd (hr.1 rfl) h
      by_cases e1 : a.kind = b.kind
      · by_cases e2 : a.col = b.col
        · by_cases e3 : a.op = b.op
          · simp [e1, e2, e3]
            refine sem_fn (ref6_sameVal L.ref6) (by first | exact D.les_refl _ | simp) (sem_run 9000 _ ?_)
            simp
            by_cases e4 : a.v = b.v
            · by_cases e5 : a.l.length = b.l.length
              · simp [e4, e5]
                refine sem_loop (SamI H a b) ?_ (k := a.l.length) ⟨0, by simp, by simp, by simp, rfl, (by repeat (first | exact Sub.refl | apply Sub.new | refine Sub.put ?_ (by first | omega | (simp only [put_next, new_next]; omega))))⟩
                rintro w fr H' ⟨i, rfl, hi, ht, rfl, sb⟩
                by_cases c : i < a.l.length
                · have c' : i < b.l.length := by omega
                  obtain ⟨x, hx⟩ : ∃ x, x = a.l[i] := ⟨_, rfl⟩
                  obtain ⟨y, hy⟩ : ∃ y, y = b.l[i] := ⟨_, rfl⟩
                  obtain ⟨r2, hr2, f2⟩ := ref6_samePred L k x y (a2 x (by rw [hx]; simp)) (b2 y (by rw [hy]; simp))
                  refine sem_run 9000 _ ?_
                  simp
                  simp [c, c', ← hx, ← hy]
                  refine sem_dfn f2 (by first | exact D.les_refl _ | simp) (sem_run 9000 _ ?_)
                  cases r2 with
                  | true =>
                    have hxy := hr2.1 rfl
                    simp
                    refine sem_ok ?_
                    have hw : wr .i64 ((i : Int) + 1) = ((i + 1 : Nat) : Int) := by rw [wr_of] <;> omega
                    refine ⟨_, by omega, i + 1, rfl, by omega, ?_, by rw [hw], sb⟩
                    rw [List.take_succ_eq_append_getElem c, List.take_succ_eq_append_getElem c', ht, ← hx, ← hy, hxy]
                  | false =>
                    simp
                    refine sem_ret ?_
                    simp [M229]
                    refine sem_ret ?_
                    simp
                    rw [hrf fun h => by
                      have hxy : x = y := by subst h; rw [hx, hy]
                      have := hr2.2 hxy
                      cases this]
                    exact .le sb (D.le_refl _) (by simp)
                · have : i = a.l.length := by omega
                  subst this
                  rw [List.take_length, e5, List.take_length] at ht
                  refine sem_run 9000 _ ?_
                  simp
                  simp [e5]
                  refine sem_exit (sem_run 9000 _ ?_)
                  simp
                  refine sem_ret ?_
                  simp [M229]
                  rw [hrt (pr_ext e1 e2 e3 e4 ht)]
                  exact .le sb (D.le_refl _) (by simp)
              · have e5' : ¬ (a.l.length : Int) = b.l.length := by omega
                simp [e4, e5']
                refine sem_ret ?_
                simp [M229]
                rw [hrf fun h => e5 (by rw [h])]
                exact .le (by repeat (first | exact Sub.refl | apply Sub.new | refine Sub.put ?_ (by first | omega | (simp only [put_next, new_next]; omega)))) (D.le_refl _) (by simp)
            · simp [e4]
              refine sem_ret ?_
              simp [M229]
              rw [hrf fun h => e4 (by rw [h])]
              exact .le (by repeat (first | exact Sub.refl | apply Sub.new | refine Sub.put ?_ (by first | omega | (simp only [put_next, new_next]; omega)))) (D.le_refl _) (by simp)
          · simp [e1, e2, e3]
            refine sem_ret ?_
            simp [M229]
            rw [hrf fun h => e3 (by rw [h])]
            exact .le (by repeat (first | exact Sub.refl | apply Sub.new | refine Sub.put ?_ (by first | omega | (simp only [put_next, new_next]; omega)))) (D.le_refl _) (by simp)
        · simp [e1, e2]
          refine sem_ret ?_
          simp [M229]
          rw [hrf fun h => e2 (by rw [h])]
          exact .le (by repeat (first | exact Sub.refl | apply Sub.new | refine Sub.put ?_ (by first | omega | (simp only [put_next, new_next]; omega)))) (D.le_refl _) (by simp)
      · simp [e1]
        refine sem_ret ?_
        simp [M229]
        rw [hrf fun h => e1 (by rw [h])]
        exact .le (by repeat (first | exact Sub.refl | apply Sub.new | refine Sub.put ?_ (by first | omega | (simp only [put_next, new_next]; omega)))) (D.le_refl _) (by simp)
    by_cases h : a = b
    · exact ⟨true, by simp [h], key true (by simp [h])⟩
    · exact ⟨false, by simp [h], key false (by simp [h])⟩
end Go.Lib
end

section
namespace Go.Lib
open Go.Vm Go.Dv
set_option maxRecDepth 100000
abbrev K70 (F : Nat → Nat) : KC := .seq (.region [⟨(some 3),(.a (.box (.tmp 0))),none⟩,⟨(some 5),(.a (.box (.tmp 2))),none⟩,⟨(some 6),(.p (.mov (.val (.nilslice)))),none⟩,⟨(some 7),(.a (.new [.int .i64 (.ofNat 0),.int .i64 (.ofNat 0),.nilslice])),none⟩] [3,5] [1,5,7])
 (.seq (.region [mv 14 1,⟨(some 15),(.e (.call (F 72) [(.tmp 14)])),none⟩,mv 1 15] [] [1,5,7])
 (.seq (.region [⟨(some 16),(.p (.mkfunc (F 73) [] [(.tmp 5)])),none⟩,mv 8 16] [] [1,5,7,8])
 (.seq (.region [⟨(some 9),(.p (.mov (.val (.nilslice)))),none⟩] [] [1,5,7,8,9])
 (.seq (.seq (.region [mv 17 1,lb 18 17,mi 19 0] [] [1,5,7,8,9,17,18,19])
 (.block 0 (.loop (.seq (.region [bt 20 .lss 19 18] [] [1,5,7,8,9,17,18,19,20])
 (.seq (.cond (.tmp 20) (.skip)
 (.exit 0))
 (.seq (.block 1 (.seq (.region [ix 21 1 17 19,l1 22 21,mv 11 22] [] [1,5,7,8,9,11,17,18,19])
 (.seq (.region [mv 23 8,mv 24 11,⟨(some 25),(.e (.callv (.tmp 23) [(.tmp 24)])),none⟩] [] [1,5,7,8,9,11,17,18,19,25])
 (.cond (.tmp 25) (.region [mv 26 9,mv 27 11,⟨(some 28),(.a (.bslice [.nilslice] 1 1 [(0,1,(.tmp 27))])),none⟩,⟨(some 29),(.e (.append 1 24 (.tmp 26) (.tmp 28))),none⟩,mv 9 29] [28] [1,5,7,8,9,17,18,19])
 (.skip)))))
 (.region [bi 30 .add 19 1,mv 19 30] [] [1,5,7,8,9,17,18,19])))))))
 (.seq (.seq (.region [fa 31 0 5,l1 32 31] [] [1,5,7,8,9,32])
 (.block 2 (.seq (.region [bi 34 .eql 32 1,mv 33 34] [] [1,5,7,8,9,32,33])
 (.cond (.tmp 33) (.seq (.region [mv 35 1,fa 36 1 5,l1 37 36,⟨(some 38),(.e (.call (F 74) [(.tmp 35),(.tmp 37)])),none⟩,et 39 38 0,et 40 38 1,mv 6 39,⟨none,(.e (.store 3 (.tmp 7) (.tmp 40))),none⟩] [] [6,7])
 (.ret))
 (.seq (.region [bi 42 .eql 32 2,mv 41 42] [] [1,5,7,8,9,32,41])
 (.cond (.tmp 41) (.seq (.region [mv 43 1,ln 44 14 5,⟨(some 45),(.e (.call (F 75) [(.tmp 43),(.tmp 44)])),none⟩,et 46 45 0,et 47 45 1,mv 6 46,⟨none,(.e (.store 3 (.tmp 7) (.tmp 47))),none⟩] [] [6,7])
 (.ret))
 (.seq (.region [bi 49 .eql 32 3,mv 48 49] [] [1,5,7,8,9,32,48])
 (.cond (.tmp 48) (.seq (.region [mv 50 1,mv 51 8,⟨(some 52),(.e (.call (F 76) [(.tmp 50),(.tmp 51)])),none⟩,⟨(some 53),(.e (.call (F 39) [(.tmp 52)])),none⟩,mv 54 9,lb 55 54,⟨(some 56),(.p (.build [.int .i64 (.ofNat 0),.int .i64 (.ofNat 0),.nilslice] [(1,1,(.tmp 55))])),none⟩,mv 6 53,⟨none,(.e (.store 3 (.tmp 7) (.tmp 56))),none⟩] [] [6,7])
 (.ret))
 (.seq (.region [bi 58 .eql 32 4,mv 57 58] [] [1,5,7,9,32,57])
 (.cond (.tmp 57) (.seq (.region [mv 59 1,mv 60 9,fa 61 11 5,l1 62 61,⟨(some 63),(.e (.call (F 34) [(.tmp 60),(.tmp 62)])),none⟩,⟨(some 64),(.p (.build [.int .i64 (.ofNat 0),.int .i64 (.ofNat 0),.nilslice] [(2,1,(.tmp 63))])),none⟩,mv 6 59,⟨none,(.e (.store 3 (.tmp 7) (.tmp 64))),none⟩] [] [6,7])
 (.ret))
 (.seq (.region [bi 66 .eql 32 5,mv 65 66] [] [1,5,7,9,32,65])
 (.cond (.tmp 65) (.seq (.region [mv 68 9,fa 69 12 5,l1 70 69,fa 71 13 5,l1 72 71,⟨(some 73),(.e (.call (F 32) [(.tmp 68),(.tmp 70),(.tmp 72)])),none⟩,mv 67 73,et 74 67 0,et 75 67 1,mv 12 74,mv 13 75] [] [1,7,12,13])
 (.seq (.seq (.region [mv 76 13,⟨(some 77),(.p (.not (.tmp 76))),none⟩] [] [1,7,12,77])
 (.cond (.tmp 77) (.seq (.region [mv 78 1,⟨(some 79),(.p (.build [.int .i64 (.ofNat 0),.int .i64 (.ofNat 0),.nilslice] [(0,1,(.val (.int .i64 (.ofNat 2))))])),none⟩,mv 6 78,⟨none,(.e (.store 3 (.tmp 7) (.tmp 79))),none⟩] [] [6,7])
 (.ret))
 (.skip)))
 (.seq (.region [mv 80 1,mv 81 12,⟨(some 82),(.p (.build [.int .i64 (.ofNat 0),.int .i64 (.ofNat 0),.nilslice] [(2,1,(.tmp 81))])),none⟩,mv 6 80,⟨none,(.e (.store 3 (.tmp 7) (.tmp 82))),none⟩] [] [6,7])
 (.ret))))
 (.seq (.region [bi 84 .eql 32 6,mv 83 84] [] [1,7,83])
 (.cond (.tmp 83) (.seq (.region [mv 85 1,⟨(some 86),(.p (.build [.int .i64 (.ofNat 0),.int .i64 (.ofNat 0),.nilslice] [(0,1,(.val (.int .i64 (.ofNat 3))))])),none⟩,mv 6 85,⟨none,(.e (.store 3 (.tmp 7) (.tmp 86))),none⟩] [] [6,7])
 (.ret))
 (.skip)))))))))))))))
 (.seq (.region [mv 87 1,⟨(some 88),(.p (.build [.int .i64 (.ofNat 0),.int .i64 (.ofNat 0),.nilslice] [])),none⟩,mv 6 87,⟨none,(.e (.store 3 (.tmp 7) (.tmp 88))),none⟩] [] [6,7])
 (.ret)))))))
def M70 (F : Nat → Nat) : Fun := ⟨89,3,(K70 F).erase,[.tmp 6,.celln 3 7]⟩
abbrev K71 (F : Nat → Nat) : KC := .seq (.region [⟨(some 3),(.a (.box (.tmp 0))),none⟩,⟨(some 6),(.p (.mov (.val (.nilslice)))),none⟩,⟨(some 7),(.p (.mov (.val (.nilslice)))),none⟩] [3] [1,2,3])
 (.seq (.region [mv 14 1,⟨(some 15),(.e (.call (F 72) [(.tmp 14)])),none⟩,mv 1 15] [] [1,2,3])
 (.seq (.region [mv 16 1,mv 8 16] [] [1,2,3,8])
 (.seq (.region [⟨(some 9),(.p (.mov (.val (.nilslice)))),none⟩] [] [1,2,3,8,9])
 (.seq (.seq (.region [mv 17 2,lb 18 17,mi 19 0] [] [1,3,8,9,17,18,19])
 (.block 0 (.loop (.seq (.region [bt 20 .lss 19 18] [] [1,3,8,9,17,18,19,20])
 (.seq (.cond (.tmp 20) (.skip)
 (.exit 0))
 (.seq (.block 1 (.seq (.region [ix 21 14 17 19,ln 22 14 21,⟨(some 11),(.a (.new [.int .i64 (.ofNat 0),.nilslice,.int .i64 (.ofNat 0),.int .i64 (.ofNat 0),.int .i64 (.ofNat 0),.bool false,.int .i64 (.ofNat 0),.int .i64 (.ofNat 0),.nilslice,.nilslice,.nilslice,.nilslice,.int .i64 (.ofNat 0),.nilslice])),none⟩,⟨none,(.e (.store 14 (.tmp 11) (.tmp 22))),none⟩] [] [1,3,8,9,11,17,18,19])
 (.seq (.region [ln 24 1 3,mv 25 8,ln 26 14 11,⟨(some 27),(.e (.call (F 70) [(.tmp 24),(.tmp 25),(.tmp 26)])),none⟩,mv 23 27,et 28 23 0,et 29 23 1,⟨(some 13),(.a (.new [.int .i64 (.ofNat 0),.int .i64 (.ofNat 0),.nilslice])),none⟩,mv 12 28,⟨none,(.e (.store 3 (.tmp 13) (.tmp 29))),none⟩] [] [1,3,9,12,13,17,18,19])
 (.seq (.region [mv 30 9,ln 31 3 13,⟨(some 32),(.a (.bslice [.int .i64 (.ofNat 0),.int .i64 (.ofNat 0),.nilslice] 3 1 [(0,3,(.tmp 31))])),none⟩,⟨(some 33),(.e (.append 3 40 (.tmp 30) (.tmp 32))),none⟩,mv 9 33] [32] [1,3,9,12,13,17,18,19])
 (.seq (.seq (.region [fa 34 0 13,l1 35 34,bi 36 .neq 35 0] [] [1,3,9,12,17,18,19,36])
 (.cond (.tmp 36) (.seq (.region [mv 37 1,mv 38 9,⟨(some 39),(.e (.call (F 77) [(.tmp 38)])),none⟩,mv 6 37,mv 7 39] [] [6,7])
 (.ret))
 (.skip)))
 (.region [mv 40 12,mv 8 40] [] [1,3,8,9,17,18,19]))))))
 (.region [bi 41 .add 19 1,mv 19 41] [] [1,3,8,9,17,18,19])))))))
 (.seq (.region [mv 42 8,mv 43 9,⟨(some 44),(.e (.call (F 77) [(.tmp 43)])),none⟩,mv 6 42,mv 7 44] [] [6,7])
 (.ret))))))
def M71 (F : Nat → Nat) : Fun := ⟨45,3,(K71 F).erase,[.tmp 6,.tmp 7]⟩
abbrev K72 (F : Nat → Nat) : KC := .seq (.region [⟨(some 2),(.p (.mov (.val (.nilslice)))),none⟩] [] [0])
 (.seq (.region [⟨(some 3),(.p (.mov (.val (.nilslice)))),none⟩] [] [0,3])
 (.seq (.seq (.region [mv 6 0,lb 7 6,mi 8 0] [] [3,6,7,8])
 (.block 0 (.loop (.seq (.region [bt 9 .lss 8 7] [] [3,6,7,8,9])
 (.seq (.cond (.tmp 9) (.skip)
 (.exit 0))
 (.seq (.block 1 (.seq (.region [ix 10 1 6 8,l1 11 10,mv 5 11] [] [3,5,6,7,8])
 (.region [mv 12 3,mv 13 5,⟨(some 14),(.e (.call (F 4) [(.tmp 13)])),none⟩,⟨(some 15),(.a (.bslice [.nilslice] 1 1 [(0,1,(.tmp 14))])),none⟩,⟨(some 16),(.e (.append 1 24 (.tmp 12) (.tmp 15))),none⟩,mv 3 16] [15] [3,6,7,8])))
 (.region [bi 17 .add 8 1,mv 8 17] [] [3,6,7,8])))))))
 (.seq (.region [mv 18 3,⟨(some 19),(.e (.call (F 39) [(.tmp 18)])),none⟩,mv 2 19] [] [2])
 (.ret))))
def M72 (F : Nat → Nat) : Fun := ⟨20,1,(K72 F).erase,[.tmp 2]⟩
abbrev K73 (F : Nat → Nat) : KC := .seq (.region [⟨(some 3),(.p (.mov (.val (.bool false)))),none⟩] [] [0,1])
 (.seq (.region [fa 4 2 1,ln 5 8 4,mv 6 0,⟨(some 7),(.e (.call (F 65) [(.tmp 5),(.tmp 6)])),none⟩,bi 8 .eql 7 1,mv 3 8] [] [3])
 (.ret))
def M73 (F : Nat → Nat) : Fun := ⟨9,2,(K73 F).erase,[.tmp 3]⟩
abbrev K74 (F : Nat → Nat) : KC := .seq (.region [⟨(some 4),(.p (.mov (.val (.nilslice)))),none⟩,⟨(some 5),(.a (.new [.int .i64 (.ofNat 0),.int .i64 (.ofNat 0),.nilslice])),none⟩] [] [0,1,5])
 (.seq (.region [mv 9 0,mv 10 1,⟨(some 11),(.e (.call (F 78) [(.tmp 10)])),none⟩,⟨(some 12),(.e (.call (F 79) [(.tmp 9),(.tmp 11),(.val (.func (F 80) [] []))])),none⟩,mv 8 12,et 13 8 0,et 14 8 1,mv 6 13,mv 7 14] [] [0,1,5,6,7])
 (.seq (.seq (.region [mv 15 7] [] [0,1,5,6,15])
 (.cond (.tmp 15) (.seq (.region [mv 16 0,⟨(some 17),(.p (.build [.int .i64 (.ofNat 0),.int .i64 (.ofNat 0),.nilslice] [(0,1,(.val (.int .i64 (.ofNat 1))))])),none⟩,mv 4 16,⟨none,(.e (.store 3 (.tmp 5) (.tmp 17))),none⟩] [] [4,5])
 (.ret))
 (.skip)))
 (.seq (.region [mv 18 0,mv 19 6,mv 20 1,⟨(some 21),(.e (.call (F 4) [(.tmp 20)])),none⟩,⟨(some 22),(.a (.bslice [.nilslice] 1 1 [(0,1,(.tmp 21))])),none⟩,⟨(some 23),(.e (.call (F 81) [(.tmp 18),(.tmp 19),(.tmp 22)])),none⟩,⟨(some 24),(.p (.build [.int .i64 (.ofNat 0),.int .i64 (.ofNat 0),.nilslice] [(1,1,(.val (.int .i64 (.ofNat 1))))])),none⟩,mv 4 23,⟨none,(.e (.store 3 (.tmp 5) (.tmp 24))),none⟩] [22] [4,5])
 (.ret))))
def M74 (F : Nat → Nat) : Fun := ⟨25,2,(K74 F).erase,[.tmp 4,.celln 3 5]⟩
abbrev K75 (F : Nat → Nat) : KC := .seq (.region [⟨(some 3),(.a (.box (.tmp 1))),none⟩,⟨(some 4),(.p (.mov (.val (.nilslice)))),none⟩,⟨(some 5),(.a (.new [.int .i64 (.ofNat 0),.int .i64 (.ofNat 0),.nilslice])),none⟩] [3] [0,3,5])
 (.seq (.region [mv 12 0,⟨(some 13),(.e (.call (F 72) [(.tmp 12)])),none⟩,mv 6 13] [] [0,3,5,6])
 (.seq (.region [mi 7 0] [] [0,3,5,6,7])
 (.seq (.seq (.region [mv 14 0,lb 15 14,mi 16 0] [] [0,3,5,6,7,14,15,16])
 (.block 0 (.loop (.seq (.region [bt 17 .lss 16 15] [] [0,3,5,6,7,14,15,16,17])
 (.seq (.cond (.tmp 17) (.skip)
 (.exit 0))
 (.seq (.block 1 (.seq (.region [mv 18 16,ix 19 1 14 16,l1 20 19,mv 8 18,mv 9 20] [] [0,3,5,6,7,8,9,14,15,16])
 (.seq (.seq (.region [fa 21 2 3,ln 22 8 21,mv 23 9,⟨(some 24),(.e (.call (F 65) [(.tmp 22),(.tmp 23)])),none⟩,bi 25 .neq 24 1] [] [0,3,5,6,7,8,9,14,15,16,25])
 (.cond (.tmp 25) (.exit 1)
 (.skip)))
 (.seq (.region [mv 27 9,fa 28 10 3,l1 29 28,⟨(some 30),(.e (.call (F 35) [(.tmp 27),(.tmp 29)])),none⟩,mv 26 30,et 31 26 0,et 32 26 1,mv 10 31,mv 11 32] [] [0,3,5,6,7,8,10,11,14,15,16])
 (.seq (.seq (.region [mv 33 11,⟨(some 34),(.p (.not (.tmp 33))),none⟩] [] [0,3,5,6,7,8,10,14,15,16,34])
 (.cond (.tmp 34) (.seq (.region [mv 35 0,⟨(some 36),(.p (.build [.int .i64 (.ofNat 0),.int .i64 (.ofNat 0),.nilslice] [(0,1,(.val (.int .i64 (.ofNat 2))))])),none⟩,mv 4 35,⟨none,(.e (.store 3 (.tmp 5) (.tmp 36))),none⟩] [] [4,5])
 (.ret))
 (.skip)))
 (.seq (.region [mv 37 6,mv 38 8,mv 39 10,ix 40 1 37 38,⟨none,(.e (.store 1 (.tmp 40) (.tmp 39))),none⟩] [] [0,3,5,6,7,14,15,16])
 (.region [mv 41 7,bi 42 .add 41 1,mv 7 42] [] [0,3,5,6,7,14,15,16])))))))
 (.region [bi 43 .add 16 1,mv 16 43] [] [0,3,5,6,7,14,15,16])))))))
 (.seq (.region [mv 44 6,mv 45 7,⟨(some 46),(.p (.build [.int .i64 (.ofNat 0),.int .i64 (.ofNat 0),.nilslice] [(1,1,(.tmp 45))])),none⟩,mv 4 44,⟨none,(.e (.store 3 (.tmp 5) (.tmp 46))),none⟩] [] [4,5])
 (.ret)))))
def M75 (F : Nat → Nat) : Fun := ⟨47,2,(K75 F).erase,[.tmp 4,.celln 3 5]⟩
abbrev K76 (F : Nat → Nat) : KC := .seq (.region [⟨(some 4),(.p (.mov (.val (.nilslice)))),none⟩] [] [0,1])
 (.seq (.region [mv 8 0,mv 9 1,⟨(some 10),(.e (.call (F 82) [(.tmp 8),(.tmp 9)])),none⟩,mv 5 10] [] [0,1,5])
 (.seq (.seq (.region [mv 11 5,⟨(some 12),(.p (.bin .eql (.tmp 11) (.val (.int .i64 (.negSucc 0))))),none⟩] [] [0,1,5,12])
 (.cond (.tmp 12) (.seq (.region [mv 13 0,mv 4 13] [] [4])
 (.ret))
 (.skip)))
 (.seq (.seq (.region [mv 14 5,bi 15 .add 14 1,mv 6 15] [] [0,1,5,6])
 (.block 0 (.loop (.seq (.seq (.region [mv 16 6,mv 17 0,lb 18 17,bt 19 .lss 16 18] [] [0,1,5,6,19])
 (.cond (.tmp 19) (.skip)
 (.exit 0)))
 (.seq (.block 1 (.seq (.region [mv 22 0,mv 23 6,ix 24 1 22 23,l1 25 24,mv 7 25] [] [0,1,5,6,7])
 (.seq (.region [mv 26 1,mv 27 7,⟨(some 28),(.e (.callv (.tmp 26) [(.tmp 27)])),none⟩,⟨(some 29),(.p (.not (.tmp 28))),none⟩] [] [0,1,5,6,7,29])
 (.cond (.tmp 29) (.seq (.region [mv 30 0,mv 31 5,mv 32 7,ix 33 1 30 31,⟨none,(.e (.store 1 (.tmp 33) (.tmp 32))),none⟩] [] [0,1,5,6])
 (.region [mv 34 5,bi 35 .add 34 1,mv 5 35] [] [0,1,5,6]))
 (.skip)))))
 (.region [mv 20 6,bi 21 .add 20 1,mv 6 21] [] [0,1,5,6]))))))
 (.seq (.region [mv 36 0,mv 37 5,⟨(some 38),(.p (.slc 1 (.tmp 36) (some (.tmp 37)) none none)),none⟩,⟨none,(.e (.clear [.nilslice] (.tmp 38))),none⟩] [] [0,5])
 (.seq (.region [mv 39 0,mv 40 5,⟨(some 41),(.p (.slc 1 (.tmp 39) none (some (.tmp 40)) none)),none⟩,mv 4 41] [] [4])
 (.ret))))))
def M76 (F : Nat → Nat) : Fun := ⟨42,2,(K76 F).erase,[.tmp 4]⟩
abbrev K77 (_F : Nat → Nat) : KC := .seq (.region [⟨(some 2),(.p (.mov (.val (.nilslice)))),none⟩] [] [0])
 (.seq (.region [mv 3 0,mv 4 0,lb 5 4,mv 6 0,lb 7 6,⟨(some 8),(.p (.slc 3 (.tmp 3) none (some (.tmp 5)) (some (.tmp 7)))),none⟩,mv 2 8] [] [2])
 (.ret))
def M77 (F : Nat → Nat) : Fun := ⟨9,1,(K77 F).erase,[.tmp 2]⟩
abbrev K78 (F : Nat → Nat) : KC := .seq (.region [mi 2 0] [] [0])
 (.seq (.region [mv 3 0,⟨(some 4),(.e (.call (F 3) [(.tmp 3),(.val (.int .i64 (.ofNat 0)))])),none⟩,⟨(some 5),(.p (.field1 2 (.tmp 4))),none⟩,mv 2 5] [] [2])
 (.ret))
def M78 (F : Nat → Nat) : Fun := ⟨6,1,(K78 F).erase,[.tmp 2]⟩
abbrev K79 (_F : Nat → Nat) : KC := .seq (.region [mi 6 0,⟨(some 7),(.p (.mov (.val (.bool false)))),none⟩] [] [0,1,2])
 (.seq (.region [mv 12 0,lb 13 12,mv 8 13] [] [0,1,2,8])
 (.seq (.region [mv 14 8,mi 9 0,mv 10 14] [] [0,1,2,8,9,10])
 (.seq (.block 0 (.loop (.seq (.seq (.region [mv 15 9,mv 16 10,bt 17 .lss 15 16] [] [0,1,2,8,9,10,17])
 (.cond (.tmp 17) (.skip)
 (.exit 0)))
 (.block 1 (.seq (.region [mv 18 9,mv 19 10,bt 20 .add 18 19,⟨(some 21),(.p (.conv (.int .u64) (.tmp 20))),none⟩,⟨(some 22),(.p (.bin .shr (.tmp 21) (.val (.int .u64 (.ofNat 1))))),none⟩,⟨(some 23),(.p (.conv (.int .i64) (.tmp 22))),none⟩,mv 11 23] [] [0,1,2,8,9,10,11])
 (.seq (.region [mv 24 2,mv 25 0,mv 26 11,ix 27 1 25 26,l1 28 27,mv 29 1,⟨(some 30),(.e (.callv (.tmp 24) [(.tmp 28),(.tmp 29)])),none⟩,bi 31 .lss 30 0] [] [0,1,2,8,9,10,11,31])
 (.cond (.tmp 31) (.region [mv 32 11,bi 33 .add 32 1,mv 9 33] [] [0,1,2,8,9,10])
 (.region [mv 34 11,mv 10 34] [] [0,1,2,8,9,10]))))))))
 (.seq (.region [mv 35 9,mv 36 9,mv 37 8,bt 38 .lss 36 37,mv 39 38,⟨(some 40),(.p (.mov (.tmp 2))),(some (39,true))⟩,⟨(some 41),(.p (.mov (.tmp 0))),(some (39,true))⟩,⟨(some 42),(.p (.mov (.tmp 9))),(some (39,true))⟩,⟨(some 43),(.p (.iaddr 1 (.tmp 41) (.tmp 42))),(some (39,true))⟩,⟨(some 44),(.load1 (.tmp 43)),(some (39,true))⟩,⟨(some 45),(.p (.mov (.tmp 1))),(some (39,true))⟩,⟨(some 46),(.e (.callv (.tmp 40) [(.tmp 44),(.tmp 45)])),(some (39,true))⟩,⟨(some 47),(.p (.bin .eql (.tmp 46) (.val (.int .i64 (.ofNat 0))))),(some (39,true))⟩,⟨(some 48),(.p (.pick (.tmp 39) (.tmp 47) (.val (.bool false)))),none⟩,mv 6 35,mv 7 48] [] [6,7])
 (.ret)))))
def M79 (F : Nat → Nat) : Fun := ⟨49,3,(K79 F).erase,[.tmp 6,.tmp 7]⟩
abbrev K80 (F : Nat → Nat) : KC := .seq (.region [mi 4 0] [] [0,1])
 (.seq (.region [mv 5 0,⟨(some 6),(.e (.call (F 78) [(.tmp 5)])),none⟩,mv 7 1,⟨(some 8),(.e (.call (F 10) [(.tmp 6),(.tmp 7)])),none⟩,mv 4 8] [] [4])
 (.ret))
def M80 (F : Nat → Nat) : Fun := ⟨9,2,(K80 F).erase,[.tmp 4]⟩
abbrev K81 (F : Nat → Nat) : KC := .seq (.region [⟨(some 6),(.p (.mov (.val (.nilslice)))),none⟩] [] [0,1,2])
 (.seq (.region [mv 10 0,mv 11 1,⟨(some 12),(.p (.slc 1 (.tmp 10) (some (.tmp 11)) none none)),none⟩] [] [0,1,2])
 (.seq (.region [mv 13 2,lb 14 13,mv 7 14] [] [0,1,2,7])
 (.seq (.seq (.region [mv 15 7,bi 16 .eql 15 0] [] [0,1,2,7,16])
 (.cond (.tmp 16) (.seq (.region [mv 17 0,mv 6 17] [] [6])
 (.ret))
 (.skip)))
 (.seq (.region [mv 18 0,lb 19 18,mv 8 19] [] [0,1,2,7,8])
 (.seq (.seq (.region [mv 20 1,mv 21 8,bt 22 .eql 20 21] [] [0,1,2,7,8,22])
 (.cond (.tmp 22) (.seq (.region [mv 23 0,mv 24 2,⟨(some 25),(.e (.append 1 24 (.tmp 23) (.tmp 24))),none⟩,mv 6 25] [] [6])
 (.ret))
 (.skip)))
 (.seq (.seq (.region [mv 26 8,mv 27 7,bt 28 .add 26 27,mv 29 0,⟨(some 30),(.p (.caps (.tmp 29))),none⟩,bt 31 .gtr 28 30] [] [0,1,2,7,8,31])
 (.cond (.tmp 31) (.seq (.region [mv 32 0,mv 33 1,⟨(some 34),(.p (.slc 1 (.tmp 32) none (some (.tmp 33)) none)),none⟩,mv 35 8,mv 36 7,bt 37 .add 35 36,mv 38 1,bt 39 .sub 37 38,⟨(some 40),(.e (.appendz [.nilslice] 1 24 (.tmp 34) (.tmp 39))),none⟩,mv 9 40] [] [0,1,2,7,9])
 (.seq (.region [mv 41 9,mv 42 1,⟨(some 43),(.p (.slc 1 (.tmp 41) (some (.tmp 42)) none none)),none⟩,mv 44 2,⟨(some 45),(.e (.copy 1 (.tmp 43) (.tmp 44))),none⟩] [] [0,1,7,9])
 (.seq (.dregion [⟨mv 46 9,0,8⟩,⟨mv 47 1,0,8⟩,⟨mv 48 7,0,8⟩,⟨bt 49 .add 47 48,0,8⟩,⟨⟨(some 50),(.p (.slc 1 (.tmp 46) (some (.tmp 49)) none none)),none⟩,0,8⟩,⟨mv 51 0,0,8⟩,⟨mv 52 1,0,8⟩,⟨⟨(some 53),(.p (.slc 1 (.tmp 51) (some (.tmp 52)) none none)),none⟩,0,8⟩,⟨⟨(some 54),(.e (.copy 1 (.tmp 50) (.tmp 53))),none⟩,0,9⟩] [9])
 (.seq (.region [mv 55 9,mv 6 55] [] [6])
 (.ret)))))
 (.skip)))
 (.seq (.region [mv 56 0,mv 57 8,mv 58 7,bt 59 .add 57 58,⟨(some 60),(.p (.slc 1 (.tmp 56) none (some (.tmp 59)) none)),none⟩,mv 0 60] [] [0,1,2,7,8])
 (.seq (.seq (.region [mv 61 2,mv 62 0,mv 63 1,mv 64 7,bt 65 .add 63 64,⟨(some 66),(.p (.slc 1 (.tmp 62) (some (.tmp 65)) none none)),none⟩,⟨(some 67),(.e (.extern (F 83) [(.tmp 61),(.tmp 66)])),none⟩,⟨(some 68),(.p (.not (.tmp 67))),none⟩] [] [0,1,2,7,8,68])
 (.cond (.tmp 68) (.seq (.dregion [⟨mv 69 0,0,8⟩,⟨mv 70 1,0,8⟩,⟨mv 71 7,0,8⟩,⟨bt 72 .add 70 71,0,8⟩,⟨⟨(some 73),(.p (.slc 1 (.tmp 69) (some (.tmp 72)) none none)),none⟩,0,8⟩,⟨mv 74 0,0,8⟩,⟨mv 75 1,0,8⟩,⟨⟨(some 76),(.p (.slc 1 (.tmp 74) (some (.tmp 75)) none none)),none⟩,0,8⟩,⟨⟨(some 77),(.e (.copy 1 (.tmp 73) (.tmp 76))),none⟩,0,9⟩] [0,1,2])
 (.seq (.region [mv 78 0,mv 79 1,⟨(some 80),(.p (.slc 1 (.tmp 78) (some (.tmp 79)) none none)),none⟩,mv 81 2,⟨(some 82),(.e (.copy 1 (.tmp 80) (.tmp 81))),none⟩] [] [0])
 (.seq (.region [mv 83 0,mv 6 83] [] [6])
 (.ret))))
 (.skip)))
 (.seq (.region [mv 84 0,mv 85 8,⟨(some 86),(.p (.slc 1 (.tmp 84) (some (.tmp 85)) none none)),none⟩,mv 87 2,⟨(some 88),(.e (.copy 1 (.tmp 86) (.tmp 87))),none⟩] [] [0,1,7])
 (.seq (.region [mv 89 0,mv 90 1,⟨(some 91),(.p (.slc 1 (.tmp 89) (some (.tmp 90)) none none)),none⟩,mv 92 7,⟨(some 93),(.e (.call (F 84) [(.tmp 91),(.tmp 92)])),none⟩] [] [0])
 (.seq (.region [mv 94 0,mv 6 94] [] [6])
 (.ret))))))))))))
def M81 (F : Nat → Nat) : Fun := ⟨95,3,(K81 F).erase,[.tmp 6]⟩
abbrev K82 (_F : Nat → Nat) : KC := .seq (.region [mi 4 0] [] [0,1])
 (.seq (.seq (.region [mv 6 0,lb 7 6,mi 8 0] [] [0,1,7,8])
 (.block 0 (.loop (.seq (.region [bt 9 .lss 8 7] [] [0,1,7,8,9])
 (.seq (.cond (.tmp 9) (.skip)
 (.exit 0))
 (.seq (.block 1 (.seq (.region [mv 10 8,mv 5 10] [] [0,1,5,7,8])
 (.seq (.region [mv 11 1,mv 12 0,mv 13 5,ix 14 1 12 13,l1 15 14,⟨(some 16),(.e (.callv (.tmp 11) [(.tmp 15)])),none⟩] [] [0,1,5,7,8,16])
 (.cond (.tmp 16) (.seq (.region [mv 17 5,mv 4 17] [] [4])
 (.ret))
 (.skip)))))
 (.region [bi 18 .add 8 1,mv 8 18] [] [0,1,7,8])))))))
 (.seq (.region [⟨(some 4),(.p (.mov (.val (.int .i64 (.negSucc 0))))),none⟩] [] [4])
 (.ret)))
def M82 (F : Nat → Nat) : Fun := ⟨19,2,(K82 F).erase,[.tmp 4]⟩
end Go.Lib
end

section
set_option maxRecDepth 10000
namespace Go.Lib
open Go.Vm Go.Dv Go.Srt
variable {p : Prog} {ext : Ext} {F : Nat → Nat}
structure HModl (p : Prog) (ext : Ext) (F : Nat → Nat) : Prop where
  aggr : HAggr p ext F
  pred : HPred p ext F
  x45 : ∀ args h, ext (F 45) args h = extV .add64 args h
  h70 : Has p ext F 70 M70
  h71 : Has p ext F 71 M71
  h72 : Has p ext F 72 M72
  h73 : Has p ext F 73 M73
  h74 : Has p ext F 74 M74
  h75 : Has p ext F 75 M75
  h76 : Has p ext F 76 M76
  h77 : Has p ext F 77 M77
  h78 : Has p ext F 78 M78
  h79 : Has p ext F 79 M79
  h80 : Has p ext F 80 M80
  h81 : Has p ext F 81 M81
  h82 : Has p ext F 82 M82
structure GrT (H0 H : HpD) (s : D) (R : List Row) : Prop where
  x : GrX H0 H 1 s (rowsE R)
  tight : ∀ b o z n c, ¬ s = .slice b o z n c false
theorem GrT.at_ {H0 H : HpD} {s : D} {R : List Row} (g : GrT H0 H s R) : (s = .lit .nilslice ∧ R = []) ∨ ∃ b, s = .slice b 0 1 R.length R.length true ∧ H0.next ≤ b ∧ b < H.next ∧ H.blk b = .cells (rowsE R).flatten false := by
  rcases g.x.at_ with ⟨h, h'⟩ | ⟨b, ex, rfl, h1, h2, h3⟩
  · exact .inl ⟨h, by simpa [rowsE] using h'⟩
  · have : ex = true := by
      cases ex with
      | true => rfl
      | false => exact absurd rfl (g.tight _ _ _ _ _)
    subst this
    exact .inr ⟨b, by simp, h1, h2, h3⟩
theorem GrT.keep {H0 H H1 : HpD} {s : D} {R : List Row} (g : GrT H0 H s R) (hs : Sub H H1) (hk : ∀ x, s.hasB x → H1.blk x = H.blk x) : GrT H0 H1 s R := ⟨g.x.keep hs hk, g.tight⟩
theorem GrT.far {H0 H H1 : HpD} {s : D} {R : List Row} (g : GrT H0 H s R) (hs : Sub H H1) : GrT H0 H1 s R := g.keep hs fun x hx => hs.blk x (g.x.gr.far hx).2
def keyF (r : Row) : Int := (atV r 0).n
def KeyRise (R : List Row) : Prop := R.Pairwise fun a b => keyF a < keyF b
def KeyAt (R : List Row) (k : Int) (i : Nat) : Prop := i ≤ R.length ∧ (∀ q r, q < i → R[q]? = some r → keyF r < k) ∧ ∀ q r, i ≤ q → R[q]? = some r → k ≤ keyF r
def hasK (R : List Row) (k : Int) (i : Nat) : Bool := match R[i]? with
  | some r => decide (keyF r = k)
  | none => false
def putAt (R : List Row) (i : Nat) (r : Row) : List Row := R.take i ++ r :: R.drop i
structure Rs where
  err : Int
  n : Int
  rows : List Row
def Rs.c (x : Rs) : List D := [.lit (.int .i64 x.err), .lit (.int .i64 x.n), rowsD x.rows]
theorem rs_unders {n : Nat} {x : Rs} : D.unders n x.c := by simp [Rs.c, rows_under]
attribute [simp] rs_unders
structure Op where
  kind : Int
  row : Row
  pred : Pr
  sets : List Sx
  cols : List Int
  group : Int
  aggs : List Ag
def Op.c (o : Op) : List D := [.lit (.int .i64 o.kind), rowD o.row] ++ o.pred.c ++ [sxsD o.sets, intsD .p o.cols, .lit (.int .i64 o.group), agsD o.aggs]
theorem op_c {o : Op} : o.c = [.lit (.int .i64 o.kind), rowD o.row, .lit (.int .i64 o.pred.kind), .lit (.int .i64 o.pred.col), .lit (.int .i64 o.pred.op), .lit (.bool o.pred.v.null), .lit (.int .i64 o.pred.v.kind), .lit (.int .i64 o.pred.v.n), byD o.pred.v.bytes, prsD o.pred.l, sxsD o.sets, intsD .p o.cols, .lit (.int .i64 o.group), agsD o.aggs] := by
  rw [Op.c, pr_c]; rfl
theorem op_0 {o : Op} : o.c[0]? = some (.lit (.int .i64 o.kind)) := by rw [op_c]; rfl
theorem op_1 {o : Op} : o.c[1]? = some (rowD o.row) := by rw [op_c]; rfl
theorem op_10 {o : Op} : o.c[10]? = some (sxsD o.sets) := by rw [op_c]; rfl
theorem op_11 {o : Op} : o.c[11]? = some (intsD .p o.cols) := by rw [op_c]; rfl
theorem op_12 {o : Op} : o.c[12]? = some (.lit (.int .i64 o.group)) := by rw [op_c]; rfl
theorem op_13 {o : Op} : o.c[13]? = some (agsD o.aggs) := by rw [op_c]; rfl
theorem op_len {o : Op} : o.c.length = 14 := by rw [op_c]; rfl
theorem op_pred {o : Op} : (o.c.drop 2).take 8 = o.pred.c := by rw [op_c, pr_c]; rfl
theorem op_g {q : Op} {i : Nat} {d : D} (h : q.c[i]? = some d) (hi : i < q.c.length) : q.c[i] = d := (List.getElem?_eq_some_iff.1 h).2
theorem op_g0 {q : Op} (h : 0 < q.c.length) : q.c[0] = .lit (.int .i64 q.kind) := op_g op_0 h
theorem op_g1 {q : Op} (h : 1 < q.c.length) : q.c[1] = rowD q.row := op_g op_1 h
theorem op_g10 {q : Op} (h : 10 < q.c.length) : q.c[10] = sxsD q.sets := op_g op_10 h
theorem op_g11 {q : Op} (h : 11 < q.c.length) : q.c[11] = intsD .p q.cols := op_g op_11 h
theorem op_g12 {q : Op} (h : 12 < q.c.length) : q.c[12] = .lit (.int .i64 q.group) := op_g op_12 h
theorem op_g13 {q : Op} (h : 13 < q.c.length) : q.c[13] = agsD q.aggs := op_g op_13 h
theorem op_take {q : Op} : q.c.take 14 = q.c := List.take_of_length_le (by rw [op_len]; exact Nat.le_refl _)
theorem op_drop {q : Op} : q.c.drop 14 = [] := List.drop_eq_nil_of_le (by rw [op_len]; exact Nat.le_refl _)
theorem op_flats {q : Op} : flatsD q.c = true := by rw [op_c]; rfl
attribute [simp] op_0 op_1 op_10 op_11 op_12 op_13 op_len op_pred op_g0 op_g1 op_g10 op_g11 op_g12 op_g13 op_take op_drop op_flats
end Go.Lib
end

section
set_option maxRecDepth 10000
namespace Go.Lib
open Go.Vm Go.Dv Go.Srt
variable {p : Prog} {ext : Ext} {F : Nat → Nat}
structure OpS (n : Nat) (o : Op) : Prop where
  pred : PrS n o.pred
  sets : o.sets.length < 1000
  vals : ∀ x, x ∈ o.sets → In64 x.v.n
structure RowsS (R : List Row) : Prop where
  len : R.length < 1000000
  rows : ∀ r, r ∈ R → r.length < 1000
  vals : ∀ r, r ∈ R → ∀ v, v ∈ r → In64 v.n
end Go.Lib
end

section
set_option maxRecDepth 10000
namespace Go.Lib
open Go.Vm Go.Dv Go.Srt
variable {p : Prog} {ext : Ext} {F : Nat → Nat}
def insK (R : List Row) (r : Row) : List Row := R.takeWhile (fun x => decide (keyF x < keyF r)) ++ r :: R.dropWhile (fun x => decide (keyF x < keyF r))
def hasR (R : List Row) (k : Int) : Bool := R.any fun x => decide (keyF x = k)
theorem KeyAt.len {R : List Row} {k : Int} {i : Nat} (h : KeyAt R k i) : (R.takeWhile (fun x => decide (keyF x < k))).length = i := by
  obtain ⟨h1, h2, h3⟩ := h
  refine takeWhile_len h1 (fun q x hq hx => by simpa using h2 q x hq hx) ?_
  by_cases e : i = R.length
  · exact .inl e
  · refine .inr ⟨R[i]'(by omega), by simp, ?_⟩
    have := h3 i (R[i]'(by omega)) (Nat.le_refl _) (by simp)
    simpa using this
theorem KeyAt.put {R : List Row} {r : Row} {i : Nat} (h : KeyAt R (keyF r) i) : putAt R i r = insK R r := by
  have e := h.len
  unfold putAt insK
  rw [← e, take_tw, drop_tw]
theorem KeyAt.has {R : List Row} {k : Int} {i : Nat} (h : KeyAt R k i) (hk : KeyRise R) : hasK R k i = hasR R k := by
  obtain ⟨h1, h2, h3⟩ := h
  unfold hasK hasR
  rw [Bool.eq_iff_iff]
  constructor
  · intro e
    split at e
    · rename_i r hr
      exact List.any_eq_true.2 ⟨r, List.mem_of_getElem? hr, e⟩
    · cases e
  · intro e
    obtain ⟨x, hx, hxk⟩ := List.any_eq_true.1 e
    have hxk : keyF x = k := by simpa using hxk
    obtain ⟨q, hq⟩ := List.mem_iff_getElem?.1 hx
    have hqi : i ≤ q := by
      by_cases hlt : q < i
      · have := h2 q x hlt hq; omega
      · omega
    have hql := (List.getElem?_eq_some_iff.1 hq).1
    have hi : R[i]? = some (R[i]'(by omega)) := by simp
    rw [hi]
    by_cases e2 : i = q
    · subst e2
      have e3 := Option.some.inj (hi.symm.trans hq)
      simpa [e3] using hxk
    · have := List.pairwise_iff_getElem.1 hk i q (by omega) hql (by omega)
      obtain ⟨_, e3⟩ := List.getElem?_eq_some_iff.1 hq
      have h4 := h3 i (R[i]'(by omega)) (Nat.le_refl _) hi
      rw [e3] at this
      omega
structure DoOk (ks : List Int) (n : Nat) (R : List Row) (o : Op) : Prop where
  rows : RowsS R
  good : GoodRs ks R
  rise : KeyRise R
  op : OpS n o
  row : o.row.length < 1000
  cols : o.kind = 4 → o.cols.length < 1000 ∧ ∀ c, c ∈ o.cols → InK ks c
  aggs : o.kind = 5 → o.group < ks.length ∧ o.aggs.length < 900 ∧ ∀ a, a ∈ o.aggs → InK ks a.col
end Go.Lib
end

section
set_option maxRecDepth 10000
namespace Go.Lib
open Go.Vm Go.Dv Go.Srt
variable {p : Prog} {ext : Ext} {F : Nat → Nat}
structure RowsK (ks : List Int) (B : Nat) (R : List Row) : Prop where
  good : GoodRs ks R
  rise : KeyRise R
  len : R.length ≤ B
structure SxOk (ks : List Int) (x : Sx) : Prop where
  col : 1 ≤ x.col ∧ x.col < ks.length
  good : x.v.Good
  kind : x.v.kind = (ks[x.col.toNat]?).getD 0
  add : x.add = true → (ks[x.col.toNat]?).getD 0 = 1
structure OpOk (ks : List Int) (n : Nat) (o : Op) : Prop where
  op : OpS n o
  rowl : o.row.length < 1000
  row : o.kind = 1 → GoodR ks o.row
  sets : o.kind = 2 → ∀ x, x ∈ o.sets → SxOk ks x
  cols : o.kind = 4 → o.cols.length < 1000 ∧ ∀ c, c ∈ o.cols → InK ks c
  aggs : o.kind = 5 → o.group < ks.length ∧ o.aggs.length < 900 ∧ ∀ a, a ∈ o.aggs → InK ks a.col
theorem GoodR.len {ks : List Int} {r : Row} (h : GoodR ks r) : r.length = ks.length := by
  have := h.kin; unfold Kin at this; rw [← this]; simp
theorem RowsK.rows {ks : List Int} {B : Nat} {R : List Row} (h : RowsK ks B R) (hk : ks.length < 1000) (hB : B < 1000000) : RowsS R :=
  ⟨by have := h.len; omega, fun r hr => by rw [(h.good r hr).len]; exact hk, fun r hr v hv => ((h.good r hr).good v hv).int⟩
theorem GoodR.set {ks : List Int} {r : Row} {v : Vl} {i : Nat} (h : GoodR ks r) (hv : v.Good) (hk : v.kind = (ks[i]?).getD 0) (hi : i < ks.length) : GoodR ks (r.set i v) := by
  refine ⟨?_, fun w hw => ?_⟩
  · have := h.kin
    unfold Kin at this ⊢
    have hks : (ks[i]?).getD 0 = ks[i] := by simp [hi]
    rw [List.map_set, this, hk, hks, List.set_getElem_self hi]
  · rcases List.mem_or_eq_of_mem_set hw with hw | rfl
    · exact h.good w hw
    · exact hv
def rssD (l : List Rs) : D := .row 3 .p (l.map Rs.c)
def opsD (l : List Op) : D := .row 14 .p (l.map Op.c)
theorem ops_len {l : List Op} : lenbD (opsD l) = some (.lit (.int .i64 (l.length : Int))) := by simp [opsD]
theorem at_ops {l : List Op} {n : Nat} : atO 14 (opsD l) (some n) = elemD (l[n]?.map Op.c) := by simp [opsD]
theorem rs_len {x : Rs} : x.c.length = 3 := rfl
theorem rs_flats {x : Rs} : flatsD x.c = true := rfl
theorem rs_take {x : Rs} : x.c.take 3 = x.c := rfl
theorem rs_drop {x : Rs} : x.c.drop 3 = [] := rfl
theorem rs_0 {x : Rs} : x.c[0]? = some (.lit (.int .i64 x.err)) := rfl
theorem rs_1 {x : Rs} : x.c[1]? = some (.lit (.int .i64 x.n)) := rfl
theorem rs_2 {x : Rs} : x.c[2]? = some (rowsD x.rows) := rfl
theorem rss_len {l : List Rs} : lenbD (rssD l) = some (.lit (.int .i64 (l.length : Int))) := by simp [rssD]
theorem at_rss {l : List Rs} {n : Nat} : atO 3 (rssD l) (some n) = elemD (l[n]?.map Rs.c) := by simp [rssD]
theorem rss_under {n : Nat} {l : List Rs} : (rssD l).under n := by simp only [rssD, D.under]; exact underss_map (fun _ => rs_unders) _
attribute [simp] ops_len at_ops rs_len rs_flats rs_take rs_drop rs_0 rs_1 rs_2 rss_len at_rss rss_under
end Go.Lib
end

section
set_option maxRecDepth 10000
namespace Go.Lib
open Go.Vm Go.Dv Go.Srt
attribute [-simp] bin_and bin_xor
def nV (n : Int) : Vl := ⟨false, 1, n, [], by simp⟩
def prT : Pr := .mk 1 0 0 zv []
def aggO (q : Pr) (g : Int) (l : List Ag) : Op := ⟨5, [], q, [], [], g, l⟩
def numP (l : List Int) (a : Nat) : Int := (l[a]?).getD (wr .i64 ((a : Int) * 7919))
def kP (d : Nat) (n : Int) : Int := if d ≤ 1 ∧ 4 < andI n 7 then andI n 7 - 4 else andI n 7
def cP (s : Sch) (n : Int) : Int := Int.tmod (andI (shrI .i64 n 3) 255) (s.length : Int)
def vP (s : Sch) (n : Int) : Vl := if cP s n = 0 then nV (andI (shrI .i64 n 11) 15) else match s[(cP s n).toNat]? with
  | some c => valF ⟨c.name, c.kind, false⟩ (shrI .i64 n 11)
  | none => zv
def leafP (s : Sch) (n : Int) : Pr := .mk 2 (cP s n) (Int.tmod (andI (shrI .i64 n 17) 255) 6 + 1) (vP s n) []
def sonsP (n : Int) (son : Nat → Pr) : List Pr := (List.range (andI (shrI .i64 n 11) 3).toNat).map son
def predG (s : Sch) (n k : Int) (son : Nat → Pr) : Pr :=
  if k = 0 then prT else if k = 1 then .mk 3 (cP s n) 0 zv []
  else if k = 5 ∨ k = 6 then .mk (k - 1) 0 0 zv (sonsP n son)
  else if k = 7 then .mk 6 0 0 zv [son 0] else leafP s n
def predF (s : Sch) (l : List Int) : Nat → Nat → Pr
  | 0, a => predG s (numP l a) (kP 0 (numP l a)) fun _ => prT
  | d + 1, a => predG s (numP l a) (kP (d + 1) (numP l a)) fun i => predF s l d (3 * a + i + 1)
theorem kP_at {d : Nat} {n : Int} : ∃ k : Nat, kP d n = k ∧ k ≤ 7 ∧ (d ≤ 1 → k ≤ 4) := by
  obtain ⟨q, hq, h1⟩ := andI_small (a := n) (m := 7) (by simp)
  have hq' : andI n 7 = q := hq
  unfold kP
  rw [hq']
  split
  · exact ⟨q - 4, by omega, by omega, by omega⟩
  · exact ⟨q, rfl, h1, by omega⟩
end Go.Lib
end

section
namespace Go.Lib
open Go.Vm Go.Dv
set_option maxRecDepth 100000
abbrev K99 (F : Nat → Nat) : KC := .seq (.region [⟨(some 4),(.a (.box (.tmp 0))),none⟩,⟨(some 8),(.a (.new [.int .i64 (.ofNat 0),.int .i64 (.ofNat 0),.int .i64 (.ofNat 0),.bool false,.int .i64 (.ofNat 0),.int .i64 (.ofNat 0),.nilslice,.nilslice])),none⟩] [4] [1,2,3,4,8])
 (.seq (.region [mv 16 2,bi 17 .mul 16 7919,mv 9 17] [] [1,2,3,4,8,9])
 (.seq (.seq (.region [mv 18 2,mv 19 1,lb 20 19,bt 21 .lss 18 20] [] [1,2,3,4,8,9,21])
 (.cond (.tmp 21) (.region [mv 22 1,mv 23 2,ix 24 1 22 23,l1 25 24,mv 9 25] [] [1,2,3,4,8,9])
 (.skip)))
 (.seq (.region [mv 26 9,bi 27 .and 26 7,mv 10 27] [] [1,2,3,4,8,9,10])
 (.seq (.seq (.region [mv 28 3,bi 29 .leq 28 1,mv 30 29,⟨(some 31),(.p (.mov (.tmp 10))),(some (30,true))⟩,⟨(some 32),(.p (.bin .gtr (.tmp 31) (.val (.int .i64 (.ofNat 4))))),(some (30,true))⟩,⟨(some 33),(.p (.pick (.tmp 30) (.tmp 32) (.val (.bool false)))),none⟩] [] [1,2,3,4,8,9,10,33])
 (.cond (.tmp 33) (.region [mv 34 10,bi 35 .sub 34 4,mv 10 35] [] [1,2,3,4,8,9,10])
 (.skip)))
 (.seq (.region [mv 36 9,⟨(some 37),(.p (.bin .shr (.tmp 36) (.val (.int .u64 (.ofNat 3))))),none⟩,bi 38 .and 37 255,fa 39 0 4,l1 40 39,lb 41 40,bt 42 .rem 38 41,mv 11 42] [] [1,2,3,4,8,9,10,11])
 (.seq (.seq (.region [mv 43 10] [] [1,2,3,4,8,9,10,11,43])
 (.block 0 (.seq (.region [bi 45 .eql 43 0,mv 44 45] [] [1,2,3,4,8,9,10,11,43,44])
 (.cond (.tmp 44) (.seq (.region [⟨(some 46),(.p (.build [.int .i64 (.ofNat 0),.int .i64 (.ofNat 0),.int .i64 (.ofNat 0),.bool false,.int .i64 (.ofNat 0),.int .i64 (.ofNat 0),.nilslice,.nilslice] [(0,1,(.val (.int .i64 (.ofNat 1))))])),none⟩,⟨none,(.e (.store 8 (.tmp 8) (.tmp 46))),none⟩] [] [8])
 (.ret))
 (.seq (.region [bi 48 .eql 43 1,mv 47 48] [] [1,2,3,4,8,9,10,11,43,47])
 (.cond (.tmp 47) (.seq (.region [mv 49 11,⟨(some 50),(.p (.build [.int .i64 (.ofNat 0),.int .i64 (.ofNat 0),.int .i64 (.ofNat 0),.bool false,.int .i64 (.ofNat 0),.int .i64 (.ofNat 0),.nilslice,.nilslice] [(0,1,(.val (.int .i64 (.ofNat 3)))),(1,1,(.tmp 49))])),none⟩,⟨none,(.e (.store 8 (.tmp 8) (.tmp 50))),none⟩] [] [8])
 (.ret))
 (.seq (.seq (.region [bi 52 .eql 43 5,mv 51 52] [] [1,2,3,4,8,9,10,11,43,51])
 (.cond (.tmp 51) (.skip)
 (.region [bi 53 .eql 43 6,mv 51 53] [] [1,2,3,4,8,9,10,11,43,51])))
 (.cond (.tmp 51) (.seq (.region [mv 54 10,⟨(some 55),(.p (.bin .add (.val (.int .i64 (.ofNat 4))) (.tmp 54))),none⟩,bi 56 .sub 55 5,⟨(some 57),(.p (.build [.int .i64 (.ofNat 0),.int .i64 (.ofNat 0),.int .i64 (.ofNat 0),.bool false,.int .i64 (.ofNat 0),.int .i64 (.ofNat 0),.nilslice,.nilslice] [(0,1,(.tmp 56))])),none⟩,⟨(some 12),(.a (.new [.int .i64 (.ofNat 0),.int .i64 (.ofNat 0),.int .i64 (.ofNat 0),.bool false,.int .i64 (.ofNat 0),.int .i64 (.ofNat 0),.nilslice,.nilslice])),none⟩,⟨none,(.e (.store 8 (.tmp 12) (.tmp 57))),none⟩] [] [1,2,3,4,8,9,12])
 (.seq (.seq (.region [mi 13 0] [] [1,2,3,4,8,9,12,13])
 (.block 1 (.loop (.seq (.seq (.region [mv 58 13,mv 59 9,⟨(some 60),(.p (.bin .shr (.tmp 59) (.val (.int .u64 (.ofNat 11))))),none⟩,bi 61 .and 60 3,bt 62 .lss 58 61] [] [1,2,3,4,8,9,12,13,62])
 (.cond (.tmp 62) (.skip)
 (.exit 1)))
 (.seq (.block 2 (.dregion [⟨ln 67 1 4,0,9⟩,⟨mv 68 1,0,9⟩,⟨mv 69 2,0,9⟩,⟨⟨(some 70),(.p (.bin .mul (.val (.int .i64 (.ofNat 3))) (.tmp 69))),none⟩,0,9⟩,⟨mv 71 13,0,9⟩,⟨bt 72 .add 70 71,0,9⟩,⟨bi 73 .add 72 1,0,9⟩,⟨mv 74 3,0,9⟩,⟨bi 75 .sub 74 1,0,9⟩,⟨⟨(some 76),(.e (.call (F 99) [(.tmp 67),(.tmp 68),(.tmp 73),(.tmp 75)])),none⟩,0,13⟩,⟨fa 65 7 12,0,13⟩,⟨l1 66 65,0,13⟩,⟨⟨(some 77),(.a (.bslice [.int .i64 (.ofNat 0),.int .i64 (.ofNat 0),.int .i64 (.ofNat 0),.bool false,.int .i64 (.ofNat 0),.int .i64 (.ofNat 0),.nilslice,.nilslice] 8 1 [(0,8,(.tmp 76))])),none⟩,10,13⟩,⟨⟨(some 78),(.e (.append 8 96 (.tmp 66) (.tmp 77))),none⟩,10,15⟩,⟨fa 79 7 12,14,15⟩,⟨⟨none,(.e (.store 1 (.tmp 79) (.tmp 78))),none⟩,14,16⟩] [1,2,3,4,8,9,12,13]))
 (.region [mv 63 13,bi 64 .add 63 1,mv 13 64] [] [1,2,3,4,8,9,12,13]))))))
 (.seq (.region [ln 80 8 12,⟨none,(.e (.store 8 (.tmp 8) (.tmp 80))),none⟩] [] [8])
 (.ret))))
 (.seq (.region [bi 82 .eql 43 7,mv 81 82] [] [1,2,3,4,8,9,11,81])
 (.cond (.tmp 81) (.seq (.region [ln 83 1 4,mv 84 1,mv 85 2,⟨(some 86),(.p (.bin .mul (.val (.int .i64 (.ofNat 3))) (.tmp 85))),none⟩,bi 87 .add 86 1,mv 88 3,bi 89 .sub 88 1,⟨(some 90),(.e (.call (F 99) [(.tmp 83),(.tmp 84),(.tmp 87),(.tmp 89)])),none⟩,⟨(some 91),(.a (.bslice [.int .i64 (.ofNat 0),.int .i64 (.ofNat 0),.int .i64 (.ofNat 0),.bool false,.int .i64 (.ofNat 0),.int .i64 (.ofNat 0),.nilslice,.nilslice] 8 1 [(0,8,(.tmp 90))])),none⟩,⟨(some 92),(.p (.build [.int .i64 (.ofNat 0),.int .i64 (.ofNat 0),.int .i64 (.ofNat 0),.bool false,.int .i64 (.ofNat 0),.int .i64 (.ofNat 0),.nilslice,.nilslice] [(0,1,(.val (.int .i64 (.ofNat 6)))),(7,1,(.tmp 91))])),none⟩,⟨none,(.e (.store 8 (.tmp 8) (.tmp 92))),none⟩] [] [8])
 (.ret))
 (.skip)))))))))))
 (.seq (.region [fa 93 0 4,l1 94 93,mv 95 11,ix 96 3 94 95,ln 97 3 96,⟨(some 14),(.a (.new [.str [],.int .i64 (.ofNat 0),.bool false])),none⟩,⟨none,(.e (.store 3 (.tmp 14) (.tmp 97))),none⟩] [] [8,9,11,14])
 (.seq (.region [fa 98 2 14,⟨none,(.e (.store 1 (.tmp 98) (.val (.bool false)))),none⟩] [] [8,9,11,14])
 (.seq (.region [ln 99 3 14,mv 100 9,⟨(some 101),(.p (.bin .shr (.tmp 100) (.val (.int .u64 (.ofNat 11))))),none⟩,⟨(some 102),(.e (.call (F 25) [(.tmp 99),(.tmp 101)])),none⟩,⟨(some 15),(.a (.new [.bool false,.int .i64 (.ofNat 0),.int .i64 (.ofNat 0),.nilslice])),none⟩,⟨none,(.e (.store 4 (.tmp 15) (.tmp 102))),none⟩] [] [8,9,11,15])
 (.seq (.seq (.region [mv 103 11,bi 104 .eql 103 0] [] [8,9,11,15,104])
 (.cond (.tmp 104) (.region [mv 105 9,⟨(some 106),(.p (.bin .shr (.tmp 105) (.val (.int .u64 (.ofNat 11))))),none⟩,bi 107 .and 106 15,⟨(some 108),(.p (.build [.bool false,.int .i64 (.ofNat 0),.int .i64 (.ofNat 0),.nilslice] [(1,1,(.val (.int .i64 (.ofNat 1)))),(2,1,(.tmp 107))])),none⟩,⟨none,(.e (.store 4 (.tmp 15) (.tmp 108))),none⟩] [] [8,9,11,15])
 (.skip)))
 (.seq (.region [mv 109 11,mv 110 9,⟨(some 111),(.p (.bin .shr (.tmp 110) (.val (.int .u64 (.ofNat 17))))),none⟩,bi 112 .and 111 255,bi 113 .rem 112 6,bi 114 .add 113 1,ln 115 4 15,⟨(some 116),(.p (.build [.int .i64 (.ofNat 0),.int .i64 (.ofNat 0),.int .i64 (.ofNat 0),.bool false,.int .i64 (.ofNat 0),.int .i64 (.ofNat 0),.nilslice,.nilslice] [(0,1,(.val (.int .i64 (.ofNat 2)))),(1,1,(.tmp 109)),(2,1,(.tmp 114)),(3,4,(.tmp 115))])),none⟩,⟨none,(.e (.store 8 (.tmp 8) (.tmp 116))),none⟩] [] [8])
 (.ret))))))))))))
def M99 (F : Nat → Nat) : Fun := ⟨117,4,(K99 F).erase,[.celln 8 8]⟩
theorem ok99 {F : Nat → Nat} : (K99 F).ok = true := rfl
end Go.Lib
end

section
set_option maxRecDepth 10000
namespace Go.Lib
open Go.Vm Go.Dv Go.Srt
variable {p : Prog} {ext : Ext} {F : Nat → Nat}
attribute [-simp] bin_and bin_xor
structure HPredL (p : Prog) (ext : Ext) (F : Nat → Nat) : Prop where
  law6 : HLaw6s p ext F
  h99 : Has p ext F 99 M99
@[simp] def nilPr : List D := [.lit (.int .i64 0), .lit (.int .i64 0), .lit (.int .i64 0), .lit (.bool false), .lit (.int .i64 0), .lit (.int .i64 0), .lit .nilslice, .lit .nilslice]
def P7a (s : Sch) (m : Md) (l : List Int) (a d : Nat) (H : HpD) (n : Int) (fr : FrD) (H' : HpD) : Prop :=
  fr = [(1, intsD m l), (2, .lit (.int .i64 (a : Int))), (3, .lit (.int .i64 (d : Int))), (4, .rptr [schR s] 0), (8, .ptr H.next 0), (9, .lit (.int .i64 n))] ∧ H' = H.new (.cells nilPr false)
def P7b (s : Sch) (m : Md) (l : List Int) (a d : Nat) (H : HpD) (n k : Int) (fr : FrD) (H' : HpD) : Prop :=
  fr = [(1, intsD m l), (2, .lit (.int .i64 (a : Int))), (3, .lit (.int .i64 (d : Int))), (4, .rptr [schR s] 0), (8, .ptr H.next 0), (9, .lit (.int .i64 n)), (10, .lit (.int .i64 k))] ∧ H' = H.new (.cells nilPr false)
theorem VDl_last {h : Hp} {ψ : Nat → Option Nat} {S : Nat → Prop} {d : D} : ∀ {pre : List D} {l : List V}, VDl h ψ S (pre ++ [d]) l → ∃ l1 v, l = l1 ++ [v] ∧ VDl h ψ S pre l1 ∧ VD h ψ S d v
  | [], l, k => by
    simp only [List.nil_append, VDl] at k
    obtain ⟨v, r, rfl, k, rfl⟩ := k
    exact ⟨[], v, rfl, by simp only [VDl], k⟩
  | x :: pre, l, k => by
    simp only [List.cons_append, VDl] at k
    obtain ⟨v, r, rfl, k1, k⟩ := k
    obtain ⟨l1, w, rfl, k2, k3⟩ := VDl_last (pre := pre) k
    exact ⟨v :: l1, w, rfl, by simp only [VDl]; exact ⟨v, l1, rfl, k1, k2⟩, k3⟩
theorem WeakV.aggLast {pre : List D} {d d2 : D} {H H2 : HpD} (k : WeakV d H d2 H2) : WeakV (.agg (pre ++ [d])) H (.agg (pre ++ [d2])) H2 := by
  intro G ψ S hp v s kv
  simp only [VD] at kv
  obtain ⟨l, rfl, kl⟩ := kv
  obtain ⟨l1, w, rfl, k1, k2⟩ := VDl_last kl
  obtain ⟨ψ', S', x1, s1, k3⟩ := k _ ψ S hp w s k2
  refine ⟨ψ', S', x1, s1, ?_⟩
  simp only [VD]
  exact ⟨_, rfl, (VDl.mono x1 _ k1).append (by simp only [VDl]; exact ⟨w, [], rfl, k3, rfl⟩)⟩
theorem predF_eq {s : Sch} {l : List Int} {d a : Nat} : predF s l d a = predG s (numP l a) (kP d (numP l a)) (fun i => match d with | 0 => prT | d' + 1 => predF s l d' (3 * a + i + 1)) := by
  cases d <;> rfl
def head7 (k : Int) : List D := [.lit (.int .i64 k), .lit (.int .i64 0), .lit (.int .i64 0), .lit (.bool false), .lit (.int .i64 0), .lit (.int .i64 0), .lit .nilslice]
def P7I (H : HpD) (s : Sch) (m : Md) (l : List Int) (a d : Nat) (n k : Int) (sons : List Pr) (w : Nat) (fr : FrD) (H' : HpD) : Prop :=
  ∃ (i : Nat) (t : D), w = sons.length - i ∧ i ≤ sons.length ∧ fr = [(1, intsD m l), (2, .lit (.int .i64 (a : Int))), (3, .lit (.int .i64 (d : Int))), (4, .rptr [schR s] 0), (8, .ptr H.next 0), (9, .lit (.int .i64 n)), (12, .ptr (H.next + 1) 0), (13, .lit (.int .i64 (i : Int)))] ∧
    Gr ⟨H.next + 2, H'.blk⟩ H' 8 t ((sons.take i).map Pr.c) ∧ H'.blk (H.next + 1) = .cells (head7 k ++ [t]) false ∧ H'.blk H.next = .cells nilPr false ∧ Sub H H'
theorem fin_sons {H X : HpD} {t : D} {sons : List Pr} {kk : Int} {N : Nat} (hs : Dv.Sub H X) (g : Gr ⟨N, X.blk⟩ X 8 t (sons.map Pr.c)) (hN : H.next ≤ N) : Dv.Fin H (.agg (Pr.mk kk 0 0 zv sons).c) (.agg (head7 kk ++ [t])) X := by
  obtain ⟨H2, w, sub2, _⟩ := g.fin (underss_map (fun q => pr_unders q) _) (m := .p) (by simp)
  have hn2 := sub2.next
  simp at hn2
  exact ⟨H2, (WeakV.aggLast (pre := head7 _) w).trans (.le (by simp [head7, pr_c, Pr.kind, Pr.col, Pr.op, Pr.v, Pr.l, zv, D.le, byD, byE, prsD, D.less_refl])), ⟨by omega, fun x hx => by rw [sub2.blk x (by simp; omega), ← hs.blk x hx]⟩, by simp [D.under]⟩
theorem pred7_1 (L : HPredL p ext F) {s : Sch} {m : Md} {l : List Int} {a d : Nat} (hs0 : 0 < s.length) (hs : s.length < 1000) (ha : a < 1000000) (hd : d < 1000) (ih : ∀ d' a' : Nat, d = d' + 1 → 1 ≤ d' → a' ≤ 3 * a + 10 → FnD p ext (F 99) [schD s, intsD m l, .lit (.int .i64 (a' : Int)), .lit (.int .i64 (d' : Int))] (.agg (predF s l d' a').c)) : FnD p ext (F 99) [schD s, intsD m l, .lit (.int .i64 (a : Int)), .lit (.int .i64 (d : Int))] (.agg (predF s l d a).c) := by
  refine fn_of L.h99 (M := M99) rfl ok99 rfl fun H => sem_run 14 _ ?_
  simp
  refine sem_cut (P7a s m l a d H (numP l a)) (sem_run 9000 _ ?_) ?_
  · by_cases c : a < l.length
    · have hn : numP l a = l[a] := by simp [numP, c]
      rw [hn]
      simp [c]
      exact sem_ok ⟨rfl, rfl⟩
    · have hn : numP l a = wr .i64 ((a : Int) * 7919) := by simp [numP, c]
      rw [hn]
      simp [c]
      refine sem_as_ok [(1, intsD m l), (2, .lit (.int .i64 (a : Int))), (3, .lit (.int .i64 (d : Int))), (4, .rptr [schR s] 0), (8, .ptr H.next 0), (9, .lit (.int .i64 (wr .i64 ((a : Int) * 7919))))] (by simp [D.le_refl, intsD]) ?_
      exact sem_ok ⟨rfl, rfl⟩
  rintro fr H1 ⟨rfl, rfl⟩
  obtain ⟨n, hn⟩ : ∃ n, numP l a = n := ⟨_, rfl⟩
  rw [hn]
  refine sem_run 9 _ ?_
  simp
  refine sem_cut (P7b s m l a d H n (kP d n)) (sem_run 9000 _ ?_) ?_
  · obtain ⟨q, hq, hq7⟩ := andI_small (a := n) (m := 7) (by simp)
    have hq' : andI n 7 = q := hq
    by_cases c : d ≤ 1
    · have c' : (d : Int) ≤ 1 := by omega
      by_cases c2 : 4 < q
      · have c2' : (4 : Int) < q := by omega
        have hk : kP d n = (q : Int) - 4 := by unfold kP; rw [hq', if_pos ⟨c, by omega⟩]
        have w : wr .i64 ((q : Int) - 4) = (q : Int) - 4 := by rw [wr_of] <;> omega
        rw [hk]
        simp [hq', c', c2', w]
        exact sem_ok ⟨rfl, rfl⟩
      · have c2' : ¬ (4 : Int) < q := by omega
        have hk : kP d n = (q : Int) := by unfold kP; rw [hq', if_neg (by omega)]
        rw [hk]
        simp [hq', c', c2']
        refine sem_as_ok [(1, intsD m l), (2, .lit (.int .i64 (a : Int))), (3, .lit (.int .i64 (d : Int))), (4, .rptr [schR s] 0), (8, .ptr H.next 0), (9, .lit (.int .i64 n)), (10, .lit (.int .i64 (q : Int)))] (by simp [D.le_refl, intsD]) ?_
        exact sem_ok ⟨rfl, rfl⟩
    · have c' : ¬ (d : Int) ≤ 1 := by omega
      have hk : kP d n = (q : Int) := by unfold kP; rw [hq', if_neg (by omega)]
      rw [hk]
      simp [hq', c']
      refine sem_as_ok [(1, intsD m l), (2, .lit (.int .i64 (a : Int))), (3, .lit (.int .i64 (d : Int))), (4, .rptr [schR s] 0), (8, .ptr H.next 0), (9, .lit (.int .i64 n)), (10, .lit (.int .i64 (q : Int)))] (by simp [D.le_refl, intsD]) ?_
      exact sem_ok ⟨rfl, rfl⟩
  rintro fr H1 ⟨rfl, rfl⟩
  obtain ⟨k, hk, hk7, hk4⟩ := kP_at (d := d) (n := n)
  rw [hk]
  have hz : (s.length : Int) ≠ 0 := by omega
  have hsz : ¬ s.length = 0 := by omega
  have hc : Int.tmod (andI (shrI .i64 n 3) 255) (s.length : Int) = cP s n := rfl
  obtain ⟨c, hcn, hcl⟩ : ∃ c : Nat, cP s n = c ∧ c < s.length := by
    obtain ⟨q, hq, hq1⟩ := andI_small (a := shrI .i64 n 3) (m := 255) (by simp)
    have hq' : andI (shrI .i64 n 3) 255 = q := hq
    refine ⟨q % s.length, ?_, Nat.mod_lt _ hs0⟩
    unfold cP
    rw [hq', Int.tmod_eq_emod_of_nonneg (by omega)]; omega
  refine sem_run 9000 _ ?_
  simp [hsz, hc, hcn]
  have hF := predF_eq (s := s) (l := l) (d := d) (a := a)
  rw [hn, hk] at hF
  generalize hson : (fun i => match d with | 0 => prT | d' + 1 => predF s l d' (3 * a + i + 1)) = son at hF
  rw [hF]
  have hih : ∀ i : Nat, 1 < d → i ≤ 3 → FnD p ext (F 99) [schD s, intsD m l, .lit (.int .i64 (3 * (a : Int) + (i : Int) + 1)), .lit (.int .i64 ((d : Int) - 1))] (.agg (son i).c) := fun i hd hi => by
    obtain ⟨d', rfl⟩ : ∃ d', d = d' + 1 := ⟨d - 1, by omega⟩
    have := ih d' (3 * a + i + 1) rfl (by omega) (by omega)
    rw [← hson]
    rw [show (((d' + 1 : Nat) : Int) - 1) = (d' : Int) by omega, show 3 * (a : Int) + (i : Int) + 1 = ((3 * a + i + 1 : Nat) : Int) by omega]
    exact this
  clear ih hson hF
  have hkk : k = 0 ∨ k = 1 ∨ k = 5 ∨ k = 6 ∨ k = 7 ∨ k = 2 ∨ k = 3 ∨ k = 4 := by omega
  rcases hkk with rfl | rfl | h
  · simp
    refine sem_ret ?_
    simp [M99]
    exact .le (by repeat (first | exact Sub.refl | apply Sub.new | refine Sub.put ?_ (by first | omega | (simp only [put_next, new_next]; omega)))) (by simp [predG, prT, pr_c, Pr.kind, Pr.col, Pr.op, Pr.v, Pr.l, zv, D.le, byD, byE, prsD]) (by simp [D.under])
  · simp
    refine sem_ret ?_
    simp [M99]
    exact .le (by repeat (first | exact Sub.refl | apply Sub.new | refine Sub.put ?_ (by first | omega | (simp only [put_next, new_next]; omega)))) (by simp [predG, hcn, pr_c, Pr.kind, Pr.col, Pr.op, Pr.v, Pr.l, zv, D.le, byD, byE, prsD]) (by simp [D.under])
  · have hh : ((k = 5 ∨ k = 6) ∧ 1 < d) ∨ (k = 7 ∧ 1 < d) ∨ (k = 2 ∨ k = 3 ∨ k = 4) := by omega
    rcases hh with ⟨h5, hd⟩ | ⟨rfl, hd⟩ | h2
    · have w1 : wr .i64 ((d : Int) - 1) = (d : Int) - 1 := by rw [wr_of] <;> omega
      have hw : ∃ kk : Int, predG s n (k : Int) son = .mk kk 0 0 zv (sonsP n son) ∧ kk = (k : Int) - 1 := ⟨(k : Int) - 1, by rcases h5 with rfl | rfl <;> simp [predG], rfl⟩
      obtain ⟨q, hq, hq3⟩ := andI_small (a := shrI .i64 n 11) (m := 3) (by simp)
      have hq' : andI (shrI .i64 n 11) 3 = q := hq
      have hsl : (sonsP n son).length = q := by simp [sonsP, hq']
      have hsg : ∀ i, i < q → (sonsP n son)[i]? = some (son i) := fun i hi => by simp [sonsP, hq', hi]
      have g0 : ∀ HB : HpD, HB.next = H.next + 2 → Gr ⟨H.next + 2, HB.blk⟩ HB 8 (.lit .nilslice) (((sonsP n son).take 0).map Pr.c) := fun HB e => ⟨⟨by simp [e], fun _ _ => rfl⟩, by simp, .inl ⟨rfl, by simp⟩⟩
      obtain ⟨kk, hG, hkk⟩ := hw
      rw [hG]
      clear hG
      generalize sonsP n son = sons at hsl hsg g0
      rcases h5 with rfl | rfl
      case' inl => simp [show wr .i64 9 = 9 from rfl, show wr .i64 4 = 4 from rfl]
      case' inl => obtain rfl : kk = 4 := by omega
      case' inl => refine sem_loop (P7I H s m l a d n 4 sons) ?_ (k := sons.length) ⟨0, .lit .nilslice, by simp, by simp, by simp, g0 _ (by simp), by simp [head7], by simp, (by repeat (first | exact Sub.refl | apply Sub.new | refine Sub.put ?_ (by first | omega | (simp only [put_next, new_next]; omega))))⟩
      case' inr => simp [show wr .i64 10 = 10 from rfl, show wr .i64 5 = 5 from rfl]
      case' inr => obtain rfl : kk = 5 := by omega
      case' inr => refine sem_loop (P7I H s m l a d n 5 sons) ?_ (k := sons.length) ⟨0, .lit .nilslice, by simp, by simp, by simp, g0 _ (by simp), by simp [head7], by simp, (by repeat (first | exact Sub.refl | apply Sub.new | refine Sub.put ?_ (by first | omega | (simp only [put_next, new_next]; omega))))⟩
      all_goals
        rintro w fr H' ⟨i, t, rfl, hi, rfl, g, hb, hb8, hsub⟩
        have hnx := g.sub.next
        simp at hnx
        refine sem_run 9000 _ ?_
        simp
        by_cases c : i < sons.length
        · have ci : (i : Int) < (q : Int) := by omega
          have w2 : wr .i64 (wr .i64 (3 * (a : Int)) + (i : Int)) = 3 * (a : Int) + (i : Int) := by rw [wr_of (n := 3 * (a : Int)) (by omega) (by omega), wr_of] <;> omega
          have w3 : wr .i64 (3 * (a : Int) + (i : Int) + 1) = 3 * (a : Int) + (i : Int) + 1 := by rw [wr_of] <;> omega
          have wi : wr .i64 ((i : Int) + 1) = ((i + 1 : Nat) : Int) := by rw [wr_of] <;> omega
          simp [hq', ci, w1, w2, w3]
          refine sem_dfn (hih i hd (by omega)) (by first | exact D.les_refl _ | simp) (sem_run 9000 _ ?_)
          have hl1 : H.next + 1 < H'.next := by omega
          have hrg : rigid t = true := by
            rcases g.at_ with ⟨rfl, _⟩ | ⟨b, ex, el0, rfl, _⟩ <;> rfl
          have hfar : ∀ x, t.hasB x → H.next + 2 ≤ x ∧ x < H'.next := fun x hx => g.far hx
          simp [hb, hl1, head7, hrg]
          rw [appendD_slice1 (b := H'.next) (cs := (son i).c) (ro := false) (by simp) (by simp)]
          refine sem_push (g.rest (by simp) fun x hx => by rw [new_blk, if_neg (by have := (hfar x hx).2; omega)]) (by simp) (by simp) (roomyD (by simp; omega) (by simp; omega)) fun t' H2 g2 k2 n2 => ?_
          have b12 : H2.blk (H.next + 1) = H'.blk (H.next + 1) := by
            rw [k2 _ (by simp; omega) (fun h => by have := (hfar _ h).1; omega), new_blk, if_neg (by omega)]
          rw [hb] at b12
          have b8 : H2.blk H.next = .cells nilPr false := by
            rw [k2 _ (by simp; omega) (fun h => by have := (hfar _ h).1; omega), new_blk, if_neg (by omega), hb8]
          have hrg2 : cellsD t' = some [t'] ∧ flatD t' = true := by
            rcases g2.at_ with ⟨rfl, _⟩ | ⟨b, ex, el0, rfl, _⟩ <;> exact ⟨rfl, rfl⟩
          obtain ⟨n2, _⟩ := n2
          simp at n2
          have l12 : H.next + 1 < H2.next := by omega
          simp [b12, head7, hrg2.1, hrg2.2]
          refine sem_ok ?_
          have hdrop : sons.take (i + 1) = sons.take i ++ [son i] := by rw [List.take_add_one, hsg i (by omega)]; rfl
          refine ⟨sons.length - (i + 1), by omega, i + 1, t', rfl, by omega, by rw [wi], ?_, by simp [head7], by simp [b8], ⟨by simp; omega, fun x hx => ?_⟩⟩
          · rw [hdrop]
            have g3 := fun B => g2.rest (H3 := H2.put (H.next + 1) B) (by simp) fun x hx => by rw [put_blk, if_neg (by have := (g2.far hx).1; simp at this; omega)]
            simpa using g3 _
          · rw [put_blk, if_neg (by omega), k2 x (by simp; have := hsub.next; omega) (fun h => by have := (hfar _ h).1; omega), new_blk, if_neg (by omega), hsub.blk x hx]
        · have : i = sons.length := by omega
          subst this
          have ci : ¬ ((sons.length : Nat) : Int) < (q : Int) := by omega
          have hft : flatD t = true := by
            rcases g.at_ with ⟨rfl, _⟩ | ⟨b, ex, el0, rfl, _⟩ <;> rfl
          simp [hq', ci]
          refine sem_exit (sem_run 9000 _ ?_)
          have hl1 : H.next + 1 < H'.next := by omega
          have hl0 : H.next < H'.next := by omega
          simp [hb, hb8, head7, hft]
          refine sem_ret ?_
          simp [M99]
          rw [List.take_length] at g
          exact fin_sons (N := H.next + 2) (hsub.put (Nat.le_refl _)) (g.rest (by simp) fun x hx => by rw [put_blk, if_neg (by have := (g.far hx).1; simp at this; omega)]) (by omega)
    · have w1 : wr .i64 ((d : Int) - 1) = (d : Int) - 1 := by rw [wr_of] <;> omega
      have w2 : wr .i64 (wr .i64 (3 * (a : Int)) + 1) = 3 * (a : Int) + 1 := by rw [wr_of (n := 3 * (a : Int)) (by omega) (by omega), wr_of] <;> omega
      have h7 := hih 0 hd (by omega)
      rw [show 3 * (a : Int) + ((0 : Nat) : Int) + 1 = 3 * (a : Int) + 1 by omega] at h7
      simp [w1, w2]
      refine sem_fn h7 (by first | exact D.les_refl _ | simp) (sem_run 9000 _ ?_)
      simp
      refine sem_ret ?_
      simp [M99]
      rw [show predG s n 7 son = .mk 6 0 0 zv [son 0] by simp [predG]]
      refine fin_sons (N := H.next + 1) (by repeat (first | exact Sub.refl | apply Sub.new | refine Sub.put ?_ (by first | omega | (simp only [put_next, new_next]; omega)))) ⟨⟨by simp, fun _ _ => rfl⟩, by simp, .inr ⟨H.next + 1, true, [(son 0).c], by simp, by simp, by simp, by simp, D.less_refl _⟩⟩ (by omega)
    · obtain ⟨cl, hcl⟩ : ∃ cl, s[c]? = some cl := ⟨s[c], by simp⟩
      have hG : predG s n (k : Int) son = leafP s n := by rcases h2 with rfl | rfl | rfl <;> simp [predG]
      rw [hG]
      have hop : ∃ o : Int, Int.tmod (andI (shrI .i64 n 17) 255) 6 = o ∧ wr .i64 (o + 1) = o + 1 := by
        obtain ⟨q, hq, hq1⟩ := andI_small (a := shrI .i64 n 17) (m := 255) (by simp)
        have hq' : andI (shrI .i64 n 17) 255 = q := hq
        refine ⟨_, rfl, ?_⟩
        rw [hq', Int.tmod_eq_emod_of_nonneg (by omega), wr_of] <;> omega
      obtain ⟨o, ho, wo⟩ := hop
      have hfl : ∀ v : Vl, flatsD (v.c ++ [.lit .nilslice]) = true := fun v => rfl
      have hsp : spliceD cl.c 2 [.lit (.bool false)] = Cl.c ⟨cl.name, cl.kind, false⟩ := rfl
      have hleaf : (leafP s n).c = [.lit (.int .i64 2), .lit (.int .i64 (c : Int)), .lit (.int .i64 (o + 1)), .lit (.bool (vP s n).null), .lit (.int .i64 (vP s n).kind), .lit (.int .i64 (vP s n).n), byD (vP s n).bytes, prsD []] := by
        rw [pr_c]; simp [leafP, Pr.kind, Pr.col, Pr.op, Pr.v, Pr.l, hcn, ho]
      rw [hleaf]
      by_cases hc0 : c = 0
      · have hv : vP s n = nV (andI (shrI .i64 n 11) 15) := by unfold vP; rw [if_pos (by omega)]
        rw [hv]
        rcases h2 with rfl | rfl | rfl
        all_goals
          simp [hcl, hsp, -getElem?_pos]
          refine sem_fn (law6_value L.law6 (c := ⟨cl.name, cl.kind, false⟩) (n := shrI .i64 n 11)) (by first | exact D.les_refl _ | simp) (sem_run 9000 _ ?_)
          simp [hc0, ho, wo]
          refine sem_ret ?_
          simp [M99]
          exact .le (by repeat (first | exact Sub.refl | apply Sub.new | refine Sub.put ?_ (by first | omega | (simp only [put_next, new_next]; omega)))) (by simp [nV, D.le, byD, byE, prsD]) (by simp [D.under])
      · have hv : vP s n = valF ⟨cl.name, cl.kind, false⟩ (shrI .i64 n 11) := by
          unfold vP; rw [if_neg (by omega), hcn]; simp [hcl]
        rw [hv]
        rcases h2 with rfl | rfl | rfl
        all_goals
          simp [hcl, hsp, -getElem?_pos]
          refine sem_fn (law6_value L.law6 (c := ⟨cl.name, cl.kind, false⟩) (n := shrI .i64 n 11)) (by first | exact D.les_refl _ | simp) (sem_run 9000 _ ?_)
          simp [hc0, ho, wo, hfl]
          refine sem_ret ?_
          simp [M99, Vl.c]
          exact .le (by repeat (first | exact Sub.refl | apply Sub.new | refine Sub.put ?_ (by first | omega | (simp only [put_next, new_next]; omega)))) (by simp [D.le, D.le_refl, prsD]) (by simp [D.under])
theorem pred7 (L : HPredL p ext F) {s : Sch} {m : Md} {l : List Int} (hs0 : 0 < s.length) (hs : s.length < 1000) : ∀ {d a : Nat}, d < 1000 → (a + 20) * 4 ^ d < 1000000 → FnD p ext (F 99) [schD s, intsD m l, .lit (.int .i64 (a : Int)), .lit (.int .i64 (d : Int))] (.agg (predF s l d a).c)
  | 0, a, hd, ha => pred7_1 L hs0 hs (by simp at ha; omega) (by omega) fun d' a' e => by omega
  | d + 1, a, hd, ha => pred7_1 L hs0 hs (by have := Nat.mul_le_mul_left (a + 20) (Nat.one_le_two_pow (n := 2 * (d + 1))); rw [Nat.pow_mul, show (2 : Nat) ^ 2 = 4 from rfl] at this; omega) (by omega) fun d' a' e h1 h2 => by
    obtain rfl : d' = d := by omega
    refine pred7 L hs0 hs (by omega) (Nat.lt_of_le_of_lt ?_ ha)
    rw [Nat.pow_succ, Nat.mul_comm (4 ^ d') 4, ← Nat.mul_assoc]
    exact Nat.mul_le_mul_right _ (by omega)
end Go.Lib
end

section
set_option maxRecDepth 10000
namespace Go.Lib
open Go.Vm Go.Dv Go.Srt
variable {p : Prog} {ext : Ext} {F : Nat → Nat}
attribute [-simp] bin_and bin_xor
theorem cP_at {n x : Int} : 0 ≤ cP (schF n) x ∧ cP (schF n) x < (schF n).length := by
  obtain ⟨q, hq, _⟩ := andI_small (a := shrI .i64 x 3) (m := 255) (by simp)
  have hq' : andI (shrI .i64 x 3) 255 = q := hq
  have hl := (schF_small (n := n)).2
  unfold cP
  rw [hq', Int.tmod_eq_emod_of_nonneg (by omega)]
  have := Int.emod_lt_of_pos (q : Int) (show (0 : Int) < ((schF n).length : Int) by omega)
  have := Int.emod_nonneg (q : Int) (show ((schF n).length : Int) ≠ 0 by omega)
  omega
theorem schF_at {n : Int} {i : Nat} {c : Cl} (h : (schF n)[i]? = some c) : i < 6 ∧ c.name = (([107, 101, 121] :: colNames)[i]?).getD [] ∧ (c.kind = 1 ∨ c.kind = 2) := by
  have hm := (more_le (n := n)).1
  unfold schF at h
  cases i with
  | zero => simp at h; subst h; exact ⟨by omega, rfl, .inl rfl⟩
  | succ i =>
    simp only [List.getElem?_cons_succ, List.getElem?_map, Option.map_eq_some_iff] at h
    obtain ⟨j, hj, rfl⟩ := h
    obtain ⟨hl, hj⟩ := List.getElem?_eq_some_iff.1 hj
    simp at hl hj
    subst hj
    refine ⟨by omega, rfl, ?_⟩
    obtain ⟨q, hq, hq1⟩ := andI_small (a := shrI .i64 n (8 + 2 * i)) (m := 1) (by simp)
    have hq' : andI (shrI .i64 n (8 + 2 * i)) 1 = q := hq
    show bitI n (8 + 2 * i) + 1 = 1 ∨ bitI n (8 + 2 * i) + 1 = 2
    have : bitI n (8 + 2 * i) = q := hq'
    omega
theorem schF_names {n : Int} : Names (schF n) := by
  refine ⟨fun c hc x hx => ?_, fun i j c c' h1 h2 h => ?_⟩
  · obtain ⟨i, hi⟩ := List.getElem?_of_mem hc
    obtain ⟨h1, h2, _⟩ := schF_at hi
    rw [h2] at hx
    have key : ∀ i : Fin 6, ∀ x, x ∈ (([107, 101, 121] :: colNames)[i.val]?).getD [] → x ≠ 32 ∧ x ≠ 40 ∧ x ≠ 41 ∧ x ≠ 44 := by decide
    exact key ⟨i, h1⟩ x hx
  · obtain ⟨a1, a2, _⟩ := schF_at h1
    obtain ⟨b1, b2, _⟩ := schF_at h2
    rw [a2, b2] at h
    have key : ∀ i j : Fin 6, (([107, 101, 121] :: colNames)[i.val]?).getD [] = (([107, 101, 121] :: colNames)[j.val]?).getD [] → i = j := by decide
    have := key ⟨i, a1⟩ ⟨j, b1⟩ h
    simpa using this
theorem schF_shorts {n : Int} : Shorts (schF n) := by
  intro c hc
  obtain ⟨i, hi⟩ := List.getElem?_of_mem hc
  obtain ⟨h1, h2, _⟩ := schF_at hi
  rw [h2]
  have key : ∀ i : Fin 6, ((([107, 101, 121] :: colNames)[i.val]?).getD []).length ≤ 100 := by decide
  exact key ⟨i, h1⟩
theorem leafP_one {n x : Int} : OneP (schF n) (leafP (schF n) x) := by
  obtain ⟨q, hq, _⟩ := andI_small (a := shrI .i64 x 17) (m := 255) (by simp)
  have hq' : andI (shrI .i64 x 17) 255 = q := hq
  have hc := cP_at (n := n) (x := x)
  obtain ⟨c, hci⟩ : ∃ c, (schF n)[(cP (schF n) x).toNat]? = some c := ⟨_, List.getElem?_eq_getElem (by omega)⟩
  obtain ⟨_, _, hk⟩ := schF_at hci
  have hop : 1 ≤ Int.tmod (andI (shrI .i64 x 17) 255) 6 + 1 ∧ Int.tmod (andI (shrI .i64 x 17) 255) 6 + 1 ≤ 6 := by
    rw [hq', Int.tmod_eq_emod_of_nonneg (by omega)]; omega
  have hv : (vP (schF n) x).null = false ∧ isB (vP (schF n) x) = true ∧ (vP (schF n) x).kind = c.kind ∧ In64 (vP (schF n) x).n := by
    unfold vP
    by_cases h0 : cP (schF n) x = 0
    · rw [if_pos h0]
      rw [h0] at hci
      have : c = keyC := by unfold schF at hci; simpa using hci.symm
      subst this
      obtain ⟨r, hr, hr1⟩ := andI_small (a := shrI .i64 x 11) (m := 15) (by simp)
      have hr' : andI (shrI .i64 x 11) 15 = r := hr
      refine ⟨rfl, by simp [isB, nV], rfl, ?_⟩
      show In64 (andI (shrI .i64 x 11) 15)
      rw [hr']; unfold In64; omega
    · rw [if_neg h0, hci]
      show (valF ⟨c.name, c.kind, false⟩ (shrI .i64 x 11)).null = false ∧ isB (valF ⟨c.name, c.kind, false⟩ (shrI .i64 x 11)) = true ∧ (valF ⟨c.name, c.kind, false⟩ (shrI .i64 x 11)).kind = c.kind ∧ In64 (valF ⟨c.name, c.kind, false⟩ (shrI .i64 x 11)).n
      generalize shrI .i64 x 11 = y
      rcases hk with k | k
      · obtain ⟨r, hr, hr1⟩ := andI_small (a := shrI .i64 y 3) (m := 7) (by simp)
        have hr' : andI (shrI .i64 y 3) 7 = r := hr
        have e : valF ⟨c.name, c.kind, false⟩ y = ⟨false, c.kind, if andI (shrI .i64 y 6) 15 = 0 then wr .i64 (y * 712544676207699905) else if andI (shrI .i64 y 6) 15 = 1 then wr .i64 (-andI (shrI .i64 y 3) 7) else if andI (shrI .i64 y 6) 15 = 2 then wr .i64 (9223372036854775807 - andI (shrI .i64 y 3) 7) else andI (shrI .i64 y 3) 7, [], by simp⟩ := by
          unfold valF; simp [k]
        rw [e]
        refine ⟨rfl, by simp [isB, k], rfl, ?_⟩
        show In64 (if _ then _ else _)
        split
        · exact in64_wr
        · split
          · exact in64_wr
          · split
            · exact in64_wr
            · rw [hr']; unfold In64; omega
      · have hb : (valF ⟨c.name, c.kind, false⟩ y).null = false ∧ (valF ⟨c.name, c.kind, false⟩ y).kind = c.kind ∧ (valF ⟨c.name, c.kind, false⟩ y).n = 0 ∧ (valF ⟨c.name, c.kind, false⟩ y).bytes.length ≤ 64 := by
          unfold valF
          simp only [Bool.false_eq_true, false_and, if_false]
          rw [if_neg (by show ¬ c.kind = 1; omega)]
          refine ⟨rfl, rfl, rfl, ?_⟩
          show (List.take _ (List.drop _ abc)).length ≤ 64
          rw [List.length_take, List.length_drop]; simp [abc]; omega
        refine ⟨hb.1, ?_, hb.2.1, by rw [hb.2.2.1]; unfold In64; omega⟩
        unfold isB
        rw [decide_eq_true_iff, if_neg (by rw [hb.1]; simp), if_neg (by rw [hb.2.1]; omega)]
        exact ⟨.inr (by rw [hb.2.1]; exact k), hb.2.2⟩
  exact .inr (.inl ⟨rfl, hc, hop, hv.1, hv.2.1, ⟨c, hci, hv.2.2.1⟩, rfl, hv.2.2.2⟩)
def capC : Nat → Nat
  | 0 => 1
  | d + 1 => 1 + 3 * capC d
theorem cntPs_le {B : Nat} : ∀ {l : List Pr}, (∀ x, x ∈ l → cntP x ≤ B) → cntPs l ≤ l.length * B
  | [], _ => by simp [cntPs]
  | x :: l, h => by
    have h1 := cntPs_le (l := l) (fun y hy => h y (List.mem_cons_of_mem _ hy))
    have h2 := h x List.mem_cons_self
    simp only [cntPs, List.length_cons, Nat.add_mul]; omega
theorem predG_right {n x : Int} {k d B : Nat} {son : Nat → Pr} (hson : ∀ i, 2 ≤ d → PrL (schF n) d (son i) ∧ cntP (son i) ≤ B) (hk : k ≤ 7) (hk4 : d ≤ 1 → k ≤ 4) : PrL (schF n) (d + 1) (predG (schF n) x k son) ∧ cntP (predG (schF n) x k son) ≤ 1 + 3 * B := by
  unfold predG
  split
  · exact ⟨⟨.inl ⟨rfl, rfl, rfl, rfl, rfl⟩, fun y hy => by simp [prT, Pr.l] at hy⟩, by simp [cntP_eq, prT, Pr.l, cntPs]⟩
  · split
    · exact ⟨⟨.inr (.inr (.inl ⟨rfl, cP_at, rfl, rfl, rfl⟩)), fun y hy => by simp [Pr.l] at hy⟩, by simp [cntP_eq, Pr.l, cntPs]⟩
    · split
      · rename_i h5
        obtain ⟨q, hq, hq3⟩ := andI_small (a := shrI .i64 x 11) (m := 3) (by simp)
        have hq' : andI (shrI .i64 x 11) 3 = q := hq
        have hd : 2 ≤ d := by omega
        have hl : (sonsP x son).length ≤ 3 := by simp [sonsP, hq']; omega
        have hy : ∀ y, y ∈ sonsP x son → PrL (schF n) d y ∧ cntP y ≤ B := fun y hy => by
          simp only [sonsP, List.mem_map] at hy
          obtain ⟨i, _, rfl⟩ := hy
          exact hson i hd
        have hcs := cntPs_le (fun y h => (hy y h).2)
        have := Nat.mul_le_mul_right B hl
        refine ⟨⟨.inr (.inr (.inr (.inl ⟨?_, rfl, rfl, rfl, by show (sonsP x son).length ≤ 8; omega⟩))), fun y h => (hy y h).1⟩, ?_⟩
        · show (k : Int) - 1 = 4 ∨ (k : Int) - 1 = 5
          omega
        · rw [cntP_eq]; show 1 + cntPs (sonsP x son) ≤ _; omega
      · split
        · have hd : 2 ≤ d := by omega
          refine ⟨⟨.inr (.inr (.inr (.inr ⟨rfl, rfl, rfl, rfl, rfl⟩))), fun y hy => ?_⟩, ?_⟩
          · simp [Pr.l] at hy; subst hy; exact (hson 0 hd).1
          · rw [cntP_eq]; show 1 + cntPs [son 0] ≤ _
            have := (hson 0 hd).2
            simp [cntPs]; omega
        · exact ⟨⟨leafP_one, fun y hy => by simp [leafP, Pr.l] at hy⟩, by simp [cntP_eq, leafP, Pr.l, cntPs]⟩
theorem predF_right {n : Int} {l : List Int} : ∀ {d a : Nat}, PrL (schF n) (d + 1) (predF (schF n) l d a) ∧ cntP (predF (schF n) l d a) ≤ capC d
  | 0, a => by
    obtain ⟨k, hk, hk7, hk4⟩ := kP_at (d := 0) (n := numP l a)
    have := predG_right (n := n) (x := numP l a) (k := k) (d := 0) (B := 0) (son := fun _ => prT) (fun i h => by omega) hk7 (fun h => hk4 (by omega))
    show PrL _ _ (predG (schF n) (numP l a) (kP 0 (numP l a)) fun _ => prT) ∧ cntP (predG (schF n) (numP l a) (kP 0 (numP l a)) fun _ => prT) ≤ 1
    rw [hk]; exact this
  | d + 1, a => by
    obtain ⟨k, hk, hk7, hk4⟩ := kP_at (d := d + 1) (n := numP l a)
    have := predG_right (n := n) (x := numP l a) (k := k) (d := d + 1) (B := capC d) (son := fun i => predF (schF n) l d (3 * a + i + 1)) (fun i h => predF_right) hk7 (fun h => hk4 (by omega))
    show PrL _ _ (predG (schF n) (numP l a) (kP (d + 1) (numP l a)) fun i => predF (schF n) l d (3 * a + i + 1)) ∧ cntP (predG (schF n) (numP l a) (kP (d + 1) (numP l a)) fun i => predF (schF n) l d (3 * a + i + 1)) ≤ _
    rw [hk]; exact this
theorem PrL.more {s : Sch} : ∀ {k : Nat} {q : Pr}, PrL s k q → PrL s (k + 1) q
  | 0, _, h => h.elim
  | _ + 1, _, ⟨h1, h2⟩ => ⟨h1, fun x hx => (h2 x hx).more⟩
structure HApart (p : Prog) (ext : Ext) (F : Nat → Nat) (g : SG) : Prop where
  told : HTold p ext F g
  samp : HSamP p ext F
  predl : HPredL p ext F
  awake : FnD p ext (F 230) [] (.lit (.bool true))
  h228 : Has p ext F 228 M228
theorem toldN_some {s : Sch} {q : Pr} : 0 < (toldN s q).length := by
  rw [toldN_eq]
  repeat' split
  all_goals (simp only [List.length_append, List.length_cons]; omega)
theorem textApart {g : SG} (L : HApart p ext F g) {n : Int} {m m2 : Md} {l l2 : List Int} {same : Bool} : FnD p ext (F 228) [.lit (.int .i64 n), intsD m l, intsD m2 l2, .lit (.bool same)] (.lit (.bool true)) := by
  refine fn_of L.h228 (M := M228) rfl ok228 rfl fun H => sem_run 9000 _ ?_
  have hsm := schF_small (n := n)
  have pa := predF_right (n := n) (l := l) (d := 3) (a := 0)
  have pb := predF_right (n := n) (l := l2) (d := 3) (a := 0)
  have fa := pred7 L.predl (s := schF n) (m := m) (l := l) hsm.2 hsm.1 (d := 3) (a := 0) (by omega) (by omega)
  have fb := pred7 L.predl (s := schF n) (m := m2) (l := l2) hsm.2 hsm.1 (d := 3) (a := 0) (by omega) (by omega)
  simp
  refine sem_fn (schema L.predl.law6) (by first | exact D.les_refl _ | simp) (sem_run 4 _ ?_)
  simp
  refine sem_box (ro := false) (b := H.next) (cs := [schR (schF n)]) 9 (by simp) (by simp) ?_
  refine sem_run 9000 _ ?_
  simp
  refine sem_dfn fa (by first | exact D.les_refl _ | simp [schD, D.les_refl]) (sem_run 9000 _ ?_)
  simp
  cases same
  · refine sem_dfn fb (by first | exact D.les_refl _ | simp [schD, D.les_refl]) (sem_run 15 _ ?_)
    simp
    obtain ⟨r, hr, fr⟩ := ref6_samePred L.samp 4 _ _ pa.1 pb.1
    have hdec : decide (toldN (schF n) (predF (schF n) l 3 0) = toldN (schF n) (predF (schF n) l2 3 0)) = r := by
      have hi := told_inj (schF_names (n := n)) 4 _ _ [] [] pa.1 pb.1 (.inl rfl) (.inl rfl)
      simp only [List.append_nil, and_true] at hi
      cases r with
      | true => have h := hr.1 rfl; rw [h]; simp
      | false =>
        rw [decide_eq_false_iff_not]
        intro h
        have := hr.2 (hi h)
        cases this
    refine sem_box (ro := false) (b := H.next + 1) (cs := (predF (schF n) l 3 0).c) 10 (by simp) (by simp) ?_
    refine sem_box (ro := false) (b := H.next + 1 + 1) (cs := (predF (schF n) l2 3 0).c) 11 (by simp) (by simp) ?_
    refine sem_run 9000 _ ?_
    simp
    refine sem_dfn (text_pred L.told schF_shorts pa.1.more (Nat.le_trans pa.2 (by decide))) (by first | exact D.les_refl _ | simp [schD, D.les_refl]) (sem_run 9000 _ ?_)
    simp
    refine sem_dfn (text_pred L.told schF_shorts pb.1.more (Nat.le_trans pb.2 (by decide))) (by first | exact D.les_refl _ | simp [schD, D.les_refl]) (sem_run 9000 _ ?_)
    simp
    refine sem_dfn fr (by first | exact D.les_refl _ | simp) (sem_run 9000 _ ?_)
    simp [neqs_dec, hdec]
    refine sem_dfn (text_pred L.told schF_shorts pa.1.more (Nat.le_trans pa.2 (by decide))) (by first | exact D.les_refl _ | simp [schD, D.les_refl]) (sem_run 9000 _ ?_)
    simp [toldN_some]
    refine sem_dfn L.awake (by first | exact D.les_refl _ | simp) (sem_run 9000 _ ?_)
    simp
    refine sem_ret ?_
    simp [M228]
    exact .le (by repeat (first | exact Sub.refl | apply Sub.new | refine Sub.put ?_ (by first | omega | (simp only [put_next, new_next]; omega)))) (D.le_refl _) (by simp)
  · refine sem_dfn fb (by first | exact D.les_refl _ | simp [schD, D.les_refl]) (sem_run 9000 _ ?_)
    simp
    refine sem_fn fa (by first | exact D.les_refl _ | simp [schD, D.les_refl]) (sem_run 3 _ ?_)
    simp
    obtain ⟨r, hr, fr⟩ := ref6_samePred L.samp 4 _ _ pa.1 pa.1
    have hrt : r = true := hr.2 rfl
    refine sem_box (ro := false) (b := H.next + 1) (cs := (predF (schF n) l 3 0).c) 10 (by simp) (by simp) ?_
    refine sem_box (ro := false) (b := H.next + 1 + 1) (cs := (predF (schF n) l 3 0).c) 11 (by simp) (by simp) ?_
    refine sem_run 9000 _ ?_
    simp
    refine sem_dfn (text_pred L.told schF_shorts pa.1.more (Nat.le_trans pa.2 (by decide))) (by first | exact D.les_refl _ | simp [schD, D.les_refl]) (sem_run 9000 _ ?_)
    simp
    refine sem_dfn (text_pred L.told schF_shorts pa.1.more (Nat.le_trans pa.2 (by decide))) (by first | exact D.les_refl _ | simp [schD, D.les_refl]) (sem_run 9000 _ ?_)
    simp
    refine sem_dfn fr (by first | exact D.les_refl _ | simp) (sem_run 9000 _ ?_)
    simp [neqs_dec, hrt]
    refine sem_dfn (text_pred L.told schF_shorts pa.1.more (Nat.le_trans pa.2 (by decide))) (by first | exact D.les_refl _ | simp [schD, D.les_refl]) (sem_run 9000 _ ?_)
    simp [toldN_some]
    refine sem_dfn L.awake (by first | exact D.les_refl _ | simp) (sem_run 9000 _ ?_)
    simp
    refine sem_ret ?_
    simp [M228]
    exact .le (by repeat (first | exact Sub.refl | apply Sub.new | refine Sub.put ?_ (by first | omega | (simp only [put_next, new_next]; omega)))) (D.le_refl _) (by simp)
end Go.Lib
end

section
namespace Go.Vm
open Go.RowKit
variable {P : Program}
theorem laid_below (hm : P.follows .mixedOrders = true) {p : Prog} (hp : Valid P p) {ext : Ext} (hrx : Rises ext) (hx : CallOk P p.env ext) (htab : p.env.tab = []) (hints : IntsOk P p.env.ints)
    {t : List (Nat × Blk)} {pls : List Place} {f n : Nat} (hen : entered P f = true) (hv : runsL p ext n f [] (laidH P.globals.size pls.length t) = true) {w : World} (hl : LaidW P (laidE P t pls fun _ => .int .i64 0) w t) :
    Calls P f #[] w fun e w' => e = .returned (.bool true) ∧ Below w.heap.size w w' := by
  unfold runsL at hv
  split at hv
  case h_2 => cases hv
  rename_i h' hc
  have hok : EnvOk P (laidE P t pls fun _ => .int .i64 0) p.env := ⟨fun _ => ⟨_, _, rfl⟩, laid_gl, (by rw [htab]; exact fun _ _ _ _ _ _ h => (by cases h)), hints⟩
  have hfr : Fresh (laidE P t pls fun _ => .int .i64 0) (laidH P.globals.size pls.length t).next h'.next := fun b h1 _ => laid_fr b h1
  have := call_ok hm hp hrx hx n (laidE P t pls fun _ => .int .i64 0) f [] _ (.bool true) h' w [] hc hok (laid_hr hl) hfr .nil
  rcases this with ⟨_, h2⟩ | ⟨u, ψ, w', h1, _⟩
  · refine h2.mono ?_
    rintro e w' ⟨u, ψ, rfl, r1, r2⟩
    cases r1
    exact ⟨rfl, r2.os, r2.tape, r2.output, r2.size, fun k hk => r2.kept k hk fun b pl hb => by rw [laid_ro hl] at hb; cases hb⟩
  · rw [callFunc_entered hen] at h1
    cases h1
end Go.Vm
end

section
namespace Go.Vm
open Go.RowKit
variable {P : Program}
def errCellT (t : Nat) : Blk → Bool
  | .cells [.iface u (.ptr _ 0)] true => Nat.beq u t
  | _ => false
theorem errCellT_ok {φ : Emb} {h : Hp} {w : World} (hr : HR φ h w) (hg : φ.glOk P) {g t : Nat} (hlt : g < P.globals.size) (hc : errCellT t (h.blk g) = true) :
    ∃ pl : Place, ∀ (ψ : Emb) (b : Nat), ψ.at_ b = some pl → BlkAt ψ w ⟨g, 0, 1⟩ (.cells [.iface t (.ptr b 0)] true) := by
  unfold errCellT at hc
  split at hc
  case h_2 => cases hc
  rename_i u b e
  rw [nbeq] at hc
  subst hc
  obtain ⟨pl, h1, h2⟩ := hr.lies g (by rw [e]; rfl)
  rw [e] at h2
  obtain ⟨x, h3⟩ := hg g hlt
  rw [h3] at h1
  cases h1
  obtain ⟨k1, c, e2, fz, k2, k3, k4⟩ := h2
  obtain ⟨v, k5, k6⟩ := k4 0 _ rfl
  cases k6 with
  | iface _ _ y k7 =>
    cases k7 with
    | ptr _ _ pl k8 =>
      refine ⟨pl, fun ψ b' hb => ⟨Nat.le_refl _, c, e2, fz, k2, ?_, fun i v hi => ?_⟩⟩
      · simp only [List.length_singleton] at k1
        show 0 + 1 ≤ c.size
        have : 0 + x ≤ c.size := k3
        omega
      · cases i with
        | zero => cases hi; exact ⟨_, k5, .iface _ _ _ (.ptr _ _ pl hb)⟩
        | succ i => simp at hi
def fullT (sg : SG) (t G : Nat) (m : Int) : List (Nat × Blk) := [(sg.pow, .whole (powL 20 1)), (sg.syn, .cells [.iface t (.ptr G 0)] true), (sg.rng, .cells [.iface t (.ptr (G + 1) 0)] true), (sg.max, .cells [.int .i64 m] true)]
def constT (sg : SG) (t : Nat) (l : List Nat) : Ext := fun f args h => cond (hasF f l) (cond (powCells (h.blk sg.pow)) (cond (errCellT t (h.blk sg.syn)) (cond (errCellT t (h.blk sg.rng)) (cond (intCell (h.blk sg.max)) (match args with
  | [] => some (.bool true, h)
  | _ => none) none) none) none) none) none
theorem constT_rises (sg : SG) (t : Nat) (l : List Nat) : Rises (constT sg t l) := by
  intro f args h v h' e
  unfold constT at e
  repeat (rw [cond_eq_ite] at e; split at e; case isFalse => cases e)
  split at e
  · cases e; exact Nat.le_refl _
  · cases e
theorem constT_ok (hm : P.follows .mixedOrders = true) {p : Prog} (hp : Valid P p) {ext : Ext} (hrx : Rises ext) (hx : CallOk P p.env ext) (htab : p.env.tab = []) (hints : IntsOk P p.env.ints) {n t : Nat} {sg : SG} (hsg : sg.ok P) {l : List Nat} {env : Env}
    (hl : ∀ f, f ∈ l → entered P f = true ∧ ∀ m, runsL p ext n f [] (laidH P.globals.size 2 (fullT sg t P.globals.size m)) = true) : CallOk P env (constT sg t l) := by
  intro φ f args h v h' w us hv ok hr hfr hargs
  unfold constT at hv
  rw [cond_eq_ite] at hv; split at hv
  case isFalse => cases hv
  rename_i hf
  rw [cond_eq_ite] at hv; split at hv
  case isFalse => cases hv
  rename_i hpc
  rw [cond_eq_ite] at hv; split at hv
  case isFalse => cases hv
  rename_i hsy
  rw [cond_eq_ite] at hv; split at hv
  case isFalse => cases hv
  rename_i hrg
  rw [cond_eq_ite] at hv; split at hv
  case isFalse => cases hv
  rename_i hmx
  obtain ⟨h1, h2⟩ := hl f (hasF_mem hf)
  split at hv
  case h_2 => cases hv
  cases hv
  cases hargs
  obtain ⟨o1, o2, o3, o4⟩ := hsg
  obtain ⟨e, fz, hh⟩ := powCells_ok hr ok.gl o4 hpc
  obtain ⟨pl1, q1⟩ := errCellT_ok hr ok.gl o2 hsy
  obtain ⟨pl2, q2⟩ := errCellT_ok hr ok.gl o3 hrg
  obtain ⟨m, q3⟩ := intCell_ok hr ok.gl o1 hmx
  refine .inl ⟨h1, (laid_below hm hp hrx hx htab hints (t := fullT sg t P.globals.size m) (pls := [pl1, pl2]) h1 (h2 m) (w := w) ?_).mono ?_⟩
  · intro g x hx
    have a1 : (laidE P (fullT sg t P.globals.size m) [pl1, pl2] fun _ => .int .i64 0).at_ P.globals.size = some pl1 := by
      show (if P.globals.size < P.globals.size then _ else _) = _
      rw [if_neg (by omega)]; simp
    have a2 : (laidE P (fullT sg t P.globals.size m) [pl1, pl2] fun _ => .int .i64 0).at_ (P.globals.size + 1) = some pl2 := by
      show (if P.globals.size + 1 < P.globals.size then _ else _) = _
      rw [if_neg (by omega)]; simp
    generalize laidE P (fullT sg t P.globals.size m) [pl1, pl2] (fun _ => .int .i64 0) = ψ at a1 a2
    simp only [fullT, tblAt, nbeq_d] at hx
    by_cases h1 : sg.pow = g
    · subst h1
      simp at hx
      subst hx
      exact ⟨o4, rfl, _, e, fz, hh, by simpa using powL_vr⟩
    · rw [show decide (sg.pow = g) = false from decide_eq_false h1] at hx
      by_cases h2 : sg.syn = g
      · subst h2
        simp at hx
        subst hx
        exact ⟨o2, rfl, q1 _ _ a1⟩
      · rw [show decide (sg.syn = g) = false from decide_eq_false h2] at hx
        by_cases h3 : sg.rng = g
        · subst h3
          simp at hx
          subst hx
          exact ⟨o3, rfl, q2 _ _ a2⟩
        · rw [show decide (sg.rng = g) = false from decide_eq_false h3] at hx
          by_cases h4 : sg.max = g
          · subst h4
            simp at hx
            subst hx
            exact ⟨o1, rfl, laid_int q3⟩
          · rw [show decide (sg.max = g) = false from decide_eq_false h4] at hx
            simp at hx
  · rintro e w' ⟨rfl, hb⟩
    exact ⟨_, φ, rfl, .bool true, .below hr hb⟩
end Go.Vm
end

section
namespace Go.Proofs.YtcoghkkhjaokmaaDoor.sa
def F0 (i : Nat) : Nat := ([0, 0, 0, 0, 0, 0, 78, 0, 0, 0, 0, 0, 0, 0, 0, 95, 0, 0, 0, 0, 0, 0, 0, 10, 0, 20, 0, 0, 0, 0, 0, 0, 0, 0, 0, 0, 0, 0, 0, 0, 0, 0, 0, 0, 0, 0, 0, 0, 7, 16, 23, 0, 0, 0, 0, 0, 0, 0, 0, 0, 0, 0, 0, 0, 0, 0, 0, 0, 0, 0, 0, 0, 0, 0, 0, 0, 0, 0, 0, 0, 0, 0, 0, 0, 0, 0, 0, 0, 0, 0, 0, 0, 0, 0, 0, 0, 0, 0, 0, 11, 0, 0, 0, 0, 0, 0, 0, 0, 0, 0, 0, 0, 0, 0, 0, 0, 0, 0, 0, 0, 0, 0, 0, 0, 0, 0, 0, 0, 0, 0, 0, 0, 0, 0, 0, 0, 0, 0, 0, 0, 0, 0, 0, 0, 0, 0, 0, 0, 0, 0, 0, 0, 0, 0, 0, 0, 0, 0, 0, 0, 0, 0, 0, 0, 0, 0, 0, 0, 0, 0, 0, 0, 0, 0, 0, 0, 0, 0, 0, 0, 0, 0, 0, 0, 0, 0, 0, 0, 0, 0, 0, 0, 0, 0, 0, 0, 0, 0, 0, 0, 36, 94, 53, 39, 32, 0, 47, 28, 27, 35, 33, 0, 12, 25, 21, 22, 29, 30, 45, 58, 34, 59, 3, 6, 8, 17, 18, 9, 4, 13, 14] : List Nat).getD i 0
end Go.Proofs.YtcoghkkhjaokmaaDoor.sa
end
