/-
  Vm, part 29: functions of the library that have no text.
-/
import Derived.Test.YtcoghkkhjaokmaaGreatDoorVmTop
import Derived.Laws.Externs
namespace Go.Vm

variable {P : Program}

inductive Ek where
  | add64
  | cmp

def cmpL : List Nat → List Nat → Int
  | [], [] => .ofNat 0
  | [], _ :: _ => .negSucc 0
  | _ :: _, [] => .ofNat 1
  | a :: x, b :: y => cond (Nat.blt a b) (.negSucc 0) (cond (Nat.blt b a) (.ofNat 1) (cmpL x y))

/-- The bytes behind a slice. -/
def bytesV (h : Hp) : V → Option (List Nat)
  | .nilslice => some []
  | .slice b o sz len _ _ => cond (Nat.beq sz 1) (match h.read b o len with
    | some l => eV.bytesOf l
    | none => none) none
  | _ => none

def extV (k : Ek) (args : List V) (h : Hp) : Option (V × Hp) :=
  match k with
  | .add64 => match args with
    | [.int .u64 (.ofNat x), .int .u64 (.ofNat y), .int .u64 (.ofNat c)] => cond (Nat.ble c 1)
        (some (.tup [.int .u64 (.ofNat (Nat.mod (Nat.add (Nat.add x y) c) 18446744073709551616)), .int .u64 (.ofNat (Nat.div (Nat.add (Nat.add x y) c) 18446744073709551616))], h)) none
    | _ => none
  | .cmp => match args with
    | [a, b] => match bytesV h a, bytesV h b with
      | some x, some y => some (.int .i64 (cmpL x y), h)
      | _, _ => none
    | _ => none

def extBy : List (Nat × Ek) → Ext
  | [], _, _, _ => none
  | (g, k) :: l, f, args, h => cond (Nat.beq g f) (extV k args h) (extBy l f args h)

def add64S (args : Array Value) : Sem Value := do
  let (x, y, c) ← Extern.MathBitsCarry.three "Add64" args
  pure (Extern.MathBitsCarry.pair ((x + y + c) % Extern.MathBitsCarry.m64) ((x + y + c) / Extern.MathBitsCarry.m64))

def extS : Ek → Array Value → Sem Value
  | .add64 => add64S
  | .cmp => Extern.BytealgCompare.compare

def IsExt (P : Program) (x : Nat × Ek) : Prop := ∃ fn, P.funcs[x.1]? = some fn ∧ (fn.name == "runtime.NumGoroutine") = false ∧ fn.body.isNone = true ∧ Extern.findNext fn = none ∧ Extern.find fn = some (extS x.2)

/-! ### Bytes -/

theorem loadBytes_ok {w : World} {k : Nat} : ∀ (s : List Nat) (o : Nat) (us : List Value) (acc : ByteArray), us = s.map (fun n => Value.int .u8 (.ofNat n)) → w.rangeAt k o us →
    (Extern.Bytes.loadBytes ⟨k, o, none⟩ s.length acc).run P w = .ok ⟨acc.data ++ (s.map Nat.toUInt8).toArray⟩ w
  | [], o, us, acc, _, _ => by simp [Extern.Bytes.loadBytes]
  | n :: s, o, us, acc, hu, hr => by
    subst hu
    have h0 := hr 0 (.int .u8 (.ofNat n)) rfl
    rw [Nat.add_zero] at h0
    have hadd : (⟨k, o, none⟩ : Addr).add 1 = ⟨k, o + 1, none⟩ := rfl
    have ih := loadBytes_ok s (o + 1) _ (acc.push n.toUInt8) rfl (fun j v hv => by
      have := hr (j + 1) v hv
      rwa [show o + (j + 1) = o + 1 + j by omega] at this)
    simp only [List.length_cons, Extern.Bytes.loadBytes, Sem.run_bind, run_load, h0, Result.andThen_ok, hadd]
    have e : (Int.ofNat n).toNat.toUInt8 = n.toUInt8 := rfl
    rw [e, ih]
    congr 2
    simp [ByteArray.push]

theorem bytesOf_spec {φ : Emb} : ∀ {l : List V} {s : List Nat} {us : List Value}, eV.bytesOf l = some s → VRs φ l us → us = s.map (fun n => Value.int .u8 (.ofNat n)) ∧ ∀ n, n ∈ s → n < 256
  | [], s, us, h, hr => by
    simp only [eV.bytesOf, Option.some.injEq] at h
    subst h
    cases hr
    exact ⟨rfl, fun _ h => by cases h⟩
  | v :: l, s, us, h, hr => by
    unfold eV.bytesOf at h
    split at h
    · rename_i e; cases e
    · rename_i n l' e
      cases e
      rw [cond_eq_ite] at h; split at h
      case isFalse => cases h
      rename_i hn
      split at h
      case h_2 => cases h
      rename_i r hr'
      cases h
      cases hr with | cons _ u _ us' k1 k2 =>
      cases k1
      obtain ⟨e1, e2⟩ := bytesOf_spec hr' k2
      refine ⟨by rw [e1]; rfl, fun m hm => ?_⟩
      rcases List.mem_cons.1 hm with rfl | hm
      · exact nblt.1 hn
      · exact e2 m hm
    · cases h

theorem bytesV_ok {φ : Emb} {h : Hp} {w : World} (hr : HR φ h w) {v : V} {u : Value} (hv : VR φ v u) {s : List Nat} (hs : bytesV h v = some s) :
    (Extern.Bytes.bytesOf u).run P w = .ok ⟨(s.map Nat.toUInt8).toArray⟩ w ∧ ∀ n, n ∈ s → n < 256 := by
  cases v <;> simp only [bytesV, reduceCtorEq] at hs
  case nilslice =>
    cases hv
    cases hs
    exact ⟨rfl, fun _ h => by cases h⟩
  case slice b o sz len c ex =>
    cases hv with | slice _ _ _ _ _ _ ad cc h0 h1 h2 h3 =>
    rw [cond_eq_ite] at hs; split at hs
    case isFalse => cases hs
    split at hs
    case h_2 => cases hs
    rename_i l hl
    obtain ⟨pl, us, r1, r2, r3, r4⟩ := hr.read hl
    obtain ⟨e1, e2⟩ := bytesOf_spec hs r3
    refine ⟨?_, e2⟩
    simp only [Extern.Bytes.bytesOf]
    have hlen : s.length = len := by
      have := r3.length
      rw [e1, List.length_map] at this
      omega
    rcases Nat.eq_zero_or_pos cc with z | z
    · have : len = 0 := by omega
      rw [this] at hlen
      have : s = [] := List.length_eq_zero_iff.1 hlen
      subst this
      rw [show len = 0 by omega]
      rfl
    · obtain ⟨pl', k1, k2, _⟩ := h0 z
      rw [r1] at k1; cases k1
      rw [k2, ← hlen]
      have := loadBytes_ok (P := P) s (pl.base + o) us .empty e1 r4
      rw [this]
      rw [show ByteArray.empty.data = #[] from rfl]
      simp

theorem get_bytes (s : List Nat) {i : Nat} (h : i < s.length) : (ByteArray.mk (s.map Nat.toUInt8).toArray)[i]! = (s[i]).toUInt8 := by
  have : i < (ByteArray.mk (s.map Nat.toUInt8).toArray).size := by
    show i < (s.map Nat.toUInt8).toArray.size
    simpa using h
  rw [getElem!_pos (ByteArray.mk (s.map Nat.toUInt8).toArray) i this]
  show (s.map Nat.toUInt8).toArray[i] = _
  simp

theorem u8_inj {a b : Nat} (ha : a < 256) (hb : b < 256) : (a.toUInt8 = b.toUInt8) ↔ a = b := by
  constructor
  · intro h
    have := congrArg UInt8.toNat h
    simp at this
    omega
  · rintro rfl; rfl

theorem u8_lt {a b : Nat} (ha : a < 256) (hb : b < 256) : (a.toUInt8 < b.toUInt8) ↔ a < b := by
  rw [UInt8.lt_iff_toNat_lt]
  simp
  omega

theorem cmpL_same : ∀ {x y : List Nat}, (∀ j, j < min x.length y.length → x[j]? = y[j]?) → cmpL x y = if x.length < y.length then .negSucc 0 else if x.length > y.length then .ofNat 1 else .ofNat 0
  | [], [], _ => rfl
  | [], b :: y, _ => by simp [cmpL]
  | a :: x, [], _ => by simp [cmpL]
  | a :: x, b :: y, h => by
    have h0 := h 0 (by simp)
    simp at h0
    subst h0
    simp only [cmpL]
    have : Nat.blt a a = false := by
      cases e : Nat.blt a a with
      | false => rfl
      | true => rw [nblt] at e; omega
    rw [this]
    simp only [cond_false]
    rw [cmpL_same (x := x) (y := y) fun j hj => by
      have := h (j + 1) (by simp; omega)
      simpa using this]
    simp

theorem cmpL_diff : ∀ {i : Nat} {x y : List Nat}, i < x.length → i < y.length → (∀ j, j < i → x[j]? = y[j]?) → x[i]? ≠ y[i]? → cmpL x y = if x.getD i 0 < y.getD i 0 then .negSucc 0 else .ofNat 1
  | _, [], _, h, _, _, _ => by simp at h
  | _, _ :: _, [], _, h, _, _ => by simp at h
  | 0, a :: x, b :: y, _, _, _, h => by
    simp at h
    simp only [cmpL, List.getD_cons_zero]
    by_cases k : a < b
    · rw [nblt.2 k]; simp [k]
    · have e1 : Nat.blt a b = false := by
        cases e : Nat.blt a b with
        | false => rfl
        | true => rw [nblt] at e; omega
      have e2 : Nat.blt b a = true := nblt.2 (by omega)
      rw [e1, e2]
      simp [k]
  | i + 1, a :: x, b :: y, h1, h2, h3, h4 => by
    have h0 := h3 0 (by omega)
    simp at h0
    subst h0
    simp only [cmpL, List.getD_cons_succ]
    have : Nat.blt a a = false := by
      cases e : Nat.blt a a with
      | false => rfl
      | true => rw [nblt] at e; omega
    rw [this]
    simp only [cond_false]
    exact cmpL_diff (by simpa using h1) (by simpa using h2) (fun j hj => by have := h3 (j + 1) (by omega); simpa using this) (by simpa using h4)

theorem cmp_ok {x y : List Nat} (hx : ∀ n, n ∈ x → n < 256) (hy : ∀ n, n ∈ y → n < 256) : Extern.BytealgCompare.cmp ⟨(x.map Nat.toUInt8).toArray⟩ ⟨(y.map Nat.toUInt8).toArray⟩ = cmpL x y := by
  have sx : (ByteArray.mk (x.map Nat.toUInt8).toArray).size = x.length := by show (x.map Nat.toUInt8).toArray.size = _; simp
  have sy : (ByteArray.mk (y.map Nat.toUInt8).toArray).size = y.length := by show (y.map Nat.toUInt8).toArray.size = _; simp
  have key : ∀ i (h1 : i < x.length) (h2 : i < y.length), ((ByteArray.mk (x.map Nat.toUInt8).toArray)[i]! != (ByteArray.mk (y.map Nat.toUInt8).toArray)[i]!) = true ↔ x[i]? ≠ y[i]? := by
    intro i h1 h2
    rw [get_bytes x h1, get_bytes y h2, bne_iff_ne, ne_eq, u8_inj (hx _ (List.getElem_mem h1)) (hy _ (List.getElem_mem h2))]
    simp [h1, h2]
  unfold Extern.BytealgCompare.cmp
  rw [sx, sy]
  split
  · rename_i i hi
    rw [List.find?_range_eq_some] at hi
    obtain ⟨k1, k2, k3⟩ := hi
    have hlt : i < min x.length y.length := by simpa using k2
    have h1 : i < x.length := by omega
    have h2 : i < y.length := by omega
    rw [cmpL_diff h1 h2 (fun j hj => by
      have := k3 j hj
      have h3 := key j (by omega) (by omega)
      by_cases e : x[j]? = y[j]?
      · exact e
      · rw [h3.2 e] at this; cases this) ((key i h1 h2).1 k1)]
    rw [get_bytes x h1, get_bytes y h2]
    have := u8_lt (hx _ (List.getElem_mem h1)) (hy _ (List.getElem_mem h2))
    simp only [this, List.getD, List.getElem?_eq_getElem h1, List.getElem?_eq_getElem h2, Option.getD_some]
    rfl
  · rename_i hi
    rw [List.find?_range_eq_none] at hi
    rw [cmpL_same fun j hj => by
      have := hi j hj
      have h3 := key j (by omega) (by omega)
      by_cases e : x[j]? = y[j]?
      · exact e
      · rw [h3.2 e] at this; cases this]
    rfl

theorem ext_one {x : Nat × Ek} (hx : IsExt P x) {φ : Emb} {args : List V} {h h' : Hp} {v : V} {w : World} {us : List Value} (hv : extV x.2 args h = some (v, h')) (hr : HR φ h w) (hargs : VRs φ args us) :
    CallSim P φ x.1 us h w v h' := by
  obtain ⟨fn, hf, hn, hb, hnx, hfd⟩ := hx
  right
  have hrun := run_callFunc_extern hf hn hb hnx hfd us.toArray w
  obtain ⟨f, k⟩ := x
  cases k with
  | add64 =>
    simp only [extV] at hv
    split at hv
    case h_2 => cases hv
    rename_i a b c
    rw [cond_eq_ite] at hv; split at hv
    case isFalse => cases hv
    rename_i hc
    rw [nble] at hc
    cases hv
    cases hargs with | cons _ u1 _ _ r1 hargs =>
    cases hargs with | cons _ u2 _ _ r2 hargs =>
    cases hargs with | cons _ u3 _ _ r3 hargs =>
    cases hargs
    cases r1
    cases r2
    cases r3
    refine ⟨_, φ, w, ?_, .tup _ _ (.cons _ _ _ _ (.int _ _) (.cons _ _ _ _ (.int _ _) .nil)), .refl hr⟩
    rw [hrun]
    have hc' : ¬ (Int.ofNat c).toNat > 1 := by simp; omega
    have he : extS .add64 #[.int .u64 (.ofNat a), .int .u64 (.ofNat b), .int .u64 (.ofNat c)] = (do
        let p ← (do
          if (Int.ofNat c).toNat > 1 then (unsupported (.noEntry ("extern/math/bits." ++ "Add64" ++ ": a carry that is neither 0 nor 1")) : Sem Unit)
          pure ((Int.ofNat a).toNat, (Int.ofNat b).toNat, (Int.ofNat c).toNat) : Sem (Nat × Nat × Nat))
        pure (Extern.MathBitsCarry.pair ((p.1 + p.2.1 + p.2.2) % Extern.MathBitsCarry.m64) ((p.1 + p.2.1 + p.2.2) / Extern.MathBitsCarry.m64))) := rfl
    show ((extS .add64 #[.int .u64 (.ofNat a), .int .u64 (.ofNat b), .int .u64 (.ofNat c)]).run P w).andThen _ = _
    rw [he, if_neg hc']
    rfl
  | cmp =>
    simp only [extV] at hv
    split at hv
    case h_2 => cases hv
    rename_i a b
    split at hv
    case h_2 => cases hv
    rename_i x y h1 h2
    cases hv
    cases hargs with | cons _ u1 _ _ r1 hargs =>
    cases hargs with | cons _ u2 _ _ r2 hargs =>
    cases hargs
    obtain ⟨b1, c1⟩ := bytesV_ok (P := P) hr r1 h1
    obtain ⟨b2, c2⟩ := bytesV_ok (P := P) hr r2 h2
    refine ⟨_, φ, w, ?_, .int _ _, .refl hr⟩
    rw [hrun]
    have he : extS .cmp #[u1, u2] = (do
        let p ← Extern.Bytes.bytesOf u1
        let q ← Extern.Bytes.bytesOf u2
        pure (goInt (Extern.BytealgCompare.cmp p q))) := rfl
    show ((extS .cmp #[u1, u2]).run P w).andThen _ = _
    rw [he]
    simp only [Sem.run_bind, b1, b2, Result.andThen_ok, Sem.run_pure, cmp_ok c1 c2, goInt]

theorem extBy_rises (l : List (Nat × Ek)) : Rises (extBy l) := by
  intro f args h v h' e
  induction l with
  | nil => cases e
  | cons x l ih =>
    obtain ⟨g, k⟩ := x
    simp only [extBy] at e
    rw [cond_eq_ite] at e; split at e
    · cases k <;> simp only [extV] at e
      all_goals
        repeat' (first | (cases e; done) | (rw [cond_eq_ite] at e; split at e) | split at e)
        all_goals (cases e; exact Nat.le_refl _)
    · exact ih e

theorem extBy_ok {env : Env} {l : List (Nat × Ek)} (hl : ∀ x, x ∈ l → IsExt P x) : CallOk P env (extBy l) := by
  intro φ f args h v h' w us hv _ hr _ hargs
  induction l with
  | nil => cases hv
  | cons x l ih =>
    obtain ⟨g, k⟩ := x
    simp only [extBy] at hv
    rw [cond_eq_ite] at hv; split at hv
    · rename_i e
      rw [nbeq] at e
      subst e
      exact ext_one (hl _ List.mem_cons_self) hv hr hargs
    · exact ih (fun x hx => hl x (List.mem_cons_of_mem _ hx)) hv

end Go.Vm
