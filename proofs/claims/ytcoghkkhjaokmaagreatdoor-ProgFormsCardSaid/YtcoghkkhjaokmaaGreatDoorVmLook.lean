/-
  Vm, part 2b: which slots an operation looks at.
-/
import Derived.Test.YtcoghkkhjaokmaaGreatDoorVmExec
namespace Go.Vm

def tmpO : Opd → List Nat
  | .tmp t => [t]
  | .val _ => []

def tmpsL : List Opd → List Nat
  | [] => []
  | x :: l => tmpO x ++ tmpsL l

def tmpOo : Option Opd → List Nat
  | none => []
  | some x => tmpO x

def tmpsP : List (Nat × Nat × Opd) → List Nat
  | [] => []
  | (_, _, x) :: l => tmpO x ++ tmpsP l

def POp.tmps : POp → List Nat
  | .mov x | .nilchk x | .neg x | .not x | .compl x | .conv _ x | .mkiface _ x | .faddr _ x | .field1 _ x | .fieldn _ _ x | .ext x _ | .lens x | .lenb x | .caps x => tmpO x
  | .pick c a b => tmpO c ++ (tmpO a ++ tmpO b)
  | .build _ parts => tmpsP parts
  | .bin _ x y | .eq _ _ x y | .eqi _ _ x y | .iaddr _ x y | .iaddra _ _ x y | .idxs x y | .idx1 _ x y | .idxn _ _ x y => tmpO x ++ tmpO y
  | .mkfunc _ a b => tmpsL a ++ tmpsL b
  | .slc _ x a b c | .sla _ _ x a b c => tmpO x ++ (tmpOo a ++ (tmpOo b ++ tmpOo c))
  | .sls x a b => tmpO x ++ (tmpOo a ++ tmpOo b)
  | .lena _ => []
  | .min l | .max l => tmpsL l

def AOp.tmps : AOp → List Nat
  | .new _ | .mkmap _ => []
  | .box x | .bytes x => tmpO x
  | .bslice _ _ _ parts => tmpsP parts
  | .mkslice _ _ _ x y => tmpO x ++ tmpO y

def EOp.tmps : EOp → List Nat
  | .store _ x y | .append _ _ x y | .appendz _ _ _ x y | .copy _ x y | .lookup _ _ _ x y | .delete _ x y => tmpO x ++ tmpO y
  | .call _ l | .extern _ l => tmpsL l
  | .callv x l => tmpO x ++ tmpsL l
  | .clear _ x | .text x | .lenm x | .mark x => tmpO x
  | .mapput _ x y z => tmpO x ++ (tmpO y ++ tmpO z)
  | .stop => []

def MOp.tmps : MOp → List Nat
  | .p o => o.tmps
  | .a o => o.tmps
  | .load1 x => tmpO x
  | .loadn _ x => tmpO x
  | .e o => o.tmps

def gtmps : Option (Nat × Bool) → List Nat
  | none => []
  | some (t, _) => [t]

def MO.looks (m : MO) : List Nat := gtmps m.guard ++ m.op.tmps

def Agree (l : List Nat) (fr fr' : Fr) : Prop := ∀ t, t ∈ l → ev fr (.tmp t) = ev fr' (.tmp t)

theorem Agree.left {l r : List Nat} {fr fr' : Fr} (h : Agree (l ++ r) fr fr') : Agree l fr fr' := fun t ht => h t (List.mem_append_left _ ht)
theorem Agree.right {l r : List Nat} {fr fr' : Fr} (h : Agree (l ++ r) fr fr') : Agree r fr fr' := fun t ht => h t (List.mem_append_right _ ht)

theorem ev_agree {fr fr' : Fr} : ∀ {x : Opd}, Agree (tmpO x) fr fr' → ev fr x = ev fr' x
  | .tmp t, h => h t (List.mem_singleton.2 rfl)
  | .val _, _ => rfl

theorem evs_agree {fr fr' : Fr} : ∀ {l : List Opd}, Agree (tmpsL l) fr fr' → evs fr l = evs fr' l
  | [], _ => rfl
  | x :: l, h => by
    have h : Agree (tmpO x ++ tmpsL l) fr fr' := h
    simp only [evs, ev_agree h.left, evs_agree h.right]

theorem evo_agree {fr fr' : Fr} : ∀ {x : Option Opd}, Agree (tmpOo x) fr fr' → evo fr x = evo fr' x
  | none, _ => rfl
  | some x, h => congrArg some (ev_agree (x := x) h)

theorem evParts_agree {fr fr' : Fr} : ∀ {l : List (Nat × Nat × Opd)}, Agree (tmpsP l) fr fr' → evParts fr l = evParts fr' l
  | [], _ => rfl
  | (o, n, x) :: l, h => by
    have h : Agree (tmpO x ++ tmpsP l) fr fr' := h
    simp only [evParts, ev_agree h.left, evParts_agree h.right]

theorem pV_agree {env : Env} {fr fr' : Fr} {p : POp} (h : Agree p.tmps fr fr') : pV env fr p = pV env fr' p := by
  cases p <;> simp only [POp.tmps] at h <;> simp only [pV]
  case build z parts => rw [evParts_agree h]
  case min l => rw [evs_agree h]
  case max l => rw [evs_agree h]
  case mkfunc f a b => rw [evs_agree h.left, evs_agree h.right]
  case pick c a b => rw [ev_agree h.left, ev_agree h.right.left, ev_agree h.right.right]
  case slc sz x a b c => rw [ev_agree h.left, evo_agree h.right.left, evo_agree h.right.right.left, evo_agree h.right.right.right]
  case sla n sz x a b c => rw [ev_agree h.left, evo_agree h.right.left, evo_agree h.right.right.left, evo_agree h.right.right.right]
  case sls x a b => rw [ev_agree h.left, evo_agree h.right.left, evo_agree h.right.right]
  all_goals first
    | done
    | rw [ev_agree h]
    | rw [ev_agree h.left, ev_agree h.right]

theorem aV_agree {fr fr' : Fr} {p : AOp} (h : Agree p.tmps fr fr') : aV fr p = aV fr' p := by
  cases p <;> simp only [AOp.tmps] at h <;> simp only [aV]
  case box x => rw [ev_agree h]
  case bytes x => rw [ev_agree h]
  case bslice z sz len parts => rw [evParts_agree h]
  case mkslice z sz b x y => rw [ev_agree h.left, ev_agree h.right]

theorem eV_agree {call : Nat → List V → Hp → Option (V × Hp)} {hp : Hp} {fr fr' : Fr} {p : EOp} (h : Agree p.tmps fr fr') : eV call fr hp p = eV call fr' hp p := by
  cases p <;> simp only [EOp.tmps] at h <;> simp only [eV]
  case call f l => rw [evs_agree h]
  case extern f l => rw [evs_agree h]
  case callv x l => rw [ev_agree h.left, evs_agree h.right]
  case mapput sk x y z => rw [ev_agree h.left, ev_agree h.right.left, ev_agree h.right.right]
  all_goals first
    | rw [ev_agree h]
    | rw [ev_agree h.left, ev_agree h.right]

theorem opV_agree {env : Env} {call : Nat → List V → Hp → Option (V × Hp)} {hp : Hp} {fr fr' : Fr} {m : MOp} (h : Agree m.tmps fr fr') : opV env call fr hp m = opV env call fr' hp m := by
  cases m <;> simp only [MOp.tmps] at h <;> simp only [opV]
  case p o => rw [pV_agree h]
  case a o => rw [aV_agree h]
  case load1 x => rw [ev_agree h]
  case loadn n x => rw [ev_agree h]
  case e o => exact eV_agree h

theorem gate_agree {fr fr' : Fr} {g : Option (Nat × Bool)} (h : Agree (gtmps g) fr fr') : gate fr g = gate fr' g := by
  cases g with
  | none => rfl
  | some p =>
    obtain ⟨t, w⟩ := p
    simp only [gate]
    rw [show ev fr (.tmp t) = ev fr' (.tmp t) from h t (List.mem_singleton.2 rfl)]

end Go.Vm
