/- The expressions of layer 14 in plain Lean: the tree, and what reading a text comes to. No condition. -/
import Derived.WalkKit
set_option linter.unusedVariables false
set_option linter.unusedSimpArgs false
namespace Go.Proofs.Ytfgkcifkfokoiaa
namespace Ex

/-- An expression: its kind, its word, its kids. -/
inductive ET where
  | node (kind : Nat) (word : ByteArray) (kids : List ET)

/-- The byte at a place; 0 at the end. -/
def here (s : ByteArray) (i : Nat) : Nat := if h : i < s.size then (s[i]'h).toNat else 0

/-- The first place from i on at which p does not hold. -/
def run (p : Nat → Bool) (s : ByteArray) : Nat → Nat → Nat
  | 0, i => i
  | n + 1, i => if p (here s i) then run p s n (i + 1) else i
def isBlank (c : Nat) : Bool := c == 32
def wordly (c : Nat) : Bool := decide (97 ≤ c) && decide (c ≤ 122) || (decide (48 ≤ c) && decide (c ≤ 57) || c == 45)
def begins (c : Nat) : Bool := wordly c || c == 64 || c == 35 || c == 40
def blanksEnd (s : ByteArray) (i : Nat) : Nat := run isBlank s (s.size - i) i
def wordEnd (s : ByteArray) (i : Nat) : Nat := run wordly s (s.size - i) i

/-- What reading comes to: a value and the place behind it; or the place and the number of an error. -/
inductive R (α : Type) where
  | ok (a : α) (at_ : Nat)
  | bad (at_ code : Nat)

/-- A word at a place. -/
def word (s : ByteArray) (i : Nat) : R ByteArray := if wordEnd s i = i then .bad i 3 else .ok (s.extract i (wordEnd s i)) (wordEnd s i)
/-- Just these bytes. -/
def exact : List Nat → ByteArray → Nat → R Unit
  | [], _, i => .ok () i
  | c :: l, s, i => if here s i = c then exact l s (i + 1) else .bad i 3
def star? (c : Nat) : Nat := if c = 42 then 7 else if c = 43 then 8 else if c = 63 then 9 else 0
/-- The signs behind an atom. -/
def stars (s : ByteArray) : Nat → ET → Nat → ET × Nat
  | 0, e, i => (e, i)
  | n + 1, e, i => if star? (here s i) = 0 then (e, i) else stars s n (.node (star? (here s i)) ByteArray.empty [e]) (blanksEnd s (i + 1))
def kindOf (k : Nat) : Nat := if k = 0 then 5 else if k = 1 then 6 else 4
def row (k : Nat) (l : List ET) : ET := match l with | [e] => e | l => .node (kindOf k) ByteArray.empty l
/-- Is there one more part of level k? -/
def more (k c : Nat) : Bool := if k = 0 then c == 124 else if k = 1 then c == 38 else begins c
def text5 : List Nat := [35, 116, 101, 120, 116]

mutual
/-- Level 0: Alts, 1: Alls, 2: Seqs, 3: items. none: not enough rounds. -/
def lev (s : ByteArray) : Nat → Nat → Nat → Nat → Option (R ET)
  | 0, _, _, _ => none
  | f + 1, k, i, nest =>
    if k = 3 then
      match atom s f i nest with
      | some (.ok e j) => some (.ok (stars s (s.size - blanksEnd s j + 1) e (blanksEnd s j)).1 (stars s (s.size - blanksEnd s j + 1) e (blanksEnd s j)).2)
      | r => r
    else
      match kids s f k (if k = 2 then blanksEnd s i else i) nest with
      | some (.ok l j) => some (.ok (row k l) j)
      | some (.bad a c) => some (.bad a c)
      | none => none
def kids (s : ByteArray) : Nat → Nat → Nat → Nat → Option (R (List ET))
  | 0, _, _, _ => none
  | f + 1, k, i, nest =>
    match lev s f (k + 1) i nest with
    | some (.ok e j) =>
      if more k (here s j) then
        match kids s f k (if k = 2 then j else j + 1) nest with
        | some (.ok l m) => some (.ok (e :: l) m)
        | r => r
      else some (.ok [e] j)
    | some (.bad a c) => some (.bad a c)
    | none => none
def atom (s : ByteArray) : Nat → Nat → Nat → Option (R ET)
  | 0, _, _ => none
  | f + 1, i, nest =>
    if here s i = 64 then
      match word s (i + 1) with
      | .ok w j => some (.ok (.node 2 w []) j)
      | .bad a c => some (.bad a c)
    else if here s i = 35 then
      match exact text5 s i with
      | .ok _ j => some (.ok (.node 3 ByteArray.empty []) j)
      | .bad a c => some (.bad a c)
    else if here s i = 40 then
      if nest = 16 then some (.bad i 5)
      else if here s (blanksEnd s (i + 1)) = 41 then some (.ok (.node 0 ByteArray.empty []) (blanksEnd s (i + 1) + 1))
      else
        match lev s f 0 (blanksEnd s (i + 1)) (nest + 1) with
        | some (.ok e j) => if here s j = 41 then some (.ok e (j + 1)) else some (.bad j 3)
        | r => r
    else
      match word s i with
      | .ok w j => some (.ok (.node 1 w []) j)
      | .bad a c => some (.bad a c)
end

theorem here_lt {s : ByteArray} {i : Nat} (h : here s i ≠ 0) : i < s.size := by
  unfold here at h
  split at h
  · assumption
  · exact absurd rfl h
theorem here_byte (s : ByteArray) (i : Nat) : here s i < 256 := by
  unfold here
  split
  · exact (s[i]'(by assumption)).toNat_lt
  · omega

theorem run_ge (p : Nat → Bool) (s : ByteArray) : ∀ n i, i ≤ run p s n i
  | 0, i => Nat.le_refl i
  | n + 1, i => by unfold run; split; exact Nat.le_trans (Nat.le_succ i) (run_ge p s n (i + 1)); exact Nat.le_refl i
theorem run_le (p : Nat → Bool) (hp : p 0 = false) (s : ByteArray) : ∀ n i, i ≤ s.size → run p s n i ≤ s.size
  | 0, i, h => h
  | n + 1, i, h => by
    unfold run
    split
    · rename_i hh
      have : here s i ≠ 0 := fun e => by rw [e, hp] at hh; simp at hh
      exact run_le p hp s n (i + 1) (here_lt this)
    · exact h
/-- The end of a run, one place further on. -/
theorem run_step (p : Nat → Bool) (hp : p 0 = false) (s : ByteArray) (i : Nat) (h : p (here s i) = true) : run p s (s.size - i) i = run p s (s.size - (i + 1)) (i + 1) := by
  have : here s i ≠ 0 := fun e => by rw [e, hp] at h; simp at h
  have hlt := here_lt this
  obtain ⟨m, hm⟩ : ∃ m, s.size - i = m + 1 := ⟨s.size - i - 1, by omega⟩
  rw [hm, run, if_pos h, show s.size - (i + 1) = m from by omega]
theorem run_stop (p : Nat → Bool) (s : ByteArray) (n i : Nat) (h : p (here s i) = false) : run p s n i = i := by
  cases n with
  | zero => rfl
  | succ n => rw [run, if_neg (by simp [h])]
/-- At the end of a run p does not hold. -/
theorem run_end (p : Nat → Bool) (hp : p 0 = false) (s : ByteArray) : ∀ n i, s.size - i ≤ n → p (here s (run p s n i)) = false
  | 0, i, h => by
    have : here s i = 0 := by unfold here; rw [dif_neg (by omega)]
    rw [run, this, hp]
  | n + 1, i, h => by
    unfold run
    split
    · exact run_end p hp s n (i + 1) (by omega)
    · rename_i hh; simpa using hh
theorem blanksEnd_ge (s : ByteArray) (i : Nat) : i ≤ blanksEnd s i := run_ge _ _ _ _
theorem blanksEnd_le (s : ByteArray) (i : Nat) (h : i ≤ s.size) : blanksEnd s i ≤ s.size := run_le _ rfl _ _ _ h
theorem blanksEnd_step (s : ByteArray) (i : Nat) (h : here s i = 32) : blanksEnd s i = blanksEnd s (i + 1) := run_step _ rfl s i (by rw [h]; rfl)
theorem blanksEnd_stop (s : ByteArray) (i : Nat) (h : here s i ≠ 32) : blanksEnd s i = i := run_stop _ _ _ _ (by simpa [isBlank] using h)
theorem wordEnd_ge (s : ByteArray) (i : Nat) : i ≤ wordEnd s i := run_ge _ _ _ _
theorem wordEnd_le (s : ByteArray) (i : Nat) (h : i ≤ s.size) : wordEnd s i ≤ s.size := run_le _ rfl _ _ _ h
theorem wordEnd_step (s : ByteArray) (i : Nat) (h : wordly (here s i) = true) : wordEnd s i = wordEnd s (i + 1) := run_step _ rfl s i h
theorem wordEnd_stop (s : ByteArray) (i : Nat) (h : wordly (here s i) = false) : wordEnd s i = i := run_stop _ _ _ _ h
end Ex
end Go.Proofs.Ytfgkcifkfokoiaa
