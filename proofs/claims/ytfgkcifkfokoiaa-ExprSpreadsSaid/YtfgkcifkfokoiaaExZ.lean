/- Expressions without Alls, in plain Lean: the orders of up to four kids by numbers and by recursion are the same; bounds. No condition. -/
import Derived.Test.YtfgkcifkfokoiaaExT
set_option linter.unusedVariables false
set_option linter.unusedSimpArgs false
namespace Go.Proofs.Ytfgkcifkfokoiaa
namespace Ex
/-- The orders, as the program makes them. -/
def ord : Nat → List (List Nat)
  | 0 => [[]]
  | n + 1 => (List.range (n + 1)).flatMap fun a => (ord n).map fun r => a :: r.map fun k => if a ≤ k then k + 1 else k
/-- Digit i of a number of n digits to the base n, the greatest first. -/
def dig (n m i : Nat) : Nat := m / n ^ (n - 1 - i) % n
def digs (n m : Nat) : List Nat := (List.range n).map (dig n m)
def nodup : List Nat → Bool
  | [] => true
  | a :: l => !l.contains a && nodup l
/-- The orders, as the reference makes them. -/
def ordR (n : Nat) : List (List Nat) := ((List.range (n ^ n)).map (digs n)).filter nodup
theorem ord_eq : ∀ n, n ≤ 4 → ord n = ordR n := by decide +kernel
theorem ord_small : ∀ n, n ≤ 4 → (ord n).length ≤ 24 ∧ ∀ o ∈ ord n, o.length = n ∧ ∀ k ∈ o, k < n := by decide +kernel
/-- Those of these numbers. -/
def sel {α : Type} (ks : List α) (o : List Nat) : List α := o.filterMap (ks[·]?)
theorem sel_len {α : Type} (ks : List α) : ∀ (o : List Nat), (∀ k ∈ o, k < ks.length) → (sel ks o).length = o.length
  | [], _ => rfl
  | k :: o, h => by
    have h1 : k < ks.length := h k (by simp)
    have h2 := sel_len ks o (fun k hk => h k (by simp [hk]))
    unfold sel at h2 ⊢
    rw [List.filterMap_cons, List.getElem?_eq_getElem h1]
    simp only [List.length_cons, h2]
theorem sel_snoc {α : Type} (ks : List α) (o : List Nat) (k : Nat) (x : α) (h : ks[k]? = some x) : sel ks (o ++ [k]) = sel ks o ++ [x] := by
  unfold sel
  rw [List.filterMap_append]
  simp [h]
def allOf (ks : List ET) : ET := .node 5 ByteArray.empty ((ord ks.length).map fun o => .node 4 ByteArray.empty (sel ks o))
def chk (t : ET) : Option ET := if 4096 < cnt t then none else some t
def spdK (k : Nat) (wd : ByteArray) (ks : List ET) : Option ET := if k = 6 then (if 4 < ks.length then none else chk (allOf ks)) else chk (.node k wd ks)
mutual
/-- Without Alls; none: too big. -/
def spd : ET → Option ET
  | .node k wd l => match spdL l with
    | none => none
    | some ks => spdK k wd ks
def spdL : List ET → Option (List ET)
  | [] => some []
  | e :: l => match spd e with
    | none => none
    | some x => match spdL l with
      | none => none
      | some xs => some (x :: xs)
end
theorem chk_cnt {t x : ET} (h : chk t = some x) : x = t ∧ cnt x ≤ 4096 := by
  unfold chk at h
  split at h
  · cases h
  · cases h; exact ⟨rfl, by omega⟩
theorem spd_cnt : ∀ {e x : ET}, spd e = some x → cnt x ≤ 4096
  | .node k wd l, x, h => by
    rw [spd] at h
    cases hl : spdL l with
    | none => rw [hl] at h; cases h
    | some ks =>
      rw [hl] at h
      simp only [spdK] at h
      split at h
      · split at h
        · cases h
        · exact (chk_cnt h).2
      · exact (chk_cnt h).2
theorem spdL_cnt : ∀ {l xs : List ET}, spdL l = some xs → xs.length = l.length ∧ cntL xs ≤ 4096 * l.length
  | [], xs, h => by simp only [spdL, Option.some.injEq] at h; subst h; simp [cntL]
  | e :: l, xs, h => by
    rw [spdL] at h
    cases he : spd e with
    | none => rw [he] at h; cases h
    | some x =>
      rw [he] at h
      cases hl : spdL l with
      | none => rw [hl] at h; cases h
      | some ys =>
        rw [hl] at h
        simp only [Option.some.injEq] at h
        subst h
        have h1 := spd_cnt he
        obtain ⟨h2, h3⟩ := spdL_cnt hl
        simp only [List.length_cons, cntL]
        omega
/-- One kid more has been spread. -/
theorem spdL_take : ∀ (l : List ET) (k : Nat) (e : ET) (xs : List ET), l[k]? = some e → spdL (l.take k) = some xs → spdL (l.take (k + 1)) = (spd e).map fun x => xs ++ [x]
  | [], k, e, xs, h, _ => by simp at h
  | y :: l, 0, e, xs, h, hx => by
    simp at h
    subst h
    simp only [List.take_zero, spdL, Option.some.injEq] at hx
    subst hx
    simp only [List.take_succ_cons, List.take_zero, spdL]
    cases spd y <;> rfl
  | y :: l, k + 1, e, xs, h, hx => by
    simp only [List.take_succ_cons, spdL] at hx ⊢
    cases hy : spd y with
    | none => rw [hy] at hx; cases hx
    | some z =>
      rw [hy] at hx
      cases hl : spdL (l.take k) with
      | none => rw [hl] at hx; cases hx
      | some ys =>
        rw [hl] at hx
        simp only [Option.some.injEq] at hx
        subst hx
        have := spdL_take l k e ys (by simpa using h) hl
        simp only [this]
        cases spd e <;> simp
/-- If one kid is too big, all are. -/
theorem spdL_none : ∀ (l : List ET) (k : Nat), spdL (l.take k) = none → spdL l = none
  | [], k, h => by simp [spdL] at h
  | y :: l, 0, h => by simp [spdL] at h
  | y :: l, k + 1, h => by
    simp only [List.take_succ_cons, spdL] at h ⊢
    cases hy : spd y with
    | none => rfl
    | some z =>
      rw [hy] at h
      cases hl : spdL (l.take k) with
      | none => rw [spdL_none l k hl]
      | some ys => rw [hl] at h; cases h
theorem cntL_append : ∀ (a b : List ET), cntL (a ++ b) = cntL a + cntL b
  | [], b => by simp [cntL]
  | x :: a, b => by simp only [List.cons_append, cntL, cntL_append a b]; omega
theorem cntL_bound (m : Nat) : ∀ (l : List ET), (∀ e ∈ l, cnt e ≤ m) → cntL l ≤ m * l.length
  | [], _ => by simp [cntL]
  | x :: l, h => by
    have h1 := h x (by simp)
    have h2 := cntL_bound m l (fun e he => h e (by simp [he]))
    simp only [cntL, List.length_cons, Nat.mul_add, Nat.mul_one]
    omega
theorem cntL_mem {l : List ET} {e : ET} (h : e ∈ l) : cnt e ≤ cntL l := by
  induction l with
  | nil => simp at h
  | cons x l ih =>
    simp only [cntL]
    rcases List.mem_cons.1 h with h | h
    · rw [h]; omega
    · have := ih h; omega
theorem sel_mem {α : Type} {ks : List α} {o : List Nat} {x : α} (h : x ∈ sel ks o) : x ∈ ks := by
  unfold sel at h
  obtain ⟨k, -, hk⟩ := List.mem_filterMap.1 h
  exact List.mem_of_getElem? hk
/-- The rows of up to four kids are not too many. -/
theorem all_cnt {ks : List ET} {B : Nat} (h4 : ks.length ≤ 4) (hc : ∀ e ∈ ks, cnt e ≤ B) : cnt (allOf ks) ≤ 24 * (4 * B + 1) + 1 := by
  unfold allOf
  simp only [cnt]
  obtain ⟨h1, h2⟩ := ord_small _ h4
  have h3 := cntL_bound (4 * B + 1) ((ord ks.length).map fun o => .node 4 ByteArray.empty (sel ks o)) (by
    intro e he
    obtain ⟨o, ho, rfl⟩ := List.mem_map.1 he
    obtain ⟨h5, h6⟩ := h2 o ho
    have h7 := cntL_bound B (sel ks o) (fun e he => hc e (sel_mem he))
    rw [sel_len ks o (fun k hk => h6 k hk), h5] at h7
    have h8 : B * ks.length ≤ B * 4 := Nat.mul_le_mul_left _ h4
    simp only [cnt]
    omega)
  rw [List.length_map] at h3
  have h9 : (4 * B + 1) * (ord ks.length).length ≤ (4 * B + 1) * 24 := Nat.mul_le_mul_left _ h1
  omega
end Ex
end Go.Proofs.Ytfgkcifkfokoiaa
