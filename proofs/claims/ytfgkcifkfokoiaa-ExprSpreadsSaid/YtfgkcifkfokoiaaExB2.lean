/- Of what a text comes to: bounds on the expression, the number of an error; Parse in one form for both. -/
import Derived.Test.YtfgkcifkfokoiaaExB
import Derived.Test.YtfgkcifkfokoiaaExS
import Derived.Test.YtfgkcifkfokoiaaExV
set_option linter.unusedVariables false
set_option linter.unusedSimpArgs false
namespace Go.Proofs.Ytfgkcifkfokoiaa
open Go.RowKit
namespace Ex
theorem parse_wgt {s : ByteArray} {a : ET} {j : Nat} (h : parse s = .ok a j) : wgt a ≤ 1099511627776 ∧ cnt a ≤ 512 := by
  obtain ⟨h1, h2, h3⟩ := parse_ok h
  have g1 := ((lev_forward s _).1 _ _ _ _ _ (Nat.zero_le _) h2).2.2
  have g2 := wgt_le s.size a ((lev_short s _).1 _ _ _ _ _ h2)
  have g3 : (s.size + 11) * cnt a ≤ 267 * 512 := Nat.mul_le_mul (by omega) (by omega)
  omega
theorem word_bad {s : ByteArray} {i a c : Nat} (h : word s i = .bad a c) : c = 3 := by
  unfold word at h
  split at h
  · simp only [R.bad.injEq] at h; exact h.2.symm
  · cases h
theorem exact_code {s : ByteArray} {a c : Nat} : ∀ {l : List Nat} {i : Nat}, exact l s i = .bad a c → c = 3
  | [], i, h => by cases h
  | x :: l, i, h => by
    unfold exact at h
    split at h
    · exact exact_code h
    · simp only [R.bad.injEq] at h; exact h.2.symm
theorem lev_bad (s : ByteArray) : ∀ f : Nat,
    (∀ k i n a c, lev s f k i n = some (.bad a c) → c = 3 ∨ c = 5) ∧ (∀ k i n a c, kids s f k i n = some (.bad a c) → c = 3 ∨ c = 5) ∧ (∀ i n a c, atom s f i n = some (.bad a c) → c = 3 ∨ c = 5)
  | 0 => by simp [lev, kids, atom]
  | f + 1 => by
    obtain ⟨ihl, ihk, iha⟩ := lev_bad s f
    refine ⟨?_, ?_, ?_⟩
    · intro k i n a c h
      rw [lev] at h
      split at h
      · cases ha : atom s f i n with
        | none => rw [ha] at h; cases h
        | some q =>
          rw [ha] at h
          cases q with
          | ok e j => simp only [Option.some.injEq] at h; cases h
          | bad a' c' =>
            simp only [Option.some.injEq, R.bad.injEq] at h
            obtain ⟨rfl, rfl⟩ := h
            exact iha _ _ _ _ ha
      · cases ha : kids s f k (if k = 2 then blanksEnd s i else i) n with
        | none => rw [ha] at h; cases h
        | some q =>
          rw [ha] at h
          cases q with
          | ok e j => simp only [Option.some.injEq] at h; cases h
          | bad a' c' =>
            simp only [Option.some.injEq, R.bad.injEq] at h
            obtain ⟨rfl, rfl⟩ := h
            exact ihk _ _ _ _ _ ha
    · intro k i n a c h
      rw [kids] at h
      cases ha : lev s f (k + 1) i n with
      | none => rw [ha] at h; cases h
      | some q =>
        rw [ha] at h
        cases q with
        | bad a' c' =>
          simp only [Option.some.injEq, R.bad.injEq] at h
          obtain ⟨rfl, rfl⟩ := h
          exact ihl _ _ _ _ _ ha
        | ok e j =>
          simp only at h
          split at h
          · cases hb : kids s f k (if k = 2 then j else j + 1) n with
            | none => rw [hb] at h; cases h
            | some q =>
              rw [hb] at h
              cases q with
              | ok e j => simp only [Option.some.injEq] at h; cases h
              | bad a' c' =>
                simp only [Option.some.injEq, R.bad.injEq] at h
                obtain ⟨rfl, rfl⟩ := h
                exact ihk _ _ _ _ _ hb
          · cases h
    · intro i n a c h
      rw [atom] at h
      split at h
      · cases hw : word s (i + 1) with
        | ok w j => rw [hw] at h; cases h
        | bad a' c' =>
          rw [hw] at h
          simp only [Option.some.injEq, R.bad.injEq] at h
          obtain ⟨rfl, rfl⟩ := h
          exact .inl (word_bad hw)
      · split at h
        · cases hw : exact text5 s i with
          | ok w j => rw [hw] at h; cases h
          | bad a' c' =>
            rw [hw] at h
            simp only [Option.some.injEq, R.bad.injEq] at h
            obtain ⟨rfl, rfl⟩ := h
            exact .inl (exact_code hw)
        · split at h
          · split at h
            · simp only [Option.some.injEq, R.bad.injEq] at h
              exact .inr h.2.symm
            · split at h
              · cases h
              · cases ha : lev s f 0 (blanksEnd s (i + 1)) (n + 1) with
                | none => rw [ha] at h; cases h
                | some q =>
                  rw [ha] at h
                  cases q with
                  | bad a' c' =>
                    simp only [Option.some.injEq, R.bad.injEq] at h
                    obtain ⟨rfl, rfl⟩ := h
                    exact ihl _ _ _ _ _ ha
                  | ok e j =>
                    simp only at h
                    split at h
                    · cases h
                    · simp only [Option.some.injEq, R.bad.injEq] at h
                      exact .inl h.2.symm
          · cases hw : word s i with
            | ok w j => rw [hw] at h; cases h
            | bad a' c' =>
              rw [hw] at h
              simp only [Option.some.injEq, R.bad.injEq] at h
              obtain ⟨rfl, rfl⟩ := h
              exact .inl (word_bad hw)
theorem parse_bad {s : ByteArray} {a c : Nat} (h : parse s = .bad a c) : c = 2 ∨ c = 3 ∨ c = 5 := by
  by_cases hs : 256 < s.size
  · unfold parse at h
    rw [if_pos hs] at h
    simp only [R.bad.injEq] at h
    exact .inl h.2.symm
  · obtain ⟨r, h1, h2⟩ := parse_cases s (by omega)
    rw [h2] at h
    cases r with
    | bad a' c' =>
      have := (lev_bad s _).1 _ _ _ _ _ h1
      simp only [fin, R.bad.injEq] at h
      obtain ⟨rfl, rfl⟩ := h
      omega
    | ok t j =>
      simp only [fin] at h
      split at h
      · simp only [R.bad.injEq] at h; omega
      · cases h

/-- What Parse gives: an expression's three fields, a place, a number. -/
structure PF (s : ByteArray) (w w' : World) (e : Ending) (k : Int) (wd : ByteArray) (A : Option Addr) (n c : Nat) (pl code : Nat) : Prop where
  ending : e = .returned (.tuple #[.agg #[.int .i64 k, .string wd, .slice A n c], .int .i64 (pl : Int), .int .i64 (code : Int)])
  keep : Keep (fun _ => False) w w'
  ok : code = 0 → pl = 0 ∧ ∃ a j, parse s = .ok a j ∧ ExAt w' (fun k => w.heap.size ≤ k) a (.agg #[.int .i64 k, .string wd, .slice A n c])
  bad : code ≠ 0 → parse s = .bad pl code ∧ k = 0 ∧ wd = ⟨#[]⟩ ∧ A = none ∧ n = 0 ∧ c = 0
  small : code ≤ 5
theorem Parse_form (s : ByteArray) (hs : s.size ≤ 140737488351232) (w : World) : Calls Try.prog 14 #[.string s] w fun e w' => ∃ k wd A n c pl code, PF s w w' e k wd A n c pl code := by
  refine (Parse_any s hs w).mono ?_
  intro e w' h
  cases hp : parse s with
  | ok a j =>
    rw [hp] at h
    obtain ⟨v, rfl, hE, hK⟩ := h
    obtain ⟨k, wd, A, n, c, rfl⟩ := hE.form
    exact ⟨k, wd, A, n, c, 0, 0, rfl, hK, fun _ => ⟨rfl, a, j, hp, hE⟩, fun h => absurd rfl h, by decide⟩
  | bad a c =>
    rw [hp] at h
    obtain ⟨rfl, hK⟩ := h
    have := parse_bad hp
    exact ⟨0, ⟨#[]⟩, none, 0, 0, a, c, rfl, hK, fun h => by omega, fun _ => ⟨hp, rfl, rfl, rfl, rfl, rfl⟩, by omega⟩
end Ex
end Go.Proofs.Ytfgkcifkfokoiaa
