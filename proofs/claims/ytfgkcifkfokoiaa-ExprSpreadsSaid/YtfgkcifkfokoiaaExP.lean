/- Reading an expression in plain Lean: it goes forward, it ends, and makes few nodes. No condition. -/
import Derived.Test.YtfgkcifkfokoiaaExM
set_option linter.unusedVariables false
set_option linter.unusedSimpArgs false
namespace Go.Proofs.Ytfgkcifkfokoiaa
namespace Ex

mutual
def cnt : ET → Nat
  | .node _ _ l => 1 + cntL l
def cntL : List ET → Nat
  | [] => 0
  | e :: l => cnt e + cntL l
end
theorem cnt_pos (e : ET) : 1 ≤ cnt e := by cases e; simp only [cnt]; omega

theorem word_ok {s : ByteArray} {i j : Nat} {w : ByteArray} (h : word s i = .ok w j) (hi : i ≤ s.size) : i < j ∧ j ≤ s.size ∧ j = wordEnd s i ∧ w = s.extract i j := by
  unfold word at h
  have h1 := wordEnd_ge s i
  have h2 := wordEnd_le s i hi
  split at h
  · cases h
  · injection h with h3 h4
    subst h4
    exact ⟨by omega, h2, rfl, h3.symm⟩
theorem exact_ok {s : ByteArray} : ∀ {l : List Nat} {i j : Nat}, (∀ c ∈ l, c ≠ 0) → exact l s i = .ok () j → i ≤ s.size → j = i + l.length ∧ j ≤ s.size
  | [], i, j, _, h, hi => by
    simp only [exact] at h
    injection h with _ h
    subst h
    exact ⟨rfl, hi⟩
  | c :: l, i, j, hc, h, hi => by
    unfold exact at h
    split at h
    · rename_i hh
      have hlt := here_lt (s := s) (i := i) (by rw [hh]; exact hc c (by simp))
      have := exact_ok (fun c hc' => hc c (by simp [hc'])) h (by omega)
      exact ⟨by simp; omega, this.2⟩
    · cases h
theorem stars_ok (s : ByteArray) : ∀ (n : Nat) (e : ET) (i : Nat), i ≤ s.size → i ≤ (stars s n e i).2 ∧ (stars s n e i).2 ≤ s.size ∧ cnt (stars s n e i).1 + i ≤ cnt e + (stars s n e i).2
  | 0, e, i, h => by simp only [stars]; omega
  | n + 1, e, i, h => by
    unfold stars
    split
    · exact ⟨Nat.le_refl i, h, by simp⟩
    · rename_i hh
      have hlt : i < s.size := here_lt (fun e => by rw [e] at hh; exact hh rfl)
      have h1 := blanksEnd_ge s (i + 1)
      have h2 := blanksEnd_le s (i + 1) (by omega)
      obtain ⟨a, b, c⟩ := stars_ok s n (.node (star? (here s i)) ByteArray.empty [e]) (blanksEnd s (i + 1)) h2
      simp only [cnt, cntL] at c
      exact ⟨by omega, b, by omega⟩

/-- It goes forward, stays in the text, and makes at most two nodes a byte, less one. -/
theorem lev_forward (s : ByteArray) : ∀ f : Nat,
    (∀ k i nest e j, i ≤ s.size → lev s f k i nest = some (.ok e j) → i < j ∧ j ≤ s.size ∧ cnt e + 2 * i + 1 ≤ 2 * j) ∧
    (∀ k i nest l j, i ≤ s.size → kids s f k i nest = some (.ok l j) → i < j ∧ j ≤ s.size ∧ cntL l + 2 * i + l.length ≤ 2 * j ∧ 1 ≤ l.length) ∧
    (∀ i nest e j, i ≤ s.size → atom s f i nest = some (.ok e j) → i < j ∧ j ≤ s.size ∧ cnt e + 2 * i + 1 ≤ 2 * j)
  | 0 => by simp [lev, kids, atom]
  | f + 1 => by
    obtain ⟨ihl, ihk, iha⟩ := lev_forward s f
    refine ⟨?_, ?_, ?_⟩
    · intro k i nest e j hi h
      unfold lev at h
      split at h
      · cases ha : atom s f i nest with
        | none => rw [ha] at h; cases h
        | some r =>
          rw [ha] at h
          cases r with
          | bad a c => cases h
          | ok e0 j0 =>
            obtain ⟨h1, h2, h3⟩ := iha _ _ _ _ hi ha
            have g1 := blanksEnd_ge s j0
            have g2 := blanksEnd_le s j0 h2
            obtain ⟨a, b, c⟩ := stars_ok s (s.size - blanksEnd s j0 + 1) e0 (blanksEnd s j0) g2
            simp only [Option.some.injEq, R.ok.injEq] at h
            obtain ⟨rfl, rfl⟩ := h
            exact ⟨by omega, b, by omega⟩
      · have hi' : (if k = 2 then blanksEnd s i else i) ≤ s.size ∧ i ≤ (if k = 2 then blanksEnd s i else i) := by
          have g1 := blanksEnd_ge s i
          have g2 := blanksEnd_le s i hi
          split <;> exact ⟨by omega, by omega⟩
        cases hk : kids s f k (if k = 2 then blanksEnd s i else i) nest with
        | none => rw [hk] at h; cases h
        | some r =>
          rw [hk] at h
          cases r with
          | bad a c => cases h
          | ok l j0 =>
            obtain ⟨h1, h2, h3, h4⟩ := ihk _ _ _ _ _ hi'.1 hk
            simp only [Option.some.injEq, R.ok.injEq] at h
            obtain ⟨rfl, rfl⟩ := h
            refine ⟨by omega, h2, ?_⟩
            unfold row
            split
            · simp only [cntL, List.length] at h3; omega
            · rename_i hne
              simp only [cnt]
              have : 2 ≤ l.length := by
                match l, hne, h4 with
                | [x], hne, _ => exact absurd rfl (hne x)
                | x :: y :: l, _, _ => simp
              omega
    · intro k i nest l j hi h
      unfold kids at h
      cases hl : lev s f (k + 1) i nest with
      | none => rw [hl] at h; cases h
      | some r =>
        rw [hl] at h
        cases r with
        | bad a c => cases h
        | ok e0 j0 =>
          obtain ⟨h1, h2, h3⟩ := ihl _ _ _ _ _ hi hl
          simp only at h
          split at h
          · rename_i hm
            have hj : (if k = 2 then j0 else j0 + 1) ≤ s.size ∧ j0 ≤ (if k = 2 then j0 else j0 + 1) := by
              split
              · exact ⟨h2, Nat.le_refl _⟩
              · rename_i hk2
                have : here s j0 ≠ 0 := by
                  intro e
                  rw [e] at hm
                  unfold more at hm
                  split at hm
                  · simp at hm
                  · split at hm
                    · simp at hm
                    · exact absurd hm (by decide)
                have := here_lt this
                omega
            cases hk : kids s f k (if k = 2 then j0 else j0 + 1) nest with
            | none => rw [hk] at h; cases h
            | some r =>
              rw [hk] at h
              cases r with
              | bad a c => cases h
              | ok l0 m0 =>
                obtain ⟨g1, g2, g3, g4⟩ := ihk _ _ _ _ _ hj.1 hk
                simp only [Option.some.injEq, R.ok.injEq] at h
                obtain ⟨rfl, rfl⟩ := h
                simp only [cntL, List.length]
                exact ⟨by omega, g2, by omega, by omega⟩
          · simp only [Option.some.injEq, R.ok.injEq] at h
            obtain ⟨rfl, rfl⟩ := h
            simp only [cntL, List.length]
            exact ⟨h1, h2, by omega, by omega⟩
    · intro i nest e j hi h
      unfold atom at h
      split at h
      · rename_i hh
        have hlt := here_lt (s := s) (i := i) (by rw [hh]; decide)
        cases hw : word s (i + 1) with
        | bad a c => rw [hw] at h; cases h
        | ok w j0 =>
          rw [hw] at h
          obtain ⟨h1, h2, _, _⟩ := word_ok hw (by omega)
          simp only [Option.some.injEq, R.ok.injEq] at h
          obtain ⟨rfl, rfl⟩ := h
          simp only [cnt, cntL]
          exact ⟨by omega, h2, by omega⟩
      · split at h
        · cases hw : exact text5 s i with
          | bad a c => rw [hw] at h; cases h
          | ok w j0 =>
            rw [hw] at h
            obtain ⟨h1, h2⟩ := exact_ok (by decide) hw hi
            simp only [Option.some.injEq, R.ok.injEq] at h
            obtain ⟨rfl, rfl⟩ := h
            simp only [cnt, cntL]
            simp only [text5, List.length] at h1
            exact ⟨by omega, h2, by omega⟩
        · split at h
          · rename_i hh
            have hlt := here_lt (s := s) (i := i) (by rw [hh]; decide)
            have g1 := blanksEnd_ge s (i + 1)
            have g2 := blanksEnd_le s (i + 1) (by omega)
            split at h
            · cases h
            · split at h
              · rename_i hc
                have := here_lt (s := s) (i := blanksEnd s (i + 1)) (by rw [hc]; decide)
                simp only [Option.some.injEq, R.ok.injEq] at h
                obtain ⟨rfl, rfl⟩ := h
                simp only [cnt, cntL]
                exact ⟨by omega, by omega, by omega⟩
              · cases hl : lev s f 0 (blanksEnd s (i + 1)) (nest + 1) with
                | none => rw [hl] at h; cases h
                | some r =>
                  rw [hl] at h
                  cases r with
                  | bad a c => cases h
                  | ok e0 j0 =>
                    obtain ⟨h1, h2, h3⟩ := ihl _ _ _ _ _ g2 hl
                    simp only at h
                    split at h
                    · rename_i hc
                      have := here_lt (s := s) (i := j0) (by rw [hc]; decide)
                      simp only [Option.some.injEq, R.ok.injEq] at h
                      obtain ⟨rfl, rfl⟩ := h
                      exact ⟨by omega, by omega, by omega⟩
                    · cases h
          · cases hw : word s i with
            | bad a c => rw [hw] at h; cases h
            | ok w j0 =>
              rw [hw] at h
              obtain ⟨h1, h2, _, _⟩ := word_ok hw hi
              simp only [Option.some.injEq, R.ok.injEq] at h
              obtain ⟨rfl, rfl⟩ := h
              simp only [cnt, cntL]
              exact ⟨by omega, h2, by omega⟩

/-- Enough rounds. -/
theorem lev_ends (s : ByteArray) : ∀ f : Nat,
    (∀ k i nest, k ≤ 3 → i ≤ s.size → 8 * (s.size + 1 - i) + 7 < f + 2 * k → lev s f k i nest ≠ none) ∧
    (∀ k i nest, k ≤ 2 → i ≤ s.size → 8 * (s.size + 1 - i) + 6 < f + 2 * k → kids s f k i nest ≠ none) ∧
    (∀ i nest, i ≤ s.size → 8 * (s.size + 1 - i) < f → atom s f i nest ≠ none)
  | 0 => by
    refine ⟨?_, ?_, ?_⟩
    · intro k i nest h1 h2 h3; omega
    · intro k i nest h1 h2 h3; omega
    · intro i nest h1 h2; omega
  | f + 1 => by
    obtain ⟨ihl, ihk, iha⟩ := lev_ends s f
    refine ⟨?_, ?_, ?_⟩
    · intro k i nest hk hi hf
      unfold lev
      split
      · rename_i h3
        have := iha i nest hi (by omega)
        cases ha : atom s f i nest with
        | none => exact absurd ha this
        | some r => cases r <;> simp
      · rename_i h3
        have g1 := blanksEnd_ge s i
        have g2 := blanksEnd_le s i hi
        have hi' : (if k = 2 then blanksEnd s i else i) ≤ s.size ∧ i ≤ (if k = 2 then blanksEnd s i else i) := by
          split <;> exact ⟨by omega, by omega⟩
        have := ihk k (if k = 2 then blanksEnd s i else i) nest (by omega) hi'.1 (by omega)
        cases ha : kids s f k (if k = 2 then blanksEnd s i else i) nest with
        | none => exact absurd ha this
        | some r => cases r <;> simp
    · intro k i nest hk hi hf
      unfold kids
      have := ihl (k + 1) i nest (by omega) hi (by omega)
      cases hl : lev s f (k + 1) i nest with
      | none => exact absurd hl this
      | some r =>
        cases r with
        | bad a c => simp
        | ok e j =>
          simp only
          split
          · rename_i hm
            obtain ⟨h1, h2, _⟩ := (lev_forward s f).1 _ _ _ _ _ hi hl
            have hj : (if k = 2 then j else j + 1) ≤ s.size ∧ j ≤ (if k = 2 then j else j + 1) := by
              split
              · exact ⟨h2, Nat.le_refl _⟩
              · have : here s j ≠ 0 := by
                  intro e
                  rw [e] at hm
                  unfold more at hm
                  split at hm
                  · simp at hm
                  · split at hm
                    · simp at hm
                    · exact absurd hm (by decide)
                have := here_lt this
                omega
            have := ihk k (if k = 2 then j else j + 1) nest hk hj.1 (by omega)
            cases ha : kids s f k (if k = 2 then j else j + 1) nest with
            | none => exact absurd ha this
            | some r => cases r <;> simp
          · simp
    · intro i nest hi hf
      unfold atom
      split
      · cases word s (i + 1) <;> simp
      · split
        · cases exact text5 s i <;> simp
        · split
          · rename_i hh
            have hlt := here_lt (s := s) (i := i) (by rw [hh]; decide)
            have g1 := blanksEnd_ge s (i + 1)
            have g2 := blanksEnd_le s (i + 1) (by omega)
            split
            · simp
            · split
              · simp
              · have := ihl 0 (blanksEnd s (i + 1)) (nest + 1) (by omega) g2 (by omega)
                cases hl : lev s f 0 (blanksEnd s (i + 1)) (nest + 1) with
                | none => exact absurd hl this
                | some r =>
                  cases r with
                  | bad a c => simp
                  | ok e j => simp only; split <;> simp
          · cases word s i <;> simp
end Ex
end Go.Proofs.Ytfgkcifkfokoiaa
