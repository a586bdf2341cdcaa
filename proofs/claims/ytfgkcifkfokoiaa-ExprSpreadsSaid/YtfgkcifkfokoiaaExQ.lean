/- Two texts that are read alike: a relation on places that each step of the reading keeps gives the same expression. -/
import Derived.Test.YtfgkcifkfokoiaaExP
set_option linter.unusedVariables false
set_option linter.unusedSimpArgs false
namespace Go.Proofs.Ytfgkcifkfokoiaa
namespace Ex
def plain (c : Nat) : Bool := wordly c || c == 64 || c == 35
/-- Places of s beside places of t; the last number is how deep s is at that place; t is d deeper. -/
structure Sim (s t : ByteArray) (d : Nat) where
  L : Nat → Nat → Nat → Prop
  T : Nat → Nat → Nat → Prop
  X : Nat → Nat → Nat → Prop
  skip : ∀ {i i' n}, L i i' n → T (blanksEnd s i) (blanksEnd t i') n
  same : ∀ {i i' n}, T i i' n → here t i' = here s i ∨ (here s i = 0 ∧ here t i' = 41)
  op : ∀ {i i' n}, T i i' n → here s i = 40 → L (i + 1) (i' + 1) (n + 1)
  nest : ∀ {i i' n}, T i i' n → here s i = 40 → n ≠ 16 → n + d ≠ 16
  cl : ∀ {i i' n}, T i i' (n + 1) → here s i = 41 → L (i + 1) (i' + 1) n
  other : ∀ {i i' n}, T i i' n → here s i ≠ 0 → here s i ≠ 40 → here s i ≠ 41 → L (i + 1) (i' + 1) n
  toX : ∀ {i i' n}, T i i' n → plain (here s i) = true → X i i' n
  next : ∀ {i i' n}, X i i' n → plain (here s i) = true → here t i' = here s i ∧ X (i + 1) (i' + 1) n
  stop : ∀ {i i' n}, X i i' n → wordly (here s i) = false → wordly (here t i') = false
  loose : ∀ {i i' n}, X i i' n → L i i' n
  tl : ∀ {i i' n}, T i i' n → L i i' n

variable {s t : ByteArray} {d : Nat}
theorem wordly_plain {c : Nat} (h : wordly c = true) : plain c = true := by simp [plain, h]
theorem wordly_zero {c : Nat} (h : wordly c = true) : c ≠ 0 := by rintro rfl; exact absurd h (by decide)
/-- Equal bytes, equal pieces. -/
theorem extract_same : ∀ (n i i' : Nat), i + n ≤ s.size → i' + n ≤ t.size → (∀ k, k < n → here t (i' + k) = here s (i + k)) → t.extract i' (i' + n) = s.extract i (i + n) := by
  intro n i i' h1 h2 h
  apply ByteArray.ext_getElem
  · simp [ByteArray.size_extract]; omega
  · intro k hk hk'
    rw [ByteArray.getElem_extract, ByteArray.getElem_extract]
    simp [ByteArray.size_extract] at hk
    have := h k (by omega)
    unfold here at this
    rw [dif_pos (by omega), dif_pos (by omega)] at this
    exact UInt8.toNat_inj.1 this
/-- The rest of a word. -/
theorem Sim.run (S : Sim s t d) {n : Nat} : ∀ (m i i' : Nat), s.size - i ≤ m → S.X i i' n → ∃ k, wordEnd s i = i + k ∧ wordEnd t i' = i' + k ∧ S.X (i + k) (i' + k) n ∧ ∀ q, q < k → here t (i' + q) = here s (i + q) ∧ here s (i + q) ≠ 0
  | m, i, i', hm, hX => by
    by_cases hw : wordly (here s i) = true
    · have hlt := here_lt (wordly_zero hw)
      obtain ⟨h1, h2⟩ := S.next hX (wordly_plain hw)
      match m, hm with
      | 0, hm => omega
      | m + 1, hm =>
        obtain ⟨k, g1, g2, g3, g4⟩ := Sim.run S m (i + 1) (i' + 1) (by omega) h2
        refine ⟨k + 1, ?_, ?_, ?_, ?_⟩
        · rw [wordEnd_step s i hw, g1]; omega
        · rw [wordEnd_step t i' (by rw [h1]; exact hw), g2]; omega
        · rw [show i + (k + 1) = i + 1 + k from by omega, show i' + (k + 1) = i' + 1 + k from by omega]; exact g3
        · intro q hq
          match q with
          | 0 => exact ⟨h1, wordly_zero hw⟩
          | q + 1 =>
            have := g4 q (by omega)
            rw [show i + (q + 1) = i + 1 + q from by omega, show i' + (q + 1) = i' + 1 + q from by omega]
            exact this
    · have hw' : wordly (here s i) = false := by simpa using hw
      exact ⟨0, wordEnd_stop s i hw', wordEnd_stop t i' (S.stop hX hw'), hX, fun q hq => by omega⟩
theorem Sim.word (S : Sim s t d) {n i i' j : Nat} {w : ByteArray} (hX : S.X i i' n) (h : word s i = .ok w j) : ∃ j', Ex.word t i' = .ok w j' ∧ S.X j j' n := by
  obtain ⟨k, g1, g2, g3, g4⟩ := S.run (s.size - i) i i' (Nat.le_refl _) hX
  unfold Ex.word at h ⊢
  rw [g1] at h
  rw [g2]
  split at h
  · cases h
  · rename_i hk
    simp only [R.ok.injEq] at h
    obtain ⟨rfl, rfl⟩ := h
    rw [if_neg (by omega)]
    have e1 := here_lt (g4 (k - 1) (by omega)).2
    have e2 := here_lt (s := t) (i := i' + (k - 1)) (by rw [(g4 (k - 1) (by omega)).1]; exact (g4 (k - 1) (by omega)).2)
    rw [extract_same k i i' (by omega) (by omega) (fun q hq => (g4 q hq).1)]
    exact ⟨_, rfl, g3⟩
theorem Sim.exact (S : Sim s t d) {n : Nat} : ∀ {l : List Nat} {i i' j : Nat}, (∀ c ∈ l, plain c = true) → S.X i i' n → exact l s i = .ok () j → ∃ j', Ex.exact l t i' = .ok () j' ∧ S.X j j' n
  | [], i, i', j, _, hX, h => by
    simp only [Ex.exact, R.ok.injEq, true_and] at h
    subst h
    exact ⟨_, rfl, hX⟩
  | c :: l, i, i', j, hc, hX, h => by
    unfold Ex.exact at h ⊢
    split at h
    · rename_i hh
      have h1 := S.next hX (by rw [hh]; exact hc c (by simp))
      rw [h1.1, if_pos hh]
      exact Sim.exact S (fun c hc' => hc c (by simp [hc'])) h1.2 h
    · cases h
theorem star_chars {c : Nat} (h : star? c ≠ 0) : c ≠ 0 ∧ c ≠ 40 ∧ c ≠ 41 := by
  refine ⟨?_, ?_, ?_⟩ <;> (rintro rfl; exact h (by decide))
theorem Sim.stars (S : Sim s t d) {n : Nat} : ∀ (a b : Nat) (e : ET) (i i' : Nat), s.size - i < a → t.size - i' < b → S.T i i' n →
    (stars t b e i').1 = (stars s a e i).1 ∧ S.T (stars s a e i).2 (stars t b e i').2 n
  | 0, _, e, i, i', ha, hb, hT => by omega
  | _, 0, e, i, i', ha, hb, hT => by omega
  | a + 1, b + 1, e, i, i', ha, hb, hT => by
    have hs : star? (here t i') = star? (here s i) := by
      rcases S.same hT with h | ⟨h1, h2⟩
      · rw [h]
      · rw [h1, h2]; decide
    unfold Ex.stars
    by_cases h0 : star? (here s i) = 0
    · rw [if_pos (by rw [hs]; exact h0), if_pos h0]
      exact ⟨rfl, hT⟩
    · rw [if_neg (by rw [hs]; exact h0), if_neg h0, hs]
      have hc := star_chars h0
      have l1 := here_lt hc.1
      have l2 : i' < t.size := here_lt (fun e => by rw [← hs, e] at h0; exact h0 (by decide))
      have g1 := blanksEnd_ge s (i + 1)
      have g2 := blanksEnd_ge t (i' + 1)
      exact Sim.stars S a b _ _ _ (by omega) (by omega) (S.skip (S.other hT hc.1 hc.2.1 hc.2.2))
theorem more_chars {k c : Nat} (hk : k < 2) (h : more k c = true) : c ≠ 0 ∧ c ≠ 40 ∧ c ≠ 41 := by
  unfold more at h
  split at h
  · have : c = 124 := by simpa using h
    omega
  · split at h
    · have : c = 38 := by simpa using h
      omega
    · omega
theorem Sim.more (S : Sim s t d) {k i i' n : Nat} (hT : S.T i i' n) : Ex.more k (here t i') = Ex.more k (here s i) := by
  rcases S.same hT with h | ⟨h1, h2⟩
  · rw [h]
  · rw [h1, h2]
    unfold Ex.more
    split
    · decide
    · split <;> decide
theorem blanksEnd_nb (s : ByteArray) (i : Nat) : here s (blanksEnd s i) ≠ 32 := by
  have := run_end isBlank rfl s (s.size - i) i (Nat.le_refl _)
  intro h
  unfold blanksEnd at h
  rw [h] at this
  exact absurd this (by decide)
theorem blanksEnd_idem (s : ByteArray) (i : Nat) : blanksEnd s (blanksEnd s i) = blanksEnd s i := blanksEnd_stop s _ (blanksEnd_nb s i)
/-- What is read begins with a sign that begins something. -/
theorem lev_first (s : ByteArray) : ∀ f : Nat,
    (∀ k i n e j, k ≤ 3 → lev s f k i n = some (.ok e j) → begins (here s (if k = 3 then i else blanksEnd s i)) = true) ∧
    (∀ k i n l j, k ≤ 2 → kids s f k i n = some (.ok l j) → begins (here s (if k = 2 then i else blanksEnd s i)) = true) ∧
    (∀ i n e j, atom s f i n = some (.ok e j) → begins (here s i) = true)
  | 0 => by simp [lev, kids, atom]
  | f + 1 => by
    obtain ⟨ihl, ihk, iha⟩ := lev_first s f
    refine ⟨?_, ?_, ?_⟩
    · intro k i n e j hk h
      unfold lev at h
      by_cases k3 : k = 3
      · rw [if_pos k3] at h
        cases ha : atom s f i n with
        | none => rw [ha] at h; cases h
        | some r =>
          cases r with
          | bad a c => rw [ha] at h; cases h
          | ok e0 j0 => rw [if_pos k3]; exact iha _ _ _ _ ha
      · rw [if_neg k3] at h
        cases hk' : kids s f k (if k = 2 then blanksEnd s i else i) n with
        | none => rw [hk'] at h; cases h
        | some r =>
          cases r with
          | bad a c => rw [hk'] at h; cases h
          | ok l j0 =>
            have := ihk _ _ _ _ _ (by omega) hk'
            rw [if_neg k3]
            by_cases k2 : k = 2
            · rw [if_pos k2, if_pos k2] at this; exact this
            · rw [if_neg k2, if_neg k2] at this; exact this
    · intro k i n l j hk h
      unfold kids at h
      cases hl : lev s f (k + 1) i n with
      | none => rw [hl] at h; cases h
      | some r =>
        cases r with
        | bad a c => rw [hl] at h; cases h
        | ok e0 j0 =>
          have := ihl _ _ _ _ _ (by omega) hl
          by_cases k2 : k = 2
          · rw [if_pos (by omega)] at this; rw [if_pos k2]; exact this
          · rw [if_neg (by omega)] at this; rw [if_neg k2]; exact this
    · intro i n e j h
      unfold atom at h
      unfold begins
      by_cases h64 : here s i = 64
      · simp [h64]
      · by_cases h35 : here s i = 35
        · simp [h35]
        · by_cases h40 : here s i = 40
          · simp [h40]
          · rw [if_neg h64, if_neg h35, if_neg h40] at h
            cases hq : wordly (here s i) with
            | true => simp
            | false =>
              have : word s i = .bad i 3 := by unfold word; rw [if_pos (wordEnd_stop s i hq)]
              rw [this] at h
              cases h
theorem text5_plain : ∀ c ∈ text5, plain c = true := by decide

theorem Sim.lev (S : Sim s t d) : ∀ f : Nat,
    (∀ k i i' n e j, k ≤ 3 → (k = 3 → S.T i i' n) → (k ≠ 3 → S.L i i' n) → lev s f k i n = some (.ok e j) → ∃ j', Ex.lev t f k i' (n + d) = some (.ok e j') ∧ S.T j j' n) ∧
    (∀ k i i' n l j, k ≤ 2 → (k = 2 → S.T i i' n) → (k ≠ 2 → S.L i i' n) → kids s f k i n = some (.ok l j) → ∃ j', Ex.kids t f k i' (n + d) = some (.ok l j') ∧ S.T j j' n) ∧
    (∀ i i' n e j, S.T i i' n → atom s f i n = some (.ok e j) → ∃ j', Ex.atom t f i' (n + d) = some (.ok e j') ∧ S.L j j' n)
  | 0 => by simp [Ex.lev, Ex.kids, Ex.atom]
  | f + 1 => by
    obtain ⟨ihl, ihk, iha⟩ := Sim.lev S f
    refine ⟨?_, ?_, ?_⟩
    · intro k i i' n e j hk hT hL h
      unfold Ex.lev at h ⊢
      by_cases k3 : k = 3
      · rw [if_pos k3] at h ⊢
        cases ha : Ex.atom s f i n with
        | none => rw [ha] at h; cases h
        | some r =>
          rw [ha] at h
          cases r with
          | bad a c => cases h
          | ok e0 j0 =>
            obtain ⟨j1, h1, h2⟩ := iha _ _ _ _ _ (hT k3) ha
            rw [h1]
            simp only [Option.some.injEq, R.ok.injEq] at h
            obtain ⟨rfl, rfl⟩ := h
            have h3 := S.stars (s.size - blanksEnd s j0 + 1) (t.size - blanksEnd t j1 + 1) e0 _ _ (by omega) (by omega) (S.skip h2)
            exact ⟨_, by simp only [h3.1], h3.2⟩
      · rw [if_neg k3] at h ⊢
        cases hk' : Ex.kids s f k (if k = 2 then blanksEnd s i else i) n with
        | none => rw [hk'] at h; cases h
        | some r =>
          rw [hk'] at h
          cases r with
          | bad a c => cases h
          | ok l j0 =>
            simp only [Option.some.injEq, R.ok.injEq] at h
            obtain ⟨rfl, rfl⟩ := h
            obtain ⟨j1, h1, h2⟩ := ihk k _ (if k = 2 then blanksEnd t i' else i') n _ _ (by omega) (fun h2 => by rw [if_pos h2, if_pos h2]; exact S.skip (hL k3)) (fun h2 => by rw [if_neg h2, if_neg h2]; exact hL k3) hk'
            rw [h1]
            exact ⟨_, rfl, h2⟩
    · intro k i i' n l j hk hT hL h
      unfold Ex.kids at h ⊢
      cases hl : Ex.lev s f (k + 1) i n with
      | none => rw [hl] at h; cases h
      | some r =>
        rw [hl] at h
        cases r with
        | bad a c => cases h
        | ok e0 j0 =>
          obtain ⟨j1, h1, h2⟩ := ihl (k + 1) i i' n _ _ (by omega) (fun h3 => hT (by omega)) (fun h3 => hL (by omega)) hl
          rw [h1]
          simp only at h ⊢
          rw [S.more h2]
          by_cases hm : Ex.more k (here s j0) = true
          · rw [if_pos hm] at h ⊢
            cases hk' : Ex.kids s f k (if k = 2 then j0 else j0 + 1) n with
            | none => rw [hk'] at h; cases h
            | some r =>
              rw [hk'] at h
              cases r with
              | bad a c => cases h
              | ok l0 m0 =>
                simp only [Option.some.injEq, R.ok.injEq] at h
                obtain ⟨rfl, rfl⟩ := h
                obtain ⟨j2, g1, g2⟩ := ihk k _ (if k = 2 then j1 else j1 + 1) n _ _ hk (fun h3 => by rw [if_pos h3, if_pos h3]; exact h2) (fun h3 => by
                  rw [if_neg h3, if_neg h3]
                  have hc := more_chars (by omega) hm
                  exact S.other h2 hc.1 hc.2.1 hc.2.2) hk'
                rw [g1]
                exact ⟨_, rfl, g2⟩
          · rw [if_neg hm] at h ⊢
            simp only [Option.some.injEq, R.ok.injEq] at h
            obtain ⟨rfl, rfl⟩ := h
            exact ⟨_, rfl, h2⟩
    · intro i i' n e j hT h
      have hne : here s i ≠ 0 := by
        intro h0
        unfold Ex.atom at h
        rw [if_neg (by omega), if_neg (by omega), if_neg (by omega)] at h
        have : Ex.word s i = .bad i 3 := by unfold Ex.word; rw [if_pos (wordEnd_stop s i (by rw [h0]; decide))]
        rw [this] at h
        cases h
      have hh : here t i' = here s i := by
        rcases S.same hT with h1 | h1
        · exact h1
        · exact absurd h1.1 hne
      unfold Ex.atom at h ⊢
      rw [hh]
      by_cases h64 : here s i = 64
      · rw [if_pos h64] at h ⊢
        have hX := S.next (S.toX hT (by rw [h64]; decide)) (by rw [h64]; decide)
        cases hw : Ex.word s (i + 1) with
        | bad a c => rw [hw] at h; cases h
        | ok w j0 =>
          rw [hw] at h
          simp only [Option.some.injEq, R.ok.injEq] at h
          obtain ⟨rfl, rfl⟩ := h
          obtain ⟨j1, h1, h2⟩ := S.word hX.2 hw
          rw [h1]
          exact ⟨_, rfl, S.loose h2⟩
      · rw [if_neg h64] at h ⊢
        by_cases h35 : here s i = 35
        · rw [if_pos h35] at h ⊢
          cases hw : Ex.exact text5 s i with
          | bad a c => rw [hw] at h; cases h
          | ok w j0 =>
            rw [hw] at h
            simp only [Option.some.injEq, R.ok.injEq] at h
            obtain ⟨rfl, rfl⟩ := h
            obtain ⟨j1, h1, h2⟩ := S.exact text5_plain (S.toX hT (by rw [h35]; decide)) hw
            rw [h1]
            exact ⟨_, rfl, S.loose h2⟩
        · rw [if_neg h35] at h ⊢
          by_cases h40 : here s i = 40
          · rw [if_pos h40] at h ⊢
            by_cases h16 : n = 16
            · rw [if_pos h16] at h; cases h
            · rw [if_neg h16] at h
              rw [if_neg (S.nest hT h40 h16)]
              have hT1 := S.skip (S.op hT h40)
              by_cases hc : here s (blanksEnd s (i + 1)) = 41
              · rw [if_pos hc] at h
                simp only [Option.some.injEq, R.ok.injEq] at h
                obtain ⟨rfl, rfl⟩ := h
                have hc' : here t (blanksEnd t (i' + 1)) = 41 := by
                  rcases S.same hT1 with h1 | h1
                  · rw [h1, hc]
                  · omega
                rw [if_pos hc']
                exact ⟨_, rfl, S.cl hT1 hc⟩
              · rw [if_neg hc] at h
                cases hl : Ex.lev s f 0 (blanksEnd s (i + 1)) (n + 1) with
                | none => rw [hl] at h; cases h
                | some r =>
                  rw [hl] at h
                  cases r with
                  | bad a c => cases h
                  | ok e0 j0 =>
                    simp only at h
                    by_cases hj : here s j0 = 41
                    · rw [if_pos hj] at h
                      simp only [Option.some.injEq, R.ok.injEq] at h
                      obtain ⟨rfl, rfl⟩ := h
                      have hc' : here t (blanksEnd t (i' + 1)) ≠ 41 := by
                        rcases S.same hT1 with h1 | h1
                        · rw [h1]; exact hc
                        · have hb := (lev_first s f).1 _ _ _ _ _ (by decide) hl
                          rw [if_neg (by decide), blanksEnd_idem, h1.1] at hb
                          exact absurd hb (by decide)
                      obtain ⟨j1, h1, h2⟩ := ihl 0 _ (blanksEnd t (i' + 1)) (n + 1) _ _ (by decide) (fun h3 => absurd h3 (by decide)) (fun _ => S.tl hT1) hl
                      rw [if_neg hc', show n + d + 1 = n + 1 + d from by omega, h1]
                      have hj1 : here t j1 = 41 := by
                        rcases S.same h2 with h3 | h3
                        · rw [h3, hj]
                        · omega
                      simp only
                      rw [if_pos hj1]
                      exact ⟨_, rfl, S.cl h2 hj⟩
                    · rw [if_neg hj] at h; cases h
          · rw [if_neg h40] at h ⊢
            cases hw : Ex.word s i with
            | bad a c => rw [hw] at h; cases h
            | ok w j0 =>
              rw [hw] at h
              simp only [Option.some.injEq, R.ok.injEq] at h
              obtain ⟨rfl, rfl⟩ := h
              have hpl : wordly (here s i) = true := by
                cases hq : wordly (here s i) with
                | true => rfl
                | false =>
                  unfold Ex.word at hw
                  rw [if_pos (wordEnd_stop s i hq)] at hw
                  cases hw
              obtain ⟨j1, h1, h2⟩ := S.word (S.toX hT (wordly_plain hpl)) hw
              rw [h1]
              exact ⟨_, rfl, S.loose h2⟩
end Ex
end Go.Proofs.Ytfgkcifkfokoiaa
