/- What reading gives is well formed; the one text of what was read, read again: plain Lean. Condition: that text has at most 256 bytes. -/
import Derived.Test.YtfgkcifkfokoiaaExU
set_option linter.unusedVariables false
set_option linter.unusedSimpArgs false
namespace Go.Proofs.Ytfgkcifkfokoiaa
namespace Ex
theorem brk_mono {k kind : Nat} (hk : k < 3) : brc k kind ≤ brc (k + 1) kind := by
  by_cases h : kind = kindOf k
  · have : brc k kind = 0 := by
      rw [h]
      rcases (show k = 0 ∨ k = 1 ∨ k = 2 from by omega) with rfl | rfl | rfl <;> rfl
    omega
  · rw [brk_down hk h]; exact Nat.le_refl _
theorem run_all (p : Nat → Bool) (s : ByteArray) : ∀ n i q, i ≤ q → q < run p s n i → p (here s q) = true
  | 0, i, q, h1, h2 => by simp only [run] at h2; omega
  | n + 1, i, q, h1, h2 => by
    unfold run at h2
    split at h2
    · rename_i hp
      by_cases he : q = i
      · rw [he]; exact hp
      · exact run_all p s n (i + 1) q (by omega) h2
    · omega
theorem word_wf {s : ByteArray} {i j : Nat} {w : ByteArray} (h : word s i = .ok w j) (hi : i ≤ s.size) : wordB w := by
  obtain ⟨h1, h2, h3, h4⟩ := word_ok h hi
  subst h4
  have hlen : (s.extract i j).data.toList.length = j - i := by rw [data_len, ByteArray.size_extract]; omega
  refine ⟨fun e => by rw [e] at hlen; simp only [List.length_nil] at hlen; omega, fun c hc => ?_⟩
  obtain ⟨q, hq, rfl⟩ := List.getElem_of_mem hc
  have hw := run_all wordly s (s.size - i) i (i + q) (by omega) (by rw [show run wordly s (s.size - i) i = j from h3.symm]; omega)
  have : here s (i + q) = (s.extract i j).data.toList[q].toNat := by
    unfold here
    rw [dif_pos (by omega)]
    simp [ByteArray.data_extract]
    try rfl
  rw [← this]
  exact hw
theorem star_kind {c : Nat} (h : star? c ≠ 0) : star? c = 7 ∨ star? c = 8 ∨ star? c = 9 := by
  unfold star? at h ⊢
  split
  · exact .inl rfl
  · split
    · exact .inr (.inl rfl)
    · split
      · exact .inr (.inr rfl)
      · rename_i h1 h2 h3; rw [if_neg h1, if_neg h2, if_neg h3] at h; exact absurd rfl h
theorem stars_wf (s : ByteArray) (n : Nat) : ∀ (m : Nat) (e : ET) (i : Nat), WF e → brc 3 (kindE e) + nst e + n ≤ 16 → WF (stars s m e i).1 ∧ brc 3 (kindE (stars s m e i).1) + nst (stars s m e i).1 + n ≤ 16
  | 0, e, i, h1, h2 => ⟨h1, h2⟩
  | m + 1, e, i, h1, h2 => by
    unfold stars
    split
    · exact ⟨h1, h2⟩
    · rename_i hh
      have hk := star_kind hh
      refine stars_wf s n m _ _ ?_ ?_
      · simp only [WF, WFL]
        exact .inr (.inr (.inr ⟨hk, by trivial, rfl, h1, trivial⟩))
      · have h3 : kl (star? (here s i)) = 3 := by rcases hk with h | h | h <;> rw [h] <;> rfl
        have h4 : brc 3 (star? (here s i)) = 0 := by rcases hk with h | h | h <;> rw [h] <;> rfl
        have h5 : nst (.node (star? (here s i)) ByteArray.empty [e]) = brc 3 (kindE e) + nst e := by
          rw [nst, if_neg hh, h3]
          simp [nstL]
        rw [h5]
        show brc 3 (star? (here s i)) + _ + _ ≤ 16
        omega
theorem row_wf {k n : Nat} {l : List ET} (hk : k < 3) (h : WFL l) (hn : nstL (k + 1) l + n ≤ 16) (h1 : 1 ≤ l.length) : WF (row k l) ∧ brc k (kindE (row k l)) + nst (row k l) + n ≤ 16 := by
  match l, h, hn, h1 with
  | [e], h, hn, _ =>
    simp only [WFL] at h
    simp only [nstL] at hn
    have := brk_mono (k := k) (kind := kindE e) hk
    exact ⟨h.1, by show brc k (kindE e) + nst e + n ≤ 16; omega⟩
  | x :: y :: l, h, hn, _ =>
    rw [row_two k (by simp)]
    constructor
    · simp only [WF]
      refine .inr (.inr (.inl ⟨?_, trivial, by simp, h⟩))
      rcases (show k = 0 ∨ k = 1 ∨ k = 2 from by omega) with rfl | rfl | rfl
      · exact .inr (.inl rfl)
      · exact .inr (.inr rfl)
      · exact .inl rfl
    · show brc k (kindOf k) + nst (.node (kindOf k) ByteArray.empty (x :: y :: l)) + n ≤ 16
      have e1 : brc k (kindOf k) = 0 := by rcases (show k = 0 ∨ k = 1 ∨ k = 2 from by omega) with rfl | rfl | rfl <;> rfl
      have e2 : nst (.node (kindOf k) ByteArray.empty (x :: y :: l)) = nstL (k + 1) (x :: y :: l) := by
        rcases (show k = 0 ∨ k = 1 ∨ k = 2 from by omega) with rfl | rfl | rfl
        all_goals rw [nst, if_neg (by decide)]; rfl
      rw [e1, e2]
      omega
/-- What reading gives. -/
theorem lev_wf (s : ByteArray) : ∀ f : Nat,
    (∀ k i n e j, k ≤ 3 → n ≤ 16 → i ≤ s.size → lev s f k i n = some (.ok e j) → WF e ∧ brc k (kindE e) + nst e + n ≤ 16) ∧
    (∀ k i n l j, k < 3 → n ≤ 16 → i ≤ s.size → kids s f k i n = some (.ok l j) → WFL l ∧ nstL (k + 1) l + n ≤ 16 ∧ 1 ≤ l.length) ∧
    (∀ i n e j, n ≤ 16 → i ≤ s.size → atom s f i n = some (.ok e j) → WF e ∧ brc 3 (kindE e) + nst e + n ≤ 16)
  | 0 => by simp [lev, kids, atom]
  | f + 1 => by
    obtain ⟨ihl, ihk, iha⟩ := lev_wf s f
    refine ⟨?_, ?_, ?_⟩
    · intro k i n e j hk hn hi h
      rw [lev] at h
      split at h
      · rename_i h3
        subst h3
        cases ha : atom s f i n with
        | none => rw [ha] at h; cases h
        | some ra =>
          rw [ha] at h
          cases ra with
          | bad a c => cases h
          | ok e0 j0 =>
            simp only [Option.some.injEq, R.ok.injEq] at h
            obtain ⟨rfl, -⟩ := h
            obtain ⟨h1, h2⟩ := iha _ _ _ _ hn hi ha
            exact stars_wf s n _ _ _ h1 h2
      · rename_i h3
        have hle := blanksEnd_le s i hi
        cases ha : kids s f k (if k = 2 then blanksEnd s i else i) n with
        | none => rw [ha] at h; cases h
        | some ra =>
          rw [ha] at h
          cases ra with
          | bad a c => cases h
          | ok l0 j0 =>
            simp only [Option.some.injEq, R.ok.injEq] at h
            obtain ⟨rfl, -⟩ := h
            obtain ⟨h1, h2, h4⟩ := ihk _ _ _ _ _ (by omega) hn (by split <;> omega) ha
            exact row_wf (by omega) h1 h2 h4
    · intro k i n l j hk hn hi h
      obtain ⟨-, hfk, -⟩ := lev_forward s (f + 1)
      rw [kids] at h
      cases ha : lev s f (k + 1) i n with
      | none => rw [ha] at h; cases h
      | some ra =>
        rw [ha] at h
        cases ra with
        | bad a c => cases h
        | ok e0 j0 =>
          obtain ⟨h1, h2⟩ := ihl _ _ _ _ _ (by omega) hn hi ha
          have hfw := (lev_forward s f).1 _ _ _ _ _ hi ha
          simp only at h
          split at h
          · rename_i hm
            have hj : (if k = 2 then j0 else j0 + 1) ≤ s.size := by
              split
              · omega
              · rename_i hk2
                have : here s j0 ≠ 0 := fun e => by
                  rw [e] at hm
                  rcases (show k = 0 ∨ k = 1 from by omega) with rfl | rfl <;> exact absurd hm (by decide)
                have := here_lt this
                omega
            cases hk : kids s f k (if k = 2 then j0 else j0 + 1) n with
            | none => rw [hk] at h; cases h
            | some rk =>
              rw [hk] at h
              cases rk with
              | bad a c => cases h
              | ok l0 m0 =>
                simp only [Option.some.injEq, R.ok.injEq] at h
                obtain ⟨rfl, -⟩ := h
                obtain ⟨g1, g2, g3⟩ := ihk _ _ _ _ _ (by omega) hn hj hk
                refine ⟨⟨h1, g1⟩, ?_, by simp⟩
                rw [nstL]
                omega
          · simp only [Option.some.injEq, R.ok.injEq] at h
            obtain ⟨rfl, -⟩ := h
            refine ⟨⟨h1, trivial⟩, ?_, by simp⟩
            simp only [nstL]
            omega
    · intro i n e j hn hi h
      rw [atom] at h
      split at h
      · rename_i h1
        have hlt := here_lt (s := s) (i := i) (by rw [h1]; decide)
        cases hw : word s (i + 1) with
        | bad a c => rw [hw] at h; cases h
        | ok w j0 =>
          rw [hw] at h
          simp only [Option.some.injEq, R.ok.injEq] at h
          obtain ⟨rfl, -⟩ := h
          refine ⟨?_, ?_⟩
          · unfold WF
            exact .inr (.inl ⟨.inr rfl, word_wf hw (by omega), rfl⟩)
          · show brc 3 2 + nst _ + n ≤ 16
            simp only [nst, nstL]
            show 0 + _ + n ≤ 16
            simp
            omega
      · split at h
        · cases hw : exact text5 s i with
          | bad a c => rw [hw] at h; cases h
          | ok w j0 =>
            rw [hw] at h
            simp only [Option.some.injEq, R.ok.injEq] at h
            obtain ⟨rfl, -⟩ := h
            refine ⟨?_, ?_⟩
            · unfold WF
              exact .inl ⟨.inr rfl, rfl, rfl⟩
            · show brc 3 3 + nst _ + n ≤ 16
              simp only [nst, nstL]
              show 0 + _ + n ≤ 16
              simp
              omega
        · split at h
          · rename_i h3
            have hlt := here_lt (s := s) (i := i) (by rw [h3]; decide)
            split at h
            · cases h
            · rename_i h16
              split at h
              · simp only [Option.some.injEq, R.ok.injEq] at h
                obtain ⟨rfl, -⟩ := h
                refine ⟨?_, ?_⟩
                · unfold WF
                  exact .inl ⟨.inl rfl, rfl, rfl⟩
                · show brc 3 0 + nst _ + n ≤ 16
                  simp only [nst]
                  show 0 + _ + n ≤ 16
                  simp
                  omega
              · cases hl : lev s f 0 (blanksEnd s (i + 1)) (n + 1) with
                | none => rw [hl] at h; cases h
                | some rl =>
                  rw [hl] at h
                  cases rl with
                  | bad a c => cases h
                  | ok e0 j0 =>
                    obtain ⟨h4, h5⟩ := ihl _ _ _ _ _ (by omega) (by omega) (blanksEnd_le s (i + 1) (by omega)) hl
                    simp only at h
                    split at h
                    · simp only [Option.some.injEq, R.ok.injEq] at h
                      obtain ⟨rfl, -⟩ := h
                      rcases brk_cases 3 (kindE e0) with hb | hb <;> exact ⟨h4, by omega⟩
                    · cases h
          · cases hw : word s i with
            | bad a c => rw [hw] at h; cases h
            | ok w j0 =>
              rw [hw] at h
              simp only [Option.some.injEq, R.ok.injEq] at h
              obtain ⟨rfl, -⟩ := h
              refine ⟨?_, ?_⟩
              · unfold WF
                exact .inr (.inl ⟨.inl rfl, word_wf hw hi, rfl⟩)
              · show brc 3 1 + nst _ + n ≤ 16
                simp only [nst, nstL]
                show 0 + _ + n ≤ 16
                simp
                omega
/-- The text, read again. -/
theorem parse_sh {s : ByteArray} {a : ET} {j : Nat} (h : parse s = .ok a j) (hl : (sh a).length ≤ 256) : ∃ j', parse ⟨(sh a).toArray⟩ = .ok a j' := by
  obtain ⟨h1, h2, h3⟩ := parse_ok h
  obtain ⟨hw, hn⟩ := (lev_wf s _).1 _ _ _ _ _ (by omega) (by omega) (by omega) h2
  have hsz : (⟨(sh a).toArray⟩ : ByteArray).size = (sh a).length := by simp [ByteArray.size]
  have ht : Txt ⟨(sh a).toArray⟩ 0 (lv 0 a) := by
    intro q c hq
    rw [lv_zero] at hq
    have hlt := (List.getElem?_eq_some_iff.1 hq).1
    have hqe := (List.getElem?_eq_some_iff.1 hq).2
    unfold here
    rw [dif_pos (by omega)]
    simp only [Nat.zero_add]
    rw [← hqe]
    rfl
  have hend : here ⟨(sh a).toArray⟩ (0 + (lv 0 a).length) = 0 := by
    unfold here
    rw [dif_neg (by rw [lv_zero]; omega)]
  have hfo : follow 0 ⟨(sh a).toArray⟩ (0 + (lv 0 a).length) := by
    have hbl := blanksEnd_stop ⟨(sh a).toArray⟩ (0 + (lv 0 a).length) (by rw [hend]; decide)
    unfold follow
    rw [hbl, hend]
    refine ⟨by decide, by decide, fun k' h1 h2 => ?_⟩
    rcases (show k' = 0 ∨ k' = 1 ∨ k' = 2 from by omega) with rfl | rfl | rfl <;> decide
  obtain ⟨f, hf⟩ := (all_T a hw).2 0 (by omega) _ 0 0 ht hn hfo
  obtain ⟨r, hr, hp⟩ := parse_cases ⟨(sh a).toArray⟩ (by omega)
  have g1 := lev_le hf (Nat.le_max_left f (8 * (⟨(sh a).toArray⟩ : ByteArray).size + 20))
  have g2 := lev_le hr (Nat.le_max_right f (8 * (⟨(sh a).toArray⟩ : ByteArray).size + 20))
  rw [g1] at g2
  obtain rfl := Option.some.inj g2
  refine ⟨_, hp.trans (if_neg ?_)⟩
  have := blanksEnd_ge ⟨(sh a).toArray⟩ (0 + (lv 0 a).length)
  rw [lv_zero] at this ⊢
  omega
end Ex
end Go.Proofs.Ytfgkcifkfokoiaa
