/- The one text of an expression in plain Lean, its size, and bounds on both. No condition. -/
import Derived.Test.YtfgkcifkfokoiaaExP
import Derived.Lib.Join
set_option linter.unusedVariables false
set_option linter.unusedSimpArgs false
namespace Go.Proofs.Ytfgkcifkfokoiaa
namespace Ex
def kindE : ET → Nat | .node k _ _ => k
def mark (k : Nat) : List UInt8 := if k = 7 then [42] else if k = 8 then [43] else [63]
mutual
def sh : ET → List UInt8
  | .node k wd l =>
    if k = 1 then wd.data.toList
    else if k = 2 then 64 :: wd.data.toList
    else if k = 3 then [35, 116, 101, 120, 116]
    else if k = 4 then Lib.join (shL [4, 5, 6] l) [32]
    else if k = 6 then Lib.join (shL [6, 5] l) [38]
    else if k = 5 then Lib.join (shL [5] l) [124]
    else if k = 7 ∨ k = 8 ∨ k = 9 then Lib.join (shL [4, 5, 6] l) [] ++ mark k
    else [40, 41]
def shL (ks : List Nat) : List ET → List (List UInt8)
  | [] => []
  | e :: l => (if ks.contains (kindE e) then [40] ++ sh e ++ [41] else sh e) :: shL ks l
end
def shW (ks : List Nat) (e : ET) : List UInt8 := if ks.contains (kindE e) then [40] ++ sh e ++ [41] else sh e
theorem shL_map (ks : List Nat) : ∀ l : List ET, shL ks l = l.map (shW ks)
  | [] => rfl
  | e :: l => by rw [shL, shL_map ks l]; rfl
mutual
def wgt : ET → Nat
  | .node _ wd l => 8 + wd.size + wgtL l
def wgtL : List ET → Nat
  | [] => 0
  | e :: l => wgt e + 3 + wgtL l
end
theorem data_len (b : ByteArray) : b.data.toList.length = b.size := by rw [Array.length_toList]; rfl
theorem join_len (l : List (List UInt8)) (sep : List UInt8) : (Lib.join l sep).length ≤ (l.map (fun x => x.length + sep.length)).sum := by
  cases l with
  | nil => simp [Lib.join, List.intercalate]
  | cons x r =>
    rw [Lib.join_cons, List.length_append]
    have : ∀ r : List (List UInt8), (Lib.joinTail sep r).length = (r.map (fun x => x.length + sep.length)).sum := by
      intro r
      induction r with
      | nil => rfl
      | cons y r ih =>
        simp only [Lib.joinTail, List.map_cons, List.flatten_cons, List.length_append, List.sum_cons] at ih ⊢
        omega
    rw [this]
    simp
mutual
theorem sh_len : ∀ e : ET, (sh e).length ≤ wgt e
  | .node k wd l => by
    have h1 := data_len wd
    have h2 := join_len (shL [4, 5, 6] l) [32]
    have h3 := join_len (shL [6, 5] l) [38]
    have h4 := join_len (shL [5] l) [124]
    have h5 := join_len (shL [4, 5, 6] l) []
    have g2 := shL_len [4, 5, 6] 1 (by decide) l
    have g3 := shL_len [6, 5] 1 (by decide) l
    have g4 := shL_len [5] 1 (by decide) l
    have g5 := shL_len [4, 5, 6] 0 (by decide) l
    simp only [List.length_cons, List.length_nil, Nat.zero_add] at h2 h3 h4 h5
    have hm : (mark k).length = 1 := by unfold mark; split; rfl; split <;> rfl
    unfold sh wgt
    repeat' split
    all_goals (try simp only [List.length_cons, List.length_nil, List.length_append])
    all_goals omega
theorem shL_len (ks : List Nat) (c : Nat) (hc : c ≤ 1) : ∀ l : List ET, ((shL ks l).map (fun x => x.length + c)).sum ≤ wgtL l
  | [] => by simp [shL, wgtL]
  | e :: l => by
    have h1 := sh_len e
    have h2 := shL_len ks c hc l
    simp only [shL, wgtL, List.map_cons, List.sum_cons]
    split <;> (try simp only [List.length_cons, List.length_nil, List.length_append]) <;> omega
end
mutual
/-- All words are at most m bytes long. -/
def short (m : Nat) : ET → Prop
  | .node _ wd l => wd.size ≤ m ∧ shortL m l
def shortL (m : Nat) : List ET → Prop
  | [] => True
  | e :: l => short m e ∧ shortL m l
end
mutual
theorem wgt_le (m : Nat) : ∀ e : ET, short m e → wgt e + 3 ≤ (m + 11) * cnt e
  | .node k wd l, h => by
    simp only [short] at h
    have := wgtL_le m l h.2
    simp only [wgt, cnt, Nat.mul_add]
    omega
theorem wgtL_le (m : Nat) : ∀ l : List ET, shortL m l → wgtL l ≤ (m + 11) * cntL l
  | [], _ => by simp [wgtL]
  | e :: l, h => by
    simp only [shortL] at h
    have h1 := wgt_le m e h.1
    have h2 := wgtL_le m l h.2
    simp only [wgtL, cntL, Nat.mul_add]
    omega
end
theorem short_row (m k : Nat) (l : List ET) (h : shortL m l) : short m (row k l) := by
  unfold row
  split
  · simp only [shortL] at h; exact h.1
  · simp only [short]; exact ⟨Nat.zero_le _, h⟩
theorem short_stars (m : Nat) (s : ByteArray) : ∀ (n : Nat) (e : ET) (i : Nat), short m e → short m (stars s n e i).1
  | 0, e, i, h => h
  | n + 1, e, i, h => by
    unfold stars
    split
    · exact h
    · refine short_stars m s n _ _ ?_
      simp only [short, shortL]
      exact ⟨Nat.zero_le _, h, trivial⟩
theorem word_short {s : ByteArray} {i j : Nat} {w : ByteArray} (h : word s i = .ok w j) : w.size ≤ s.size := by
  unfold word at h
  split at h
  · cases h
  · injection h with h1 _
    rw [← h1, ByteArray.size_extract]
    omega
theorem lev_short (s : ByteArray) : ∀ f : Nat,
    (∀ k i nest e j, lev s f k i nest = some (.ok e j) → short s.size e) ∧ (∀ k i nest l j, kids s f k i nest = some (.ok l j) → shortL s.size l) ∧ (∀ i nest e j, atom s f i nest = some (.ok e j) → short s.size e)
  | 0 => by simp [lev, kids, atom]
  | f + 1 => by
    obtain ⟨ihl, ihk, iha⟩ := lev_short s f
    refine ⟨?_, ?_, ?_⟩
    · intro k i nest e j h
      unfold lev at h
      split at h
      · cases ha : atom s f i nest with
        | none => rw [ha] at h; cases h
        | some r =>
          rw [ha] at h
          cases r with
          | bad a c => cases h
          | ok e0 j0 =>
            simp only [Option.some.injEq, R.ok.injEq] at h
            obtain ⟨rfl, rfl⟩ := h
            exact short_stars _ _ _ _ _ (iha _ _ _ _ ha)
      · cases hk : kids s f k (if k = 2 then blanksEnd s i else i) nest with
        | none => rw [hk] at h; cases h
        | some r =>
          rw [hk] at h
          cases r with
          | bad a c => cases h
          | ok l j0 =>
            simp only [Option.some.injEq, R.ok.injEq] at h
            obtain ⟨rfl, rfl⟩ := h
            exact short_row _ _ _ (ihk _ _ _ _ _ hk)
    · intro k i nest l j h
      unfold kids at h
      cases hl : lev s f (k + 1) i nest with
      | none => rw [hl] at h; cases h
      | some r =>
        rw [hl] at h
        cases r with
        | bad a c => cases h
        | ok e0 j0 =>
          simp only at h
          split at h
          · cases hk : kids s f k (if k = 2 then j0 else j0 + 1) nest with
            | none => rw [hk] at h; cases h
            | some r =>
              rw [hk] at h
              cases r with
              | bad a c => cases h
              | ok l0 m0 =>
                simp only [Option.some.injEq, R.ok.injEq] at h
                obtain ⟨rfl, rfl⟩ := h
                simp only [shortL]
                exact ⟨ihl _ _ _ _ _ hl, ihk _ _ _ _ _ hk⟩
          · simp only [Option.some.injEq, R.ok.injEq] at h
            obtain ⟨rfl, rfl⟩ := h
            simp only [shortL]
            exact ⟨ihl _ _ _ _ _ hl, trivial⟩
    · intro i nest e j h
      unfold atom at h
      split at h
      · cases hw : word s (i + 1) with
        | bad a c => rw [hw] at h; cases h
        | ok w j0 =>
          rw [hw] at h
          simp only [Option.some.injEq, R.ok.injEq] at h
          obtain ⟨rfl, rfl⟩ := h
          simp only [short, shortL]
          exact ⟨word_short hw, trivial⟩
      · split at h
        · cases hw : exact text5 s i with
          | bad a c => rw [hw] at h; cases h
          | ok w j0 =>
            rw [hw] at h
            simp only [Option.some.injEq, R.ok.injEq] at h
            obtain ⟨rfl, rfl⟩ := h
            simp only [short, shortL]
            exact ⟨Nat.zero_le _, trivial⟩
        · split at h
          · split at h
            · cases h
            · split at h
              · simp only [Option.some.injEq, R.ok.injEq] at h
                obtain ⟨rfl, rfl⟩ := h
                simp only [short, shortL]
                exact ⟨Nat.zero_le _, trivial⟩
              · cases hl : lev s f 0 (blanksEnd s (i + 1)) (nest + 1) with
                | none => rw [hl] at h; cases h
                | some r =>
                  rw [hl] at h
                  cases r with
                  | bad a c => cases h
                  | ok e0 j0 =>
                    simp only at h
                    split at h
                    · simp only [Option.some.injEq, R.ok.injEq] at h
                      obtain ⟨rfl, rfl⟩ := h
                      exact ihl _ _ _ _ _ hl
                    · cases h
          · cases hw : word s i with
            | bad a c => rw [hw] at h; cases h
            | ok w j0 =>
              rw [hw] at h
              simp only [Option.some.injEq, R.ok.injEq] at h
              obtain ⟨rfl, rfl⟩ := h
              simp only [short, shortL]
              exact ⟨word_short hw, trivial⟩
end Ex
end Go.Proofs.Ytfgkcifkfokoiaa
