/- Blanks around signs and at both ends change nothing of what is read. -/
import Derived.Test.YtfgkcifkfokoiaaExQ
import Derived.Test.YtfgkcifkfokoiaaExW6
set_option linter.unusedVariables false
set_option linter.unusedSimpArgs false
namespace Go.Proofs.Ytfgkcifkfokoiaa
namespace Ex
/-- More rounds give the same. -/
theorem lev_more (s : ByteArray) : ∀ f : Nat,
    (∀ k i n r, lev s f k i n = some r → lev s (f + 1) k i n = some r) ∧ (∀ k i n r, kids s f k i n = some r → kids s (f + 1) k i n = some r) ∧ (∀ i n r, atom s f i n = some r → atom s (f + 1) i n = some r)
  | 0 => by simp [lev, kids, atom]
  | f + 1 => by
    obtain ⟨ihl, ihk, iha⟩ := lev_more s f
    refine ⟨?_, ?_, ?_⟩
    · intro k i n r h
      rw [lev] at h ⊢
      split at h
      · rename_i k3
        rw [if_pos k3]
        cases ha : atom s f i n with
        | none => rw [ha] at h; cases h
        | some q => rw [iha _ _ _ ha]; rw [ha] at h; exact h
      · rename_i k3
        rw [if_neg k3]
        cases ha : kids s f k (if k = 2 then blanksEnd s i else i) n with
        | none => rw [ha] at h; cases h
        | some q => rw [ihk _ _ _ _ ha]; rw [ha] at h; exact h
    · intro k i n r h
      rw [kids] at h ⊢
      cases ha : lev s f (k + 1) i n with
      | none => rw [ha] at h; cases h
      | some q =>
        rw [ihl _ _ _ _ ha]
        rw [ha] at h
        cases q with
        | bad a c => exact h
        | ok e j =>
          simp only at h ⊢
          split at h
          · rename_i hm
            rw [if_pos hm]
            cases hb : kids s f k (if k = 2 then j else j + 1) n with
            | none => rw [hb] at h; cases h
            | some q => rw [ihk _ _ _ _ hb]; rw [hb] at h; exact h
          · rename_i hm
            rw [if_neg hm]
            exact h
    · intro i n r h
      rw [atom] at h ⊢
      split at h
      · rename_i h1; rw [if_pos h1]; exact h
      · rename_i h1
        rw [if_neg h1]
        split at h
        · rename_i h2; rw [if_pos h2]; exact h
        · rename_i h2
          rw [if_neg h2]
          split at h
          · rename_i h3
            rw [if_pos h3]
            split at h
            · rename_i h4; rw [if_pos h4]; exact h
            · rename_i h4
              rw [if_neg h4]
              split at h
              · rename_i h5; rw [if_pos h5]; exact h
              · rename_i h5
                rw [if_neg h5]
                cases ha : lev s f 0 (blanksEnd s (i + 1)) (n + 1) with
                | none => rw [ha] at h; cases h
                | some q => rw [ihl _ _ _ _ ha]; rw [ha] at h; exact h
          · rename_i h3
            rw [if_neg h3]
            exact h
theorem lev_fuel {s : ByteArray} {f k i n : Nat} {r : R ET} (h : lev s f k i n = some r) : ∀ m, lev s (f + m) k i n = some r
  | 0 => h
  | m + 1 => (lev_more s (f + m)).1 _ _ _ _ (lev_fuel h m)
theorem lev_le {s : ByteArray} {f g k i n : Nat} {r : R ET} (h : lev s f k i n = some r) (hg : f ≤ g) : lev s g k i n = some r := by
  have := lev_fuel h (g - f)
  rwa [show f + (g - f) = g from by omega] at this
/-- What a text that is an expression comes to. -/
theorem parse_ok {s : ByteArray} {a : ET} {j : Nat} (h : parse s = .ok a j) : s.size ≤ 256 ∧ lev s (8 * s.size + 20) 0 0 0 = some (.ok a j) ∧ j = s.size := by
  unfold parse at h
  split at h
  · cases h
  · rename_i hs
    cases hl : lev s (8 * s.size + 20) 0 0 0 with
    | none => rw [hl] at h; cases h
    | some r =>
      rw [hl] at h
      cases r with
      | bad a c => cases h
      | ok t j0 =>
        simp only at h
        split at h
        · cases h
        · rename_i hj
          simp only [R.ok.injEq] at h
          obtain ⟨rfl, rfl⟩ := h
          have := ((lev_forward s _).1 _ _ _ _ _ (Nat.zero_le _) hl).2.1
          exact ⟨by omega, rfl, by omega⟩
theorem parse_of {s : ByteArray} {a : ET} {j f : Nat} (hs : s.size ≤ 256) (h : lev s f 0 0 0 = some (.ok a j)) (hf : f ≤ 8 * s.size + 20) (hj : s.size ≤ j) : parse s = .ok a j := by
  unfold parse
  rw [if_neg (by omega), lev_le h hf]
  simp only
  rw [if_neg (by omega)]

/-- The byte at a place, out of the list. -/
theorem here_drop (s : ByteArray) (i : Nat) : here s i = ((s.data.toList.drop i).head?.map (·.toNat)).getD 0 := by
  unfold here
  split
  · rename_i h
    rw [List.head?_drop, List.getElem?_eq_getElem (by simpa using h)]
    simp
    rfl
  · rename_i h
    rw [List.head?_drop, List.getElem?_eq_none (by simpa using Nat.le_of_not_lt h)]
    rfl
theorem here_cons {s : ByteArray} {i : Nat} {c : UInt8} {l : List UInt8} (h : s.data.toList.drop i = c :: l) : here s i = c.toNat ∧ i < s.size ∧ s.data.toList.drop (i + 1) = l := by
  refine ⟨by rw [here_drop, h]; rfl, ?_, ?_⟩
  · have := congrArg List.length h
    simp at this
    have h2 : s.size = s.data.size := rfl
    omega
  · rw [← List.tail_drop, h]; rfl
theorem here_nil {s : ByteArray} {i : Nat} (h : s.data.toList.drop i = []) : here s i = 0 := by rw [here_drop, h]; rfl
theorem drop_cases {s : ByteArray} {i : Nat} (h : here s i ≠ 0) : ∃ c l, s.data.toList.drop i = c :: l := by
  cases hd : s.data.toList.drop i with
  | nil => exact absurd (here_nil hd) h
  | cons c l => exact ⟨c, l, rfl⟩
def dropB (l : List UInt8) : List UInt8 := l.dropWhile (· == 32)
theorem drop_blanksEnd (s : ByteArray) : ∀ (m i : Nat), s.size - i ≤ m → s.data.toList.drop (blanksEnd s i) = dropB (s.data.toList.drop i)
  | m, i, hm => by
    cases hd : s.data.toList.drop i with
    | nil =>
      rw [blanksEnd_stop s i (by rw [here_nil hd]; decide), hd]
      rfl
    | cons c l =>
      obtain ⟨h1, h2, h3⟩ := here_cons hd
      by_cases hc : c = 32
      · subst hc
        match m, hm with
        | 0, hm => omega
        | m + 1, hm =>
          rw [blanksEnd_step s i (by rw [h1]; rfl), drop_blanksEnd s m (i + 1) (by omega), h3]
          rfl
      · rw [blanksEnd_stop s i (by rw [h1]; intro h; exact hc (UInt8.toNat_inj.1 h)), hd]
        unfold dropB
        rw [List.dropWhile_cons_of_neg (by simpa using hc)]
def signB (c : UInt8) : Bool := c == 124 || c == 38 || c == 40 || c == 41
def inB (m : Nat) (c : UInt8) : List UInt8 := if signB c then List.replicate m 32 ++ c :: List.replicate m 32 else [c]
/-- The text with blanks around its signs and behind it. -/
def spr (m : Nat) (l : List UInt8) : List UInt8 := l.flatMap (inB m) ++ List.replicate m 32
theorem spr_nil (m : Nat) : spr m [] = List.replicate m 32 := rfl
theorem spr_sign (m : Nat) (c : UInt8) (l : List UInt8) (h : signB c = true) : spr m (c :: l) = List.replicate m 32 ++ c :: (List.replicate m 32 ++ spr m l) := by simp [spr, inB, h]
theorem spr_other (m : Nat) (c : UInt8) (l : List UInt8) (h : signB c = false) : spr m (c :: l) = c :: spr m l := by simp [spr, inB, h]
theorem dropB_rep (m : Nat) (l : List UInt8) : dropB (List.replicate m 32 ++ l) = dropB l := by
  induction m with
  | zero => rfl
  | succ m ih => rw [List.replicate_succ, List.cons_append]; exact ih
theorem dropB_repn (m : Nat) : dropB (List.replicate m 32) = [] := by have := dropB_rep m []; simp only [List.append_nil] at this; exact this
theorem dropB_cons (c : UInt8) (l : List UInt8) (h : c ≠ 32) : dropB (c :: l) = c :: l := by unfold dropB; rw [List.dropWhile_cons_of_neg (by simpa using h)]
theorem dropB_idem (l : List UInt8) : dropB (dropB l) = dropB l := by
  induction l with
  | nil => rfl
  | cons c l ih =>
    by_cases h : c = 32
    · subst h; exact ih
    · rw [dropB_cons c l h, dropB_cons c l h]
theorem dropB_spr (m : Nat) (l : List UInt8) : dropB (spr m (dropB l)) = dropB (spr m l) := by
  induction l with
  | nil => rfl
  | cons c l ih =>
    by_cases h : c = 32
    · subst h
      rw [spr_other m 32 l (by decide)]
      exact ih
    · rw [dropB_cons c l h]
theorem sign_ne {c : UInt8} (h : signB c = true) : c ≠ 32 := by rintro rfl; exact absurd h (by decide)
theorem dropB_spr_cons (m : Nat) (c : UInt8) (l : List UInt8) (h : c ≠ 32) : ∃ r, dropB (spr m (c :: l)) = c :: r ∧ dropB r = dropB (spr m l) ∧ (signB c = false → r = spr m l) := by
  cases hs : signB c with
  | true => exact ⟨_, by rw [spr_sign m c l hs, dropB_rep, dropB_cons c _ h], by rw [dropB_rep], fun h => by cases h⟩
  | false => exact ⟨_, by rw [spr_other m c l hs, dropB_cons c _ h], rfl, fun _ => rfl⟩
theorem plain_sign {c : UInt8} (h : plain c.toNat = true) : signB c = false ∧ c ≠ 32 := by
  have : ∀ n : Fin 256, plain n.val = true → signB (UInt8.ofNat n.val) = false ∧ UInt8.ofNat n.val ≠ 32 := by decide +kernel
  have := this ⟨c.toNat, c.toNat_lt⟩ h
  simpa using this

def simB (m : Nat) (s t : ByteArray) : Sim s t 0 where
  L i i' n := i ≤ s.size ∧ dropB (t.data.toList.drop i') = dropB (spr m (s.data.toList.drop i))
  T i i' n := i ≤ s.size ∧ t.data.toList.drop i' = dropB (spr m (s.data.toList.drop i)) ∧ here s i ≠ 32
  X i i' n := i ≤ s.size ∧ t.data.toList.drop i' = spr m (s.data.toList.drop i)
  skip := by
    rintro i i' n ⟨h1, h2⟩
    exact ⟨blanksEnd_le s i h1, by rw [drop_blanksEnd t _ i' (Nat.le_refl _), drop_blanksEnd s _ i (Nat.le_refl _), dropB_spr, h2], blanksEnd_nb s i⟩
  same := by
    rintro i i' n ⟨h1, h2, h3⟩
    refine .inl ?_
    cases hd : s.data.toList.drop i with
    | nil =>
      rw [hd, spr_nil, dropB_repn] at h2
      rw [here_nil h2, here_nil hd]
    | cons c l =>
      have hc := here_cons hd
      obtain ⟨r, g1, g2, g3⟩ := dropB_spr_cons m c l (by rintro rfl; exact h3 hc.1)
      rw [hd, g1] at h2
      rw [(here_cons h2).1, hc.1]
  op := by
    rintro i i' n ⟨h1, h2, h3⟩ h4
    obtain ⟨c, l, hd⟩ := drop_cases (show here s i ≠ 0 by omega)
    have hc := here_cons hd
    obtain ⟨r, g1, g2, g3⟩ := dropB_spr_cons m c l (by rintro rfl; exact h3 hc.1)
    rw [hd, g1] at h2
    exact ⟨hc.2.1, by rw [(here_cons h2).2.2, hc.2.2, g2]⟩
  nest := fun _ _ h => h
  cl := by
    rintro i i' n ⟨h1, h2, h3⟩ h4
    obtain ⟨c, l, hd⟩ := drop_cases (show here s i ≠ 0 by omega)
    have hc := here_cons hd
    obtain ⟨r, g1, g2, g3⟩ := dropB_spr_cons m c l (by rintro rfl; exact h3 hc.1)
    rw [hd, g1] at h2
    exact ⟨hc.2.1, by rw [(here_cons h2).2.2, hc.2.2, g2]⟩
  other := by
    rintro i i' n ⟨h1, h2, h3⟩ h4 _ _
    obtain ⟨c, l, hd⟩ := drop_cases h4
    have hc := here_cons hd
    obtain ⟨r, g1, g2, g3⟩ := dropB_spr_cons m c l (by rintro rfl; exact h3 hc.1)
    rw [hd, g1] at h2
    exact ⟨hc.2.1, by rw [(here_cons h2).2.2, hc.2.2, g2]⟩
  toX := by
    rintro i i' n ⟨h1, h2, h3⟩ h4
    obtain ⟨c, l, hd⟩ := drop_cases (show here s i ≠ 0 by rintro h; rw [h] at h4; exact absurd h4 (by decide))
    have hc := here_cons hd
    rw [hc.1] at h4
    obtain ⟨p1, p2⟩ := plain_sign h4
    refine ⟨h1, ?_⟩
    rw [h2, hd, spr_other m c l p1, dropB_cons c _ p2]
  next := by
    rintro i i' n ⟨h1, h2⟩ h4
    obtain ⟨c, l, hd⟩ := drop_cases (show here s i ≠ 0 by rintro h; rw [h] at h4; exact absurd h4 (by decide))
    have hc := here_cons hd
    rw [hc.1] at h4
    obtain ⟨p1, p2⟩ := plain_sign h4
    rw [hd, spr_other m c l p1] at h2
    have hc' := here_cons h2
    exact ⟨by rw [hc'.1, hc.1], hc.2.1, by rw [hc'.2.2, hc.2.2]⟩
  stop := by
    rintro i i' n ⟨h1, h2⟩ h4
    have hb : ∀ (m : Nat) (r : List UInt8), (∀ c r', r = c :: r' → wordly c.toNat = false) → t.data.toList.drop i' = List.replicate m 32 ++ r → wordly (here t i') = false := by
      intro m r hr h
      cases m with
      | zero =>
        rw [List.replicate_zero, List.nil_append] at h
        cases r with
        | nil => rw [here_nil h]; decide
        | cons c r => rw [(here_cons h).1]; exact hr c r rfl
      | succ m =>
        rw [List.replicate_succ, List.cons_append] at h
        rw [(here_cons h).1]; decide
    cases hd : s.data.toList.drop i with
    | nil =>
      rw [hd, spr_nil] at h2
      exact hb m [] (fun c r' h => by cases h) (by simpa using h2)
    | cons c l =>
      have hc := here_cons hd
      rw [hc.1] at h4
      cases hs : signB c with
      | true =>
        rw [hd, spr_sign m c l hs] at h2
        exact hb m _ (fun c' r' h => by injection h with h _; rw [← h]; exact h4) h2
      | false =>
        rw [hd, spr_other m c l hs] at h2
        rw [(here_cons h2).1]; exact h4
  loose := by
    rintro i i' n ⟨h1, h2⟩
    exact ⟨h1, by rw [h2]⟩
  tl := by
    rintro i i' n ⟨h1, h2, _⟩
    exact ⟨h1, by rw [h2, dropB_idem]⟩

/-- The text with blanks around its signs and at both ends is the same expression. -/
theorem parse_spr (m : Nat) {s t : ByteArray} {a : ET} {j : Nat} (h : parse s = .ok a j) (ht : t.data.toList = List.replicate m 32 ++ spr m s.data.toList) (hs : t.size ≤ 256) : ∃ j', parse t = .ok a j' := by
  obtain ⟨h1, h2, h3⟩ := parse_ok h
  have hlen : s.size ≤ t.size := by
    have h4 : t.size = t.data.toList.length := by simp
    have h5 : s.size = s.data.toList.length := by simp
    have h6 : ∀ l : List UInt8, l.length ≤ (l.flatMap (inB m)).length := by
      intro l
      induction l with
      | nil => simp
      | cons c l ih =>
        have : 1 ≤ (inB m c).length := by unfold inB; split <;> simp <;> omega
        simp only [List.flatMap_cons, List.length_append, List.length_cons]
        omega
    have := h6 s.data.toList
    rw [h4, h5, ht]
    simp only [spr, List.length_append]
    omega
  obtain ⟨j', g1, g2⟩ := ((simB m s t).lev (8 * s.size + 20)).1 0 0 0 0 a j (by decide) (fun h => absurd h (by decide)) (fun _ => ⟨Nat.zero_le _, by rw [List.drop_zero, List.drop_zero, ht, dropB_rep]⟩) h2
  have g3 := g2.2.1
  rw [h3, List.drop_of_length_le (show s.data.toList.length ≤ s.size by simp), spr_nil, dropB_repn] at g3
  have g4 : t.size ≤ j' := by
    have := congrArg List.length g3
    simp at this
    have h5 : t.size = t.data.size := rfl
    omega
  exact ⟨j', parse_of hs g1 (by omega) g4⟩
end Ex
end Go.Proofs.Ytfgkcifkfokoiaa
