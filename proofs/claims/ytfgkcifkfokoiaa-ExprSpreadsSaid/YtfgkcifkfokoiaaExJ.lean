/- A text in brackets, and two such texts with a sign between: what they come to. -/
import Derived.Test.YtfgkcifkfokoiaaExB
set_option linter.unusedVariables false
set_option linter.unusedSimpArgs false
namespace Go.Proofs.Ytfgkcifkfokoiaa
namespace Ex
def stepD (p : Int × Int) (c : UInt8) : Int × Int := if c = 40 then (p.1 + 1, max p.2 (p.1 + 1)) else if c = 41 then (p.1 - 1, p.2) else p
def depth (l : List UInt8) : Int × Int := l.foldl stepD (0, 0)
/-- How many brackets stand in one another at most. -/
def deepv (s : ByteArray) : Int := (depth s.data.toList).2
def bal (s : ByteArray) (i : Nat) : Int := (depth (s.data.toList.take i)).1
theorem depth_succ (l : List UInt8) (i : Nat) (c : UInt8) (h : l[i]? = some c) : depth (l.take (i + 1)) = stepD (depth (l.take i)) c := by
  unfold depth
  rw [List.take_add_one, h, List.foldl_append]
  rfl
theorem fold_mono (l : List UInt8) : ∀ p : Int × Int, p.2 ≤ (l.foldl stepD p).2 := by
  induction l with
  | nil => intro p; exact Int.le_refl _
  | cons c l ih =>
    intro p
    refine Int.le_trans ?_ (ih (stepD p c))
    unfold stepD
    split
    · exact Int.le_max_left _ _
    · split <;> exact Int.le_refl _
theorem depth_le (l : List UInt8) (i : Nat) : (depth (l.take i)).2 ≤ (depth l).2 := by
  have h : depth l = (l.drop i).foldl stepD (depth (l.take i)) := by
    unfold depth
    rw [← List.foldl_append, List.take_append_drop]
  rw [h]
  exact fold_mono _ _
theorem byte_at (s : ByteArray) (i : Nat) (h : i < s.size) : ∃ c, s.data.toList[i]? = some c ∧ here s i = c.toNat := by
  refine ⟨s.data.toList[i]'(by simpa using h), List.getElem?_eq_getElem _, ?_⟩
  rw [here_drop, List.head?_drop, List.getElem?_eq_getElem (by simpa using h)]
  rfl
theorem bal_op {s : ByteArray} {i : Nat} (h : here s i = 40) : bal s (i + 1) = bal s i + 1 ∧ bal s i + 1 ≤ deepv s := by
  obtain ⟨c, h1, h2⟩ := byte_at s i (here_lt (by omega))
  have hc : c = 40 := UInt8.toNat_inj.1 (by rw [← h2, h]; rfl)
  subst hc
  have h3 := depth_succ _ _ _ h1
  have h4 := depth_le s.data.toList (i + 1)
  unfold bal deepv
  rw [h3] at h4 ⊢
  simp only [stepD, if_pos] at h4 ⊢
  exact ⟨trivial, Int.le_trans (Int.le_max_right _ _) h4⟩
theorem bal_cl {s : ByteArray} {i : Nat} (h : here s i = 41) : bal s (i + 1) = bal s i - 1 := by
  obtain ⟨c, h1, h2⟩ := byte_at s i (here_lt (by omega))
  have hc : c = 41 := UInt8.toNat_inj.1 (by rw [← h2, h]; rfl)
  subst hc
  unfold bal
  rw [depth_succ _ _ _ h1]
  rfl
theorem bal_other {s : ByteArray} {i : Nat} (h0 : here s i ≠ 0) (h1 : here s i ≠ 40) (h2 : here s i ≠ 41) : bal s (i + 1) = bal s i := by
  obtain ⟨c, h3, h4⟩ := byte_at s i (here_lt h0)
  unfold bal
  rw [depth_succ _ _ _ h3]
  unfold stepD
  rw [if_neg (by rintro rfl; exact h1 h4), if_neg (by rintro rfl; exact h2 h4)]

section
variable {s t : ByteArray} {pre post : List UInt8}
theorem here_in (ht : t.data.toList = pre ++ (s.data.toList ++ 41 :: post)) (i : Nat) (hi : i < s.size) : here t (i + pre.length) = here s i := by
  rw [here_drop, here_drop, ht, Nat.add_comm, ← List.drop_drop, List.drop_left, List.drop_append_of_le_length (by simp; omega)]
  obtain ⟨c, h1, h2⟩ := byte_at s i hi
  rw [List.head?_append, List.head?_drop, h1]
  rfl
theorem here_at_end (ht : t.data.toList = pre ++ (s.data.toList ++ 41 :: post)) : here t (s.size + pre.length) = 41 := by
  rw [here_drop, ht, Nat.add_comm, ← List.drop_drop, List.drop_left, show s.size = s.data.toList.length by simp, List.drop_left]
  rfl
theorem blanks_in (ht : t.data.toList = pre ++ (s.data.toList ++ 41 :: post)) : ∀ (m i : Nat), s.size - i ≤ m → i ≤ s.size → blanksEnd t (i + pre.length) = blanksEnd s i + pre.length ∧ bal s (blanksEnd s i) = bal s i
  | m, i, hm, hi => by
    by_cases hb : here s i = 32
    · have hlt := here_lt (s := s) (i := i) (by omega)
      match m, hm with
      | 0, hm => omega
      | m + 1, hm =>
        obtain ⟨g1, g2⟩ := blanks_in ht m (i + 1) (by omega) (by omega)
        rw [blanksEnd_step s i hb, blanksEnd_step t (i + pre.length) (by rw [here_in ht i hlt]; exact hb)]
        rw [show i + pre.length + 1 = i + 1 + pre.length by omega, g1, g2, bal_other (by omega) (by omega) (by omega)]
        exact ⟨rfl, rfl⟩
    · rw [blanksEnd_stop s i hb]
      refine ⟨blanksEnd_stop t _ ?_, rfl⟩
      by_cases hlt : i < s.size
      · rw [here_in ht i hlt]; exact hb
      · rw [show i = s.size by omega, here_at_end ht]; decide
def simJ (ht : t.data.toList = pre ++ (s.data.toList ++ 41 :: post)) (hd : deepv s ≤ 14) : Sim s t 1 where
  L i i' n := i ≤ s.size ∧ i' = i + pre.length ∧ bal s i = n
  T i i' n := i ≤ s.size ∧ i' = i + pre.length ∧ bal s i = n
  X i i' n := i ≤ s.size ∧ i' = i + pre.length ∧ bal s i = n
  skip := by
    rintro i i' n ⟨h1, rfl, h3⟩
    obtain ⟨g1, g2⟩ := blanks_in ht _ i (Nat.le_refl _) h1
    exact ⟨blanksEnd_le s i h1, g1, by rw [g2, h3]⟩
  same := by
    rintro i i' n ⟨h1, rfl, h3⟩
    by_cases hlt : i < s.size
    · exact .inl (here_in ht i hlt)
    · refine .inr ⟨?_, by rw [show i = s.size by omega]; exact here_at_end ht⟩
      unfold here
      rw [dif_neg hlt]
  op := by
    rintro i i' n ⟨h1, rfl, h3⟩ h4
    have := here_lt (s := s) (i := i) (by omega)
    exact ⟨this, by omega, by rw [(bal_op h4).1, h3]; rfl⟩
  nest := by
    rintro i i' n ⟨h1, rfl, h3⟩ h4 h5
    have := (bal_op h4).2
    omega
  cl := by
    rintro i i' n ⟨h1, rfl, h3⟩ h4
    have := here_lt (s := s) (i := i) (by omega)
    exact ⟨this, by omega, by rw [bal_cl h4, h3]; omega⟩
  other := by
    rintro i i' n ⟨h1, rfl, h3⟩ h4 h5 h6
    exact ⟨here_lt h4, by omega, by rw [bal_other h4 h5 h6, h3]⟩
  toX := fun h _ => h
  next := by
    rintro i i' n ⟨h1, rfl, h3⟩ h4
    have h0 : here s i ≠ 0 := by intro h; rw [h] at h4; exact absurd h4 (by decide)
    have h40 : here s i ≠ 40 := by intro h; rw [h] at h4; exact absurd h4 (by decide)
    have h41 : here s i ≠ 41 := by intro h; rw [h] at h4; exact absurd h4 (by decide)
    exact ⟨here_in ht i (here_lt h0), here_lt h0, by omega, by rw [bal_other h0 h40 h41, h3]⟩
  stop := by
    rintro i i' n ⟨h1, rfl, h3⟩ h4
    by_cases hlt : i < s.size
    · rw [here_in ht i hlt]; exact h4
    · rw [show i = s.size by omega, here_at_end ht]; decide
  loose := fun h => h
  tl := fun h => h
theorem lev_skip (s : ByteArray) : ∀ (f i n : Nat), lev s f 0 (blanksEnd s i) n = lev s f 0 i n := by
  have h2 : ∀ (f i n : Nat), lev s f 2 (blanksEnd s i) n = lev s f 2 i n := by
    intro f i n
    cases f with
    | zero => simp [lev]
    | succ f => rw [lev, if_neg (by decide), if_pos rfl, lev, if_neg (by decide), if_pos rfl, blanksEnd_idem]
  have h1 : ∀ (f i n : Nat), lev s f 1 (blanksEnd s i) n = lev s f 1 i n := by
    intro f i n
    cases f with
    | zero => simp [lev]
    | succ f =>
      rw [lev, if_neg (by decide), if_neg (by decide), lev, if_neg (by decide), if_neg (by decide)]
      cases f with
      | zero => simp [kids]
      | succ f => rw [kids, h2, kids]
  intro f i n
  cases f with
  | zero => simp [lev]
  | succ f =>
    rw [lev, if_neg (by decide), if_neg (by decide), lev, if_neg (by decide), if_neg (by decide)]
    cases f with
    | zero => simp [kids]
    | succ f => rw [kids, h1, kids]
/-- A text in brackets, at a place in a text, with the end or a bar behind it. -/
theorem group {a : ET} {j : Nat} (hs : parse s = .ok a j) (hd : deepv s ≤ 14) (ht : t.data.toList = pre ++ 40 :: (s.data.toList ++ 41 :: post)) (hc : here t (pre.length + s.size + 2) = 0 ∨ here t (pre.length + s.size + 2) = 124) :
    lev t (8 * s.size + 20 + 6) 1 pre.length 0 = some (.ok a (pre.length + s.size + 2)) := by
  obtain ⟨h1, h2, h3⟩ := parse_ok hs
  subst h3
  have ht' : t.data.toList = (pre ++ [40]) ++ (s.data.toList ++ 41 :: post) := by rw [ht]; simp
  have hpl : (pre ++ [(40 : UInt8)]).length = pre.length + 1 := by simp
  have hq : here t pre.length = 40 := by rw [here_drop, ht, List.drop_left]; rfl
  have hb := blanks_in ht' _ 0 (Nat.le_refl _) (Nat.zero_le _)
  rw [hpl, Nat.zero_add] at hb
  obtain ⟨j', g1, g2, g3, -⟩ := ((simJ ht' hd).lev (8 * s.size + 20)).1 0 (blanksEnd s 0) (blanksEnd t (pre.length + 1)) 0 a s.size (by decide) (fun h => absurd h (by decide))
    (fun _ => ⟨blanksEnd_le s 0 (Nat.zero_le _), by rw [hpl]; exact hb.1, by rw [hb.2]; rfl⟩) (by rw [lev_skip]; exact h2)
  rw [hpl] at g3
  have hbn := (lev_first s _).1 _ _ _ _ _ (by decide) h2
  rw [if_neg (by decide)] at hbn
  have hlt : blanksEnd s 0 < s.size := here_lt (by intro h; rw [h] at hbn; exact absurd hbn (by decide))
  have hne : here t (blanksEnd t (pre.length + 1)) ≠ 41 := by
    have := here_in ht' _ hlt
    rw [hpl] at this
    rw [hb.1, this]
    intro h
    rw [h] at hbn
    exact absurd hbn (by decide)
  have h41 : here t j' = 41 := by have := here_at_end ht'; rw [hpl] at this; rw [g3]; exact this
  have hj : j' + 1 = pre.length + s.size + 2 := by omega
  have ha : atom t (8 * s.size + 20 + 1) pre.length 0 = some (.ok a (pre.length + s.size + 2)) := by
    rw [atom, hq, if_neg (by decide), if_neg (by decide), if_pos rfl, if_neg (by decide), if_neg hne]
    simp only [Nat.zero_add] at g1 ⊢
    rw [g1]
    simp only
    rw [if_pos h41, hj]
  have hbl : blanksEnd t (pre.length + s.size + 2) = pre.length + s.size + 2 := blanksEnd_stop t _ (by omega)
  have hst : star? (here t (pre.length + s.size + 2)) = 0 := by rcases hc with h | h <;> rw [h] <;> rfl
  have hl3 : lev t (8 * s.size + 20 + 2) 3 pre.length 0 = some (.ok a (pre.length + s.size + 2)) := by
    rw [lev, if_pos rfl, ha]
    simp only
    rw [hbl, stars, if_pos hst]
  have hm2 : more 2 (here t (pre.length + s.size + 2)) = false := by rcases hc with h | h <;> rw [h] <;> decide
  have hm1 : more 1 (here t (pre.length + s.size + 2)) = false := by rcases hc with h | h <;> rw [h] <;> decide
  have hk2 : kids t (8 * s.size + 20 + 3) 2 pre.length 0 = some (.ok [a] (pre.length + s.size + 2)) := by
    rw [kids, hl3]
    simp only
    rw [hm2, if_neg (by decide)]
  have hbq : blanksEnd t pre.length = pre.length := blanksEnd_stop t _ (by omega)
  have hl2 : lev t (8 * s.size + 20 + 4) 2 pre.length 0 = some (.ok a (pre.length + s.size + 2)) := by
    rw [lev, if_neg (by decide), if_pos rfl, hbq, hk2]
    rfl
  have hk1 : kids t (8 * s.size + 20 + 5) 1 pre.length 0 = some (.ok [a] (pre.length + s.size + 2)) := by
    rw [kids, hl2]
    simp only
    rw [hm1, if_neg (by decide)]
  rw [lev, if_neg (by decide), if_neg (by decide), hk1]
  rfl
end
theorem size_list (s : ByteArray) : s.size = s.data.toList.length := by simp
/-- One text in brackets. -/
theorem parse_in {s t : ByteArray} {a : ET} {j : Nat} (hs : parse s = .ok a j) (hd : deepv s ≤ 14) (ht : t.data.toList = 40 :: (s.data.toList ++ [41])) (h256 : t.size ≤ 256) : ∃ j', parse t = .ok a j' := by
  have hlen : t.size = s.size + 2 := by rw [size_list t, ht, size_list s]; simp
  have h0 : here t (([] : List UInt8).length + s.size + 2) = 0 := by unfold here; rw [dif_neg (by simp; omega)]
  have hg := group (pre := []) (post := []) hs hd ht (.inl h0)
  rw [List.length_nil, Nat.zero_add] at hg h0
  have hk : kids t (8 * s.size + 20 + 7) 0 0 0 = some (.ok [a] (s.size + 2)) := by
    rw [kids, hg]
    simp only
    rw [h0, if_neg (by decide)]
  refine ⟨s.size + 2, parse_of h256 (f := 8 * s.size + 20 + 8) ?_ (by omega) (by omega)⟩
  rw [lev, if_neg (by decide), if_neg (by decide), hk]
  rfl
/-- Two texts in brackets with a bar between. -/
theorem parse_two {s t u : ByteArray} {a b : ET} {i j : Nat} (hs : parse s = .ok a i) (ht : parse t = .ok b j) (hd : deepv s ≤ 14) (hd' : deepv t ≤ 14)
    (hu : u.data.toList = 40 :: (s.data.toList ++ 41 :: 124 :: 40 :: (t.data.toList ++ [41]))) (h256 : u.size ≤ 256) : ∃ j', parse u = .ok (.node 5 ByteArray.empty [a, b]) j' := by
  have hlen : u.size = s.size + t.size + 5 := by rw [size_list u, hu, size_list s, size_list t]; simp; omega
  have h124 : here u (([] : List UInt8).length + s.size + 2) = 124 := by
    rw [here_drop, hu, List.length_nil, Nat.zero_add, show s.size + 2 = (s.size + 1) + 1 by omega, List.drop_succ_cons, ← List.drop_drop, size_list s, List.drop_left]
    rfl
  have hg1 := group (pre := []) (post := 124 :: 40 :: (t.data.toList ++ [41])) hs hd hu (.inr h124)
  have hpre : (40 :: (s.data.toList ++ [41, 124])).length = s.size + 3 := by rw [size_list s]; simp
  have h0 : here u ((40 :: (s.data.toList ++ [41, 124])).length + t.size + 2) = 0 := by unfold here; rw [hpre, dif_neg (by omega)]
  have hg2 := group (t := u) (pre := 40 :: (s.data.toList ++ [41, 124])) (post := []) ht hd' (by rw [hu]; simp) (.inl h0)
  rw [hpre] at hg2 h0
  rw [List.length_nil, Nat.zero_add] at hg1 h124
  have hk2 : kids u (8 * (s.size + t.size) + 31) 0 (s.size + 3) 0 = some (.ok [b] (s.size + 3 + t.size + 2)) := by
    rw [kids, lev_le hg2 (by omega)]
    simp only
    rw [h0, if_neg (by decide)]
  have hk1 : kids u (8 * (s.size + t.size) + 32) 0 0 0 = some (.ok [a, b] (s.size + 3 + t.size + 2)) := by
    rw [kids, lev_le hg1 (by omega)]
    simp only
    rw [h124, if_pos (by decide), if_neg (by decide), hk2]
  refine ⟨s.size + 3 + t.size + 2, parse_of h256 (f := 8 * (s.size + t.size) + 33) ?_ (by omega) (by omega)⟩
  rw [lev, if_neg (by decide), if_neg (by decide), hk1]
  rfl
end Ex
end Go.Proofs.Ytfgkcifkfokoiaa
