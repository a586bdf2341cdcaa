/- The one text of an expression that was read is read as that expression: plain Lean. Condition: the text has at most 256 bytes. -/
import Derived.Test.YtfgkcifkfokoiaaExS
import Derived.Test.YtfgkcifkfokoiaaExQ
import Derived.Test.YtfgkcifkfokoiaaExB
set_option linter.unusedVariables false
set_option linter.unusedSimpArgs false
namespace Go.Proofs.Ytfgkcifkfokoiaa
namespace Ex
def wordB (wd : ByteArray) : Prop := wd.data.toList ≠ [] ∧ ∀ c ∈ wd.data.toList, wordly c.toNat = true
mutual
/-- What reading can give. -/
def WF : ET → Prop
  | .node k wd l => ((k = 0 ∨ k = 3) ∧ wd = ByteArray.empty ∧ l = []) ∨ ((k = 1 ∨ k = 2) ∧ wordB wd ∧ l = []) ∨ ((k = 4 ∨ k = 5 ∨ k = 6) ∧ wd = ByteArray.empty ∧ 2 ≤ l.length ∧ WFL l) ∨
      ((k = 7 ∨ k = 8 ∨ k = 9) ∧ wd = ByteArray.empty ∧ l.length = 1 ∧ WFL l)
def WFL : List ET → Prop
  | [] => True
  | e :: l => WF e ∧ WFL l
end
theorem WFL.mem : ∀ {l : List ET}, WFL l → ∀ e ∈ l, WF e
  | [], _, e, h => by simp at h
  | x :: l, h, e, he => by
    simp only [WFL] at h
    rcases List.mem_cons.1 he with rfl | he
    · exact h.1
    · exact WFL.mem h.2 e he
/-- Does a kid of that kind stand in brackets at a level? -/
def ksOf (k : Nat) : List Nat := if k = 0 then [] else if k = 1 then [5] else if k = 2 then [6, 5] else [4, 5, 6]
def brc (k kind : Nat) : Nat := if (ksOf k).contains kind then 1 else 0
/-- The level of the kids. -/
def kl (kind : Nat) : Nat := if kind = 5 then 1 else if kind = 6 then 2 else 3
mutual
/-- How many brackets stand in one another in the text. -/
def nst : ET → Nat
  | .node k wd l => if k = 0 then 1 else nstL (kl k) l
def nstL (k : Nat) : List ET → Nat
  | [] => 0
  | e :: l => max (brc k (kindE e) + nst e) (nstL k l)
end
def lv (k : Nat) (e : ET) : List UInt8 := shW (ksOf k) e
theorem lv_zero (e : ET) : lv 0 e = sh e := rfl
theorem lv_in {k : Nat} {e : ET} (h : brc k (kindE e) = 1) : lv k e = 40 :: (sh e ++ [41]) := by
  unfold lv shW
  unfold brc at h
  split at h
  · rename_i h1; rw [if_pos h1]; rfl
  · cases h
theorem lv_out {k : Nat} {e : ET} (h : brc k (kindE e) = 0) : lv k e = sh e := by
  unfold lv shW
  unfold brc at h
  split at h
  · cases h
  · rename_i h1; rw [if_neg h1]
theorem brk_cases (k kind : Nat) : brc k kind = 0 ∨ brc k kind = 1 := by unfold brc; split <;> simp
theorem brk_down {k kind : Nat} (hk : k < 3) (h : kind ≠ kindOf k) : brc k kind = brc (k + 1) kind := by
  rcases (show k = 0 ∨ k = 1 ∨ k = 2 from by omega) with rfl | rfl | rfl
  · have h : kind ≠ 5 := h
    simp [brc, ksOf, h]
  · have h : kind ≠ 6 := h
    simp [brc, ksOf, h]
  · have h : kind ≠ 4 := h
    simp [brc, ksOf, h]
    by_cases h5 : kind = 5 <;> by_cases h6 : kind = 6 <;> simp [h5, h6]
/-- The bytes stand there. -/
def Txt (s : ByteArray) (i : Nat) (l : List UInt8) : Prop := ∀ q c, l[q]? = some c → here s (i + q) = c.toNat
theorem Txt.left {s : ByteArray} {i : Nat} {a b : List UInt8} (h : Txt s i (a ++ b)) : Txt s i a := fun q c hq => h q c (by
  have := (List.getElem?_eq_some_iff.1 hq).1
  rw [List.getElem?_append_left this]; exact hq)
theorem Txt.right {s : ByteArray} {i : Nat} {a b : List UInt8} (h : Txt s i (a ++ b)) : Txt s (i + a.length) b := fun q c hq => by
  have := h (a.length + q) c (by rw [List.getElem?_append_right (by omega)]; rwa [Nat.add_sub_cancel_left])
  rwa [← Nat.add_assoc] at this
theorem Txt.head {s : ByteArray} {i : Nat} {c : UInt8} {l : List UInt8} (h : Txt s i (c :: l)) : here s i = c.toNat := h 0 c rfl
theorem Txt.tail {s : ByteArray} {i : Nat} {c : UInt8} {l : List UInt8} (h : Txt s i (c :: l)) : Txt s (i + 1) l := fun q d hq => by
  have := h (q + 1) d (by simpa using hq)
  rwa [show i + 1 + q = i + (q + 1) from by omega]
/-- Nothing that goes on at level k stands there. -/
def follow (k : Nat) (s : ByteArray) (p : Nat) : Prop := wordly (here s p) = false ∧ star? (here s (blanksEnd s p)) = 0 ∧ ∀ k', k ≤ k' → k' < 3 → more k' (here s (blanksEnd s p)) = false
theorem follow.up {k : Nat} {s : ByteArray} {p : Nat} (h : follow k s p) : follow (k + 1) s p := ⟨h.1, h.2.1, fun k' h1 h2 => h.2.2 k' (by omega) h2⟩
theorem blanks_at {s : ByteArray} {i : Nat} (h : begins (here s i) = true) : blanksEnd s i = i := blanksEnd_stop s i (fun e => by rw [e] at h; exact absurd h (by decide))
theorem begins_star {c : Nat} (h : begins c = true) : star? c = 0 := by
  unfold star?
  split
  · rename_i e; rw [e] at h; exact absurd h (by decide)
  · split
    · rename_i e; rw [e] at h; exact absurd h (by decide)
    · split
      · rename_i e; rw [e] at h; exact absurd h (by decide)
      · rfl
/-- Signs behind an atom, rounds enough. -/
def starsE (s : ByteArray) (e : ET) (i : Nat) : ET × Nat := stars s (s.size - i + 1) e i
theorem stars_fuel (s : ByteArray) : ∀ (m n : Nat) (e : ET) (i : Nat), s.size - i < m → s.size - i < n → stars s m e i = stars s n e i
  | 0, n, e, i, h, _ => by omega
  | m + 1, 0, e, i, _, h => by omega
  | m + 1, n + 1, e, i, h1, h2 => by
    unfold stars
    split
    · rfl
    · rename_i hh
      have hlt : i < s.size := here_lt (fun e => by rw [e] at hh; exact hh rfl)
      have hge := blanksEnd_ge s (i + 1)
      exact stars_fuel s m n _ _ (by omega) (by omega)
theorem starsE_step {s : ByteArray} {e : ET} {i : Nat} (h : star? (here s i) ≠ 0) : starsE s e i = starsE s (.node (star? (here s i)) ByteArray.empty [e]) (blanksEnd s (i + 1)) := by
  have hlt : i < s.size := here_lt (fun e => by rw [e] at h; exact h rfl)
  have hge := blanksEnd_ge s (i + 1)
  unfold starsE
  rw [stars, if_neg h]
  exact stars_fuel s _ _ _ _ (by omega) (by omega)
theorem starsE_stop {s : ByteArray} {e : ET} {i : Nat} (h : star? (here s i) = 0) : starsE s e i = (e, i) := by
  unfold starsE
  rw [stars, if_pos h]

theorem kids_le {s : ByteArray} {f g k i n : Nat} {r : R (List ET)} (h : kids s f k i n = some r) (hg : f ≤ g) : kids s g k i n = some r := by
  obtain ⟨d, rfl⟩ : ∃ d, g = f + d := ⟨g - f, by omega⟩
  clear hg
  induction d with
  | zero => exact h
  | succ d ih => exact (lev_more s (f + d)).2.1 _ _ _ _ ih
/-- The text begins with a sign that begins something. -/
theorem lv_first_of {e : ET} {k : Nat} (h : ∃ c r, sh e = c :: r ∧ begins c.toNat = true) : ∃ c r, lv k e = c :: r ∧ begins c.toNat = true := by
  rcases brk_cases k (kindE e) with hb | hb
  · rw [lv_out hb]; exact h
  · rw [lv_in hb]; exact ⟨40, _, rfl, by decide⟩
mutual
theorem sh_first : ∀ e : ET, WF e → ∃ c r, sh e = c :: r ∧ begins c.toNat = true
  | .node k wd l, h => by
    simp only [WF] at h
    rcases h with ⟨h1, h2, h3⟩ | ⟨h1, ⟨h2, h4⟩, h3⟩ | ⟨h1, h2, h3, h4⟩ | ⟨h1, h2, h3, h4⟩
    · rcases h1 with rfl | rfl
      · exact ⟨40, [41], by simp [sh], by decide⟩
      · exact ⟨35, [116, 101, 120, 116], by simp [sh], by decide⟩
    · rcases h1 with rfl | rfl
      · cases hw : wd.data.toList with
        | nil => exact absurd hw h2
        | cons c r => exact ⟨c, r, by simp [sh, hw], by have := h4 c (by simp [hw]); unfold begins; rw [this]; rfl⟩
      · exact ⟨64, wd.data.toList, by simp [sh], by decide⟩
    · obtain ⟨c, r, hc, hb⟩ := sh_firstL l h4 (by omega) (kl k)
      rcases h1 with rfl | rfl | rfl
      · exact ⟨c, _, by rw [sh, if_neg (by decide), if_neg (by decide), if_neg (by decide), if_pos rfl]; exact hc [32], hb⟩
      · exact ⟨c, _, by rw [sh, if_neg (by decide), if_neg (by decide), if_neg (by decide), if_neg (by decide), if_neg (by decide), if_pos rfl]; exact hc [124], hb⟩
      · exact ⟨c, _, by rw [sh, if_neg (by decide), if_neg (by decide), if_neg (by decide), if_neg (by decide), if_pos rfl]; exact hc [38], hb⟩
    · obtain ⟨c, r, hc, hb⟩ := sh_firstL l h4 (by omega) (kl k)
      rcases h1 with rfl | rfl | rfl
      all_goals exact ⟨c, _, by rw [sh, if_neg (by decide), if_neg (by decide), if_neg (by decide), if_neg (by decide), if_neg (by decide), if_neg (by decide), if_pos (by decide)]; have hc' := hc []; change Lib.join (shL [4, 5, 6] l) [] = _ at hc'; rw [hc']; rfl, hb⟩
theorem sh_firstL : ∀ l : List ET, WFL l → 1 ≤ l.length → ∀ k : Nat, ∃ (c : UInt8) (r : List UInt8 → List UInt8), (∀ sep, Lib.join (shL (ksOf k) l) sep = c :: r sep) ∧ begins c.toNat = true
  | [], _, h, _ => by simp at h
  | e :: l, h, _, k => by
    simp only [WFL] at h
    obtain ⟨c, r, h1, h2⟩ := lv_first_of (k := k) (sh_first e h.1)
    refine ⟨c, fun sep => r ++ Lib.joinTail sep (shL (ksOf k) l), fun sep => ?_, h2⟩
    rw [shL, Lib.join_cons]
    show lv k e ++ _ = _
    rw [h1]
    rfl
end
theorem lv_first {e : ET} (h : WF e) (k : Nat) : ∃ c r, lv k e = c :: r ∧ begins c.toNat = true := lv_first_of (sh_first e h)
end Ex
end Go.Proofs.Ytfgkcifkfokoiaa
