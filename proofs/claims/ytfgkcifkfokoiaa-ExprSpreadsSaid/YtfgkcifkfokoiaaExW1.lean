/- The walks through the small functions of the parser of package expr: what stands here, blanks, words, an exact text. No condition but that the text is no longer than a string may be. -/
import Derived.Test.YtfgkcifkfokoiaaProg
import Derived.Test.YtfgkcifkfokoiaaHeap
import Derived.Test.YtfgkcifkfokoiaaExP
set_option linter.unusedVariables false
set_option linter.unusedSimpArgs false
namespace Go.Proofs.Ytfgkcifkfokoiaa
open Go.RowKit
namespace Ex

/-- The parser's object: the text, the place, the depth. -/
abbrev PAt (w : World) (p : Nat) (s : ByteArray) (i nest : Nat) : Prop := Blk w p 131 [.string s, .int .i64 (i : Int), .int .i64 (nest : Int)]

theorem here_of {s : ByteArray} {i : Nat} (h : i < s.size) : here s i = (s[i]'h).toNat := by unfold here; rw [dif_pos h]
theorem here_end {s : ByteArray} {i : Nat} (h : s.size ≤ i) : here s i = 0 := by unfold here; rw [dif_neg (by omega)]

theorem PAt.set {w : World} {p : Nat} {s : ByteArray} {i nest : Nat} (h : PAt w p s i nest) (j : Nat) : PAt (w.setCell ⟨p, 1, none⟩ (.int .i64 (j : Int))) p s j nest := Blk.set h 1 _

set_option maxHeartbeats 400000 in
theorem here_any (p : Nat) (s : ByteArray) (i nest : Nat) (w : World) (h : PAt w p s i nest) (hs : s.size ≤ 140737488351232) :
    Calls Try.prog 148 #[.pointer (some ⟨p, 0, none⟩)] w fun e w' => e = .returned (.int .u8 (here s i : Nat)) ∧ ∃ n, w' = w.drewN n := by
  have c0 := h.cellAt (i := 0) rfl
  have c1 := h.cellAt (i := 1) rfl
  by_cases hlt : i < s.size
  · have he := hid (here_of hlt)
    go_enter Try.func148, Try.ntmps148
    go_wp2
    go_quiet (fail)
    go_wp2
    go_quiet (fail)
    go_wp2
    go_ret
    exact ⟨by rw [he.out]; rfl, _, World.drewN_drewN ..⟩
  · have he := hid (here_end (s := s) (i := i) (by omega))
    go_enter Try.func148, Try.ntmps148
    go_wp2
    go_quiet (fail)
    go_wp2
    go_ret
    exact ⟨by rw [he.out]; rfl, _, rfl⟩

set_option maxHeartbeats 400000 in
theorem blanks_any (p : Nat) (s : ByteArray) (i nest : Nat) (w : World) (h : PAt w p s i nest) (hs : s.size ≤ 140737488351232) (hi : i ≤ s.size) :
    Calls Try.prog 161 #[.pointer (some ⟨p, 0, none⟩)] w fun e w' => e = .returned (.tuple #[]) ∧ PAt w' p s (blanksEnd s i) nest ∧ Keep (· = p) w w' := by
  go_enter Try.func161, Try.ntmps161
  go_wp2_with fail
  go_loopg [] (s.size - i) (fun k wr => ∃ j, j ≤ s.size ∧ k = s.size - j ∧ blanksEnd s i = blanksEnd s j ∧ PAt wr p s j nest ∧ Keep (· = p) w wr)
  case atStart => exact ⟨i, hi, rfl, rfl, h, Keep.refl _ _⟩
  case round =>
    obtain ⟨j, hj, hk, he, hp, hK⟩ := hrel
    have Hk := hid hk
    have He := hid he
    clear hk he
    by_cases hb : here s j = 32
    · have hstep := hid (blanksEnd_step s j hb)
      have hlt : j < s.size := here_lt (by omega)
      go_wp2_with fail
      refine (here_any p s j nest _ hp hs).mono ?_
      rintro e w' ⟨rfl, n, rfl⟩
      rw [hb]
      have c1 := hp.cellAt (i := 1) rfl
      have f1 := hp.frozen 1
      go_wp2_with fail
      go_roundg (s.size - (j + 1))
      case measure => rw [Hk.out]; omega
      case rel => exact ⟨j + 1, by omega, rfl, by rw [He.out, hstep.out], (Blk.drewN hp n).set 1 _, (hK.drewN n).setCell (.inl rfl) _⟩
    · have hstep := hid (blanksEnd_stop s j hb)
      go_wp2_with fail
      refine (here_any p s j nest _ hp hs).mono ?_
      rintro e w' ⟨rfl, n, rfl⟩
      have hb1 : (((here s j : Nat) : Int) == 32) = false := by simp; omega
      go_wp2_with fail
      go_end0
      exact ⟨rfl, by rw [He.out, hstep.out]; exact Blk.drewN hp n, hK.drewN n⟩

theorem wordly_eq (c : Nat) : wordly c = decide ((97 ≤ c ∧ c ≤ 122) ∨ (48 ≤ c ∧ c ≤ 57) ∨ c = 45) := by
  unfold wordly
  rw [Bool.eq_iff_iff]
  simp
set_option maxHeartbeats 400000 in
theorem wordly_any (c : Nat) (hc : c < 256) (w : World) :
    Calls Try.prog 169 #[.int .u8 (c : Nat)] w fun e w' => e = .returned (.bool (wordly c)) ∧ w = w' := by
  have hw : ∃ b, b = wordly c := ⟨_, rfl⟩
  obtain ⟨b, hb⟩ := hw
  rw [← hb]
  have Hb := hid hb
  clear hb
  rcases (show c < 45 ∨ c = 45 ∨ (45 < c ∧ c < 48) ∨ (48 ≤ c ∧ c ≤ 57) ∨ (57 < c ∧ c < 97) ∨ (97 ≤ c ∧ c ≤ 122) ∨ 122 < c from by omega) with h | h | ⟨h, h'⟩ | ⟨h, h'⟩ | ⟨h, h'⟩ | ⟨h, h'⟩ | h
  case inr.inl =>
    subst h
    go_enter Try.func169, Try.ntmps169
    go_wp2
    go_ret
    exact ⟨by rw [Hb.out]; rfl, rfl⟩
  all_goals
    have hne : (((c : Nat) : Int) == 45) = false := by simp; omega
    go_enter Try.func169, Try.ntmps169
    go_wp2
    go_ret
    exact ⟨by rw [Hb.out, wordly_eq]; show Ending.returned (.bool _) = Ending.returned (.bool _); refine congrArg _ (congrArg _ ?_); rw [Bool.eq_iff_iff]; first | (simp; omega) | (simp; done), rfl⟩

/-- What is thrown where a text goes wrong. -/
def flt (a c : Nat) : List PanicEntry := [{ v := .iface 127 (.agg #[.int .i64 (a : Int), .int .i64 (c : Int)]), recovered := false }]

set_option maxHeartbeats 400000 in
theorem wrong_any (p : Nat) (s : ByteArray) (i nest c : Nat) (w : World) (h : PAt w p s i nest) :
    Calls Try.prog 75 #[.pointer (some ⟨p, 0, none⟩), .int .i64 (c : Int)] w fun e w' => e = .panicked (flt i c) ∧ w = w' := by
  have c1 := h.cellAt (i := 1) rfl
  go_enter Try.func75, Try.ntmps75
  go_wp2
  exact ⟨rfl, rfl, rfl⟩

/-- What a call of the parser comes to, by what reading comes to. -/
def Post {α : Type} (w : World) (p : Nat) (s : ByteArray) (nest : Nat) (V : World → α → Value → Prop) : R α → Ending → World → Prop
  | .ok a j, e, w' => ∃ v, e = .returned v ∧ V w' a v ∧ PAt w' p s j nest ∧ Keep (· = p) w w'
  | .bad a c, e, w' => e = .panicked (flt a c) ∧ Keep (· = p) w w'

set_option maxHeartbeats 400000 in
theorem word_any (p : Nat) (s : ByteArray) (i nest : Nat) (w : World) (h : PAt w p s i nest) (hs : s.size ≤ 140737488351232) (hi : i ≤ s.size) :
    Calls Try.prog 171 #[.pointer (some ⟨p, 0, none⟩)] w fun e w' => Post w p s nest (fun _ wd v => v = .string wd) (word s i) e w' := by
  have c1 := h.cellAt (i := 1) rfl
  go_enter Try.func171, Try.ntmps171
  go_wp2_with fail
  go_loopg [] (s.size - i) (fun k wr => ∃ j, i ≤ j ∧ j ≤ s.size ∧ k = s.size - j ∧ wordEnd s i = wordEnd s j ∧ PAt wr p s j nest ∧ Keep (· = p) w wr)
  case atStart => exact ⟨i, Nat.le_refl _, hi, rfl, rfl, h, Keep.refl _ _⟩
  case round =>
    obtain ⟨j, hij, hj, hk, he, hp, hK⟩ := hrel
    have Hk := hid hk
    have He := hid he
    clear hk he c1
    by_cases hb : wordly (here s j) = true
    · have hstep := hid (wordEnd_step s j hb)
      have hlt : j < s.size := here_lt (fun e => by rw [e] at hb; simp [wordly] at hb)
      go_wp2_with fail
      refine (here_any p s j nest _ hp hs).mono ?_
      rintro e w' ⟨rfl, n, rfl⟩
      go_wp2_with fail
      refine (wordly_any (here s j) (here_byte s j) _).mono ?_
      rintro e w' ⟨rfl, rfl⟩
      rw [hb]
      have c1 := hp.cellAt (i := 1) rfl
      have f1 := hp.frozen 1
      go_wp2_with fail
      go_roundg (s.size - (j + 1))
      case measure => rw [Hk.out]; omega
      case rel => exact ⟨j + 1, by omega, by omega, rfl, by rw [He.out, hstep.out], (Blk.drewN hp n).set 1 _, (hK.drewN n).setCell (.inl rfl) _⟩
    · have hb' : wordly (here s j) = false := by simpa using hb
      have hstep := hid (wordEnd_stop s j hb')
      clear hb
      go_wp2_with fail
      refine (here_any p s j nest _ hp hs).mono ?_
      rintro e w' ⟨rfl, n, rfl⟩
      go_wp2_with fail
      refine (wordly_any (here s j) (here_byte s j) _).mono ?_
      rintro e w' ⟨rfl, rfl⟩
      rw [hb']
      have c0 := hp.cellAt (i := 0) rfl
      have c1 := hp.cellAt (i := 1) rfl
      by_cases hji : j = i
      · have Hji := hid hji
        have heq : ((j : Int) == (i : Int)) = true := by simp; omega
        clear hji
        go_wp2_with fail
        refine (wrong_any p s j nest 3 _ (Blk.drewN hp n)).mono ?_
        rintro e w' ⟨rfl, rfl⟩
        go_wp2_with fail
        refine ⟨rfl, ?_⟩
        rw [word, He.out, hstep.out, if_pos Hji.out, Hji.out]
        exact ⟨rfl, hK.drewN n⟩
      · have hne : ((j : Int) == (i : Int)) = false := by simp; omega
        go_wp2_with fail
        go_quiet (fail)
        go_wp2_with fail
        go_ret
        rw [word, He.out, hstep.out, if_neg hji]
        exact ⟨_, rfl, rfl, hp, (hK.drewN n).drewN _⟩

theorem exact_step {l : List Nat} {s : ByteArray} {i k : Nat} (hk : k < l.length) (he : here s (i + k) = l[k]) : exact (l.drop k) s (i + k) = exact (l.drop (k + 1)) s (i + (k + 1)) := by
  rw [List.drop_eq_getElem_cons hk, exact, if_pos he, Nat.add_assoc]
theorem exact_bad {l : List Nat} {s : ByteArray} {i k : Nat} (hk : k < l.length) (he : ¬ here s (i + k) = l[k]) : exact (l.drop k) s (i + k) = .bad (i + k) 3 := by
  rw [List.drop_eq_getElem_cons hk, exact, if_neg he]
def codes (t : ByteArray) : List Nat := t.data.toList.map UInt8.toNat
theorem codes_length (t : ByteArray) : (codes t).length = t.size := by unfold codes; rw [List.length_map, Array.length_toList]; rfl
theorem codes_at (t : ByteArray) (k : Nat) (h : k < t.size) : (codes t)[k]'(by rw [codes_length]; exact h) = (t[k]'h).toNat := by
  simp only [codes, List.getElem_map]; rfl

set_option maxHeartbeats 400000 in
theorem exact_any (t : ByteArray) (ht : t.size ≤ 1000) (p : Nat) (s : ByteArray) (i nest : Nat) (w : World) (h : PAt w p s i nest) (hs : s.size ≤ 140737488351232) (hi : i ≤ s.size) (h0 : ∀ c ∈ codes t, c ≠ 0) :
    Calls Try.prog 172 #[.pointer (some ⟨p, 0, none⟩), .string t] w fun e w' => Post w p s nest (fun _ _ v => v = .tuple #[]) (exact (codes t) s i) e w' := by
  have H0 := hid h0
  clear h0
  go_enter Try.func172, Try.ntmps172
  go_wp2_with fail
  go_loopg [7] t.size (fun g v wr => ∃ k, k ≤ t.size ∧ g = t.size - k ∧ v = .int .i64 (k : Int) ∧ i + k ≤ s.size ∧ exact (codes t) s i = exact ((codes t).drop k) s (i + k) ∧ PAt wr p s (i + k) nest ∧ Keep (· = p) w wr)
  case atStart => exact ⟨0, Nat.zero_le _, rfl, rfl, hi, rfl, h, Keep.refl _ _⟩
  case round =>
    obtain ⟨k, hk, hg, rfl, hik, he, hp, hK⟩ := hrel
    have Hg := hid hg
    have He := hid he
    clear hg he
    by_cases hlt : k < t.size
    · have hl : k < (codes t).length := by rw [codes_length]; exact hlt
      have c1 := hp.cellAt (i := 1) rfl
      have f1 := hp.frozen 1
      by_cases heq : here s (i + k) = (t[k]'hlt).toNat
      · have hstep := hid (exact_step hl (heq.trans (codes_at t k hlt).symm))
        have hpos : i + k < s.size := here_lt (by rw [heq, ← codes_at t k hlt]; exact H0.out _ (List.getElem_mem _))
        have Heq := hid heq
        have hne : (((here s (i + k) : Nat) : Int) != ((t[k]'hlt).toNat : Int)) = false := by simp [heq]
        clear heq
        go_wp2_with fail
        go_quiet ((go_at_call 148; exact Calls.quiet_of (here_any p s (i + k) nest _ (Blk.drewN hp _) hs)))
        go_wp2_with fail
        go_roundg (t.size - (k + 1))
        case measure => rw [Hg.out]; omega
        case rel => exact ⟨k + 1, by omega, rfl, by go_num, by omega, by rw [He.out, hstep.out], (Blk.drewN hp _).set 1 _, (hK.drewN _).setCell (.inl rfl) _⟩
      · have hbad := hid (exact_bad (s := s) (i := i) hl (fun e => heq (e.trans (codes_at t k hlt))))
        have hne : (((here s (i + k) : Nat) : Int) != ((t[k]'hlt).toNat : Int)) = true := by simp; omega
        clear heq
        go_wp2_with fail
        go_quiet ((go_at_call 148; exact Calls.quiet_of (here_any p s (i + k) nest _ (Blk.drewN hp _) hs)))
        go_wp2_with fail
        refine (wrong_any p s (i + k) nest 3 _ (Blk.drewN hp _)).mono ?_
        rintro e w' ⟨rfl, rfl⟩
        go_wp2_with fail
        refine ⟨rfl, ?_⟩
        rw [He.out, hbad.out]
        exact ⟨rfl, hK.drewN _⟩
    · obtain rfl : k = t.size := by omega
      go_wp2_with fail
      go_end0
      rw [He.out, List.drop_of_length_le (by rw [codes_length]; exact Nat.le_refl _)]
      exact ⟨_, rfl, rfl, hp, hK⟩
end Ex
end Go.Proofs.Ytfgkcifkfokoiaa
