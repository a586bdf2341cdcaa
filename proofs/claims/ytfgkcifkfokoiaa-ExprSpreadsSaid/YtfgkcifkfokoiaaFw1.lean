/- The walks through the small functions of the reader of beadleref14: what stands here, blanks, words, an exact text, an error. -/
import Derived.Test.YtfgkcifkfokoiaaExW1
set_option linter.unusedVariables false
set_option linter.unusedSimpArgs false
namespace Go.Proofs.Ytfgkcifkfokoiaa
open Go.RowKit
namespace Ex
/-- The reader's object: the text, the place, the depth, the place and the number of an error. -/
abbrev RAt (w : World) (R : Nat) (s : ByteArray) (i nest bad err : Nat) : Prop := Blk w R 136 [.string s, .int .i64 (i : Int), .int .i64 (nest : Int), .int .i64 (bad : Int), .int .i64 (err : Int)]

set_option maxHeartbeats 400000 in
theorem refc_any (R : Nat) (s : ByteArray) (i nest bad err : Nat) (w : World) (h : RAt w R s i nest bad err) (hs : s.size ≤ 140737488351232) :
    Calls Try.prog 122 #[.pointer (some ⟨R, 0, none⟩)] w fun e w' => e = .returned (.int .u8 (here s i : Nat)) ∧ ∃ n, w' = w.drewN n := by
  have c0 := h.cellAt (i := 0) rfl
  have c1 := h.cellAt (i := 1) rfl
  by_cases hlt : i < s.size
  · have he := hid (here_of hlt)
    go_enter Try.func122, Try.ntmps122
    go_wp2
    go_quiet (fail)
    go_wp2
    go_quiet (fail)
    go_wp2
    go_ret
    exact ⟨by rw [he.out]; rfl, _, World.drewN_drewN ..⟩
  · have he := hid (here_end (s := s) (i := i) (by omega))
    go_enter Try.func122, Try.ntmps122
    go_wp2
    go_quiet (fail)
    go_wp2
    go_ret
    exact ⟨by rw [he.out]; rfl, _, rfl⟩

set_option maxHeartbeats 400000 in
theorem refblanks_any (R : Nat) (s : ByteArray) (i nest bad err : Nat) (w : World) (h : RAt w R s i nest bad err) (hs : s.size ≤ 140737488351232) :
    Calls Try.prog 121 #[.pointer (some ⟨R, 0, none⟩)] w fun e w' => e = .returned (.tuple #[]) ∧ RAt w' R s (blanksEnd s i) nest bad err ∧ Keep (· = R) w w' := by
  go_enter Try.func121, Try.ntmps121
  go_wp2_with fail
  go_loopg [] (s.size - i) (fun k wr => ∃ j, k = s.size - j ∧ blanksEnd s i = blanksEnd s j ∧ RAt wr R s j nest bad err ∧ Keep (· = R) w wr)
  case atStart => exact ⟨i, rfl, rfl, h, Keep.refl _ _⟩
  case round =>
    obtain ⟨j, hk, he, hp, hK⟩ := hrel
    have Hk := hid hk
    have He := hid he
    clear hk he
    by_cases hb : here s j = 32
    · have hstep := hid (blanksEnd_step s j hb)
      have hlt : j < s.size := here_lt (by omega)
      go_wp2_with fail
      refine (refc_any R s j nest bad err _ hp hs).mono ?_
      rintro e w' ⟨rfl, n, rfl⟩
      rw [hb]
      have c1 := hp.cellAt (i := 1) rfl
      have f1 := hp.frozen 1
      go_wp2_with fail
      go_roundg (s.size - (j + 1))
      case measure => rw [Hk.out]; omega
      case rel => exact ⟨j + 1, rfl, by rw [He.out, hstep.out], (Blk.drewN hp n).set 1 _, (hK.drewN n).setCell (.inl rfl) _⟩
    · have hstep := hid (blanksEnd_stop s j hb)
      go_wp2_with fail
      refine (refc_any R s j nest bad err _ hp hs).mono ?_
      rintro e w' ⟨rfl, n, rfl⟩
      have hb1 : (((here s j : Nat) : Int) == 32) = false := by simp; omega
      go_wp2_with fail
      go_end0
      exact ⟨rfl, by rw [He.out, hstep.out]; exact Blk.drewN hp n, hK.drewN n⟩

set_option maxHeartbeats 400000 in
theorem letter_any (c : Nat) (hc : c < 256) (w : World) :
    Calls Try.prog 123 #[.int .u8 (c : Nat)] w fun e w' => e = .returned (.bool (wordly c)) ∧ w = w' := by
  have hw : ∃ b, b = wordly c := ⟨_, rfl⟩
  obtain ⟨b, hb⟩ := hw
  rw [← hb]
  have Hb := hid hb
  clear hb
  rcases (show c < 45 ∨ c = 45 ∨ (45 < c ∧ c < 48) ∨ (48 ≤ c ∧ c ≤ 57) ∨ (57 < c ∧ c < 97) ∨ (97 ≤ c ∧ c ≤ 122) ∨ 122 < c from by omega) with h | h | ⟨h, h'⟩ | ⟨h, h'⟩ | ⟨h, h'⟩ | ⟨h, h'⟩ | h
  case inr.inl =>
    subst h
    go_enter Try.func123, Try.ntmps123
    go_wp2
    go_ret
    exact ⟨by rw [Hb.out]; rfl, rfl⟩
  all_goals
    have hne : (((c : Nat) : Int) == 45) = false := by simp; omega
    go_enter Try.func123, Try.ntmps123
    go_wp2
    go_ret
    exact ⟨by rw [Hb.out, wordly_eq]; show Ending.returned (.bool _) = Ending.returned (.bool _); refine congrArg _ (congrArg _ ?_); rw [Bool.eq_iff_iff]; first | (simp; omega) | (simp; done), rfl⟩

set_option maxHeartbeats 400000 in
theorem fail_any (R : Nat) (s : ByteArray) (i nest a c : Nat) (w : World) (h : RAt w R s i nest 0 0) :
    Calls Try.prog 77 #[.pointer (some ⟨R, 0, none⟩), .int .i64 (a : Int), .int .i64 (c : Int)] w fun e w' => e = .returned (.tuple #[]) ∧ RAt w' R s i nest a c ∧ Keep (· = R) w w' := by
  have c4 := h.cellAt (i := 4) rfl
  have f3 := h.frozen 3
  have f4 := h.frozen 4
  have c3 := h.cellAt (i := 3) rfl
  go_enter Try.func77, Try.ntmps77
  go_wp2_with fail
  go_end0
  exact ⟨rfl, (h.set 3 _).set 4 _, ((Keep.refl _ w).put 3 _).put 4 _⟩

/-- What a call of the reader comes to: the value; where it went wrong the error stands in the object. -/
def RPost {α : Type} (w : World) (R : Nat) (s : ByteArray) (nest : Nat) (V : α → Value) (bv : Value) (bj : Nat → Nat) : Ex.R α → Ending → World → Prop
  | .ok a j, e, w' => e = .returned (V a) ∧ RAt w' R s j nest 0 0 ∧ Keep (· = R) w w'
  | .bad a c, e, w' => e = .returned bv ∧ RAt w' R s (bj a) nest a c ∧ Keep (· = R) w w'

set_option maxHeartbeats 400000 in
theorem refword_any (R : Nat) (s : ByteArray) (i nest : Nat) (w : World) (h : RAt w R s i nest 0 0) (hs : s.size ≤ 140737488351232) (hi : i ≤ s.size) :
    Calls Try.prog 151 #[.pointer (some ⟨R, 0, none⟩)] w fun e w' => RPost w R s nest (fun wd => .string wd) (.string ⟨#[]⟩) id (word s i) e w' := by
  have c1 := h.cellAt (i := 1) rfl
  go_enter Try.func151, Try.ntmps151
  go_wp2_with fail
  go_loopg [] (s.size - i) (fun k wr => ∃ j, i ≤ j ∧ j ≤ s.size ∧ k = s.size - j ∧ wordEnd s i = wordEnd s j ∧ RAt wr R s j nest 0 0 ∧ Keep (· = R) w wr)
  case atStart => exact ⟨i, Nat.le_refl _, hi, rfl, rfl, h, Keep.refl _ _⟩
  case round =>
    obtain ⟨j, hij, hj, hk, he, hp, hK⟩ := hrel
    have Hk := hid hk
    have He := hid he
    clear hk he c1
    by_cases hb : wordly (here s j) = true
    · have hstep := hid (wordEnd_step s j hb)
      have hlt : j < s.size := here_lt (fun e => by rw [e] at hb; simp [wordly] at hb)
      go_wp2_with fail
      refine (refc_any R s j nest 0 0 _ hp hs).mono ?_
      rintro e w' ⟨rfl, n, rfl⟩
      go_wp2_with fail
      refine (letter_any (here s j) (here_byte s j) _).mono ?_
      rintro e w' ⟨rfl, rfl⟩
      rw [hb]
      have c1 := hp.cellAt (i := 1) rfl
      have f1 := hp.frozen 1
      go_wp2_with fail
      go_roundg (s.size - (j + 1))
      case measure => rw [Hk.out]; omega
      case rel => exact ⟨j + 1, by omega, by omega, rfl, by rw [He.out, hstep.out], (Blk.drewN hp n).set 1 _, (hK.drewN n).setCell (.inl rfl) _⟩
    · have hb' : wordly (here s j) = false := by simpa using hb
      have hend : wordEnd s i = j := by rw [He.out, wordEnd_stop s j hb']
      have Hend := hid hend
      clear hb hend
      go_wp2_with fail
      refine (refc_any R s j nest 0 0 _ hp hs).mono ?_
      rintro e w' ⟨rfl, n, rfl⟩
      go_wp2_with fail
      refine (letter_any (here s j) (here_byte s j) _).mono ?_
      rintro e w' ⟨rfl, rfl⟩
      rw [hb']
      have c0 := hp.cellAt (i := 0) rfl
      have c1 := hp.cellAt (i := 1) rfl
      by_cases hji : j = i
      · subst hji
        go_wp2_with fail
        refine (fail_any R s j nest j 3 _ (Blk.drewN hp n)).mono ?_
        rintro e w2 ⟨rfl, hp2, hK2⟩
        have d0 := hp2.cellAt (i := 0) rfl
        have d1 := hp2.cellAt (i := 1) rfl
        have hw : word s j = .bad j 3 := by unfold word; rw [if_pos Hend.out]
        have Hw := hid hw
        clear hw
        have hsj : (j : Int) ≤ s.size := by omega
        go_wp2_with fail
        go_quiet (fail)
        go_wp2
        go_ret
        rw [Hw.out]
        exact ⟨rfl, Blk.drewN hp2 _, ((hK.drewN n).trans' hK2).drewN _⟩
      · have hne : (((j : Nat) : Int) == (i : Int)) = false := by simp; omega
        have hw : word s i = .ok (s.extract i j) j := by unfold word; rw [Hend.out, if_neg hji]
        have Hw := hid hw
        clear hw
        go_wp2_with fail
        go_quiet (fail)
        go_wp2
        go_ret
        rw [Hw.out]
        exact ⟨rfl, Blk.drewN (Blk.drewN hp _) _, (hK.drewN n).drewN _⟩

set_option maxHeartbeats 400000 in
theorem text_any (R : Nat) (s : ByteArray) (i nest : Nat) (w : World) (h : RAt w R s i nest 0 0) (hs : s.size ≤ 140737488351232) (hi : i ≤ s.size) (t : ByteArray) (ht : t.size ≤ 100) (h0 : ∀ c ∈ t.data.toList, c ≠ 0) :
    Calls Try.prog 152 #[.pointer (some ⟨R, 0, none⟩), .string t] w fun e w' => RPost w R s nest (fun _ => .tuple #[]) (.tuple #[]) (· + 1) (exact (t.data.toList.map (·.toNat)) s i) e w' := by
  go_enter Try.func152, Try.ntmps152
  go_wp2_with fail
  go_loopg [4] (t.size + 1) (fun k v wr => ∃ q j, q ≤ t.size ∧ v = .int .i64 (q : Int) ∧ Keep (· = R) w wr ∧
    ((k = t.size + 1 - q ∧ j ≤ s.size ∧ RAt wr R s j nest 0 0 ∧ exact (t.data.toList.map (·.toNat)) s i = exact ((t.data.toList.drop q).map (·.toNat)) s j) ∨
     (k = 0 ∧ RAt wr R s (j + 1) nest j 3 ∧ exact (t.data.toList.map (·.toNat)) s i = .bad j 3)))
  case atStart => exact ⟨0, i, Nat.zero_le _, rfl, Keep.refl _ _, .inl ⟨rfl, hi, h, by simp⟩⟩
  case round =>
    obtain ⟨q, j, hq, rfl, hK, hcase⟩ := hrel
    rcases hcase with ⟨hk, hj, hp, he⟩ | ⟨hk, hp, he⟩
    · have Hk := hid hk
      have He := hid he
      clear hk he
      have c4 := hp.cellAt (i := 4) rfl
      by_cases hlt : q < t.size
      · have hdr : t.data.toList.drop q = (t[q]'hlt) :: t.data.toList.drop (q + 1) := List.drop_eq_getElem_cons (by simpa using hlt)
        have hne0 : (t[q]'hlt) ≠ 0 := h0 _ (List.getElem_mem (l := t.data.toList) (n := q) (by simpa using hlt))
        have hn0 : (t[q]'hlt).toNat ≠ 0 := fun e => hne0 (UInt8.toNat_inj.1 (by rw [e]; rfl))
        have hex : exact ((t.data.toList.drop q).map (·.toNat)) s j = if here s j = (t[q]'hlt).toNat then exact ((t.data.toList.drop (q + 1)).map (·.toNat)) s (j + 1) else .bad j 3 := by
          rw [hdr, List.map_cons, exact]
        have Hex := hid hex
        clear hex hdr
        by_cases hc : here s j = (t[q]'hlt).toNat
        · have hlt2 : j < s.size := here_lt (by omega)
          have ht1 : (((here s j : Nat) : Int) != ((t[q]'hlt).toNat : Int)) = false := by simp [hc]
          have Hc := hid hc
          clear hc
          go_wp2_with fail
          go_quiet ((go_at_call 122; exact Calls.quiet_of (refc_any R s j nest 0 0 _ (Blk.drewN hp _) hs)))
          have c1 := hp.cellAt (i := 1) rfl
          have f1 := hp.frozen 1
          go_wp2_with fail
          go_roundg (t.size + 1 - (q + 1))
          case measure => have := Hk.out; omega
          case rel => exact ⟨q + 1, j + 1, by omega, rfl, (hK.drewN _).put 1 _, .inl ⟨rfl, by omega, (Blk.drewN hp _).set 1 _, by rw [He.out, Hex.out, if_pos Hc.out]⟩⟩
        · have ht1 : (((here s j : Nat) : Int) != ((t[q]'hlt).toNat : Int)) = true := by simp; omega
          have Hc := hid hc
          clear hc
          go_wp2_with fail
          go_quiet ((go_at_call 122; exact Calls.quiet_of (refc_any R s j nest 0 0 _ (Blk.drewN hp _) hs)))
          have c1 := hp.cellAt (i := 1) rfl
          go_wp2_with fail
          refine (fail_any R s j nest j 3 _ (Blk.drewN hp _)).mono ?_
          rintro e w2 ⟨rfl, hp2, hK2⟩
          have d1 := hp2.cellAt (i := 1) rfl
          have f1 := hp2.frozen 1
          go_wp2_with fail
          go_roundg 0
          case measure => have := Hk.out; omega
          case rel => exact ⟨q + 1, j, by omega, rfl, ((hK.drewN _).trans' hK2).put 1 _, .inr ⟨rfl, hp2.set 1 _, by rw [He.out, Hex.out, if_neg Hc.out]⟩⟩
      · have hqe : q = t.size := by omega
        subst hqe
        go_wp2_with fail
        go_end0
        rw [He.out, List.drop_of_length_le (by simp)]
        exact ⟨rfl, hp, hK⟩
    · have He := hid he
      have c4 := hp.cellAt (i := 4) rfl
      clear he
      by_cases hlt : q < t.size
      · go_wp2_with fail
        go_end0
        rw [He.out]
        exact ⟨rfl, hp, hK⟩
      · go_wp2_with fail
        go_end0
        rw [He.out]
        exact ⟨rfl, hp, hK⟩
end Ex
end Go.Proofs.Ytfgkcifkfokoiaa
