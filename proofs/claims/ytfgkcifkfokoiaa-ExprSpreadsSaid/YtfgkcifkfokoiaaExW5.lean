/- The walks through brackets and atom of the parser of package expr, and all of the parser's functions together: each does what reading in plain Lean at its level comes to, for every text of at most 256 bytes. -/
import Derived.Test.YtfgkcifkfokoiaaExW4
set_option linter.unusedVariables false
set_option linter.unusedSimpArgs false
namespace Go.Proofs.Ytfgkcifkfokoiaa
open Go.RowKit
namespace Ex

theorem newAt {w : World} {n : Nat} (hn : w.heap.size = n) (T : TypeId) (cs : List Value) : Blk (w.alloc (.cells cs.toArray T)) n T cs := by subst hn; exact Blk.new w T cs
theorem codes_text : codes ⟨#[35, 116, 101, 120, 116]⟩ = text5 := rfl
theorem codes_close : codes ⟨#[41]⟩ = [41] := rfl
theorem exact_close (s : ByteArray) (i : Nat) : exact [41] s i = if here s i = 41 then .ok () (i + 1) else .bad i 3 := by
  simp only [exact]

/-- What an atom in brackets comes to. -/
def brk (s : ByteArray) (F i nest : Nat) : Option (R ET) :=
  if nest = 16 then some (.bad i 5)
  else if here s (blanksEnd s (i + 1)) = 41 then some (.ok (.node 0 ByteArray.empty []) (blanksEnd s (i + 1) + 1))
  else
    match lev s F 0 (blanksEnd s (i + 1)) (nest + 1) with
    | some (.ok e j) => if here s j = 41 then some (.ok e (j + 1)) else some (.bad j 3)
    | r => r

set_option maxHeartbeats 1000000 in
theorem brackets_any (s : ByteArray) (hs : s.size ≤ 256) (F : Nat) (IH : LevOK s F 0) (p i nest : Nat) (r : R ET) (w : World) (h : PAt w p s i nest) (hi : i < s.size) (hn : nest ≤ 16)
    (hr : brk s F i nest = some r) :
    Calls Try.prog 173 #[.pointer (some ⟨p, 0, none⟩)] w fun e w' => PostE w p s nest r e w' := by
  have hp := h.lt
  have hPo := fun o => Blk.alloc h o
  have c1 := fun o => (hPo o).cellAt (i := 1) rfl
  have c2 := fun o => (hPo o).cellAt (i := 2) rfl
  have f1 := fun o => (hPo o).frozen 1
  have f2 := fun o => (hPo o).frozen 2
  have hK0 : Keep (· = p) w (w.alloc (.cells #[.int .i64 0, .string ⟨#[]⟩, .slice none 0 0] 25)) := (Keep.refl _ w).alloc _
  unfold brk at hr
  by_cases h16 : nest = 16
  · rw [if_pos h16] at hr
    obtain rfl := Option.some.inj hr
    subst h16
    clear hr
    go_enter Try.func173, Try.ntmps173
    go_wp2_with fail
    refine (wrong_any p s i 16 5 _ (h.alloc _)).mono ?_
    rintro e w' ⟨rfl, rfl⟩
    go_wp2_with fail
    exact ⟨rfl, rfl, hK0⟩
  · rw [if_neg h16] at hr
    have Hr := hid hr
    have hne : ((nest : Int) == 16) = false := by simp; omega
    clear hr h16
    have hbg := blanksEnd_ge s (i + 1)
    have hbl := blanksEnd_le s (i + 1) (by omega)
    go_enter Try.func173, Try.ntmps173
    go_wp2_with fail
    refine (blanks_any p s (i + 1) nest _ (Blk.alloc (Blk.set h 1 _) _) (by omega) (by omega)).mono ?_
    rintro e w1 ⟨rfl, hP1, hK1⟩
    have hpne : ¬ p = w.heap.size := by omega
    have hpne' : ¬ w.heap.size = p := by omega
    have hKa : Keep (· = p) w w1 := (((Keep.refl (· = p) w).put 1 _).alloc _).trans' hK1
    have hres1 : Blk w1 w.heap.size 25 [.int .i64 0, .string ⟨#[]⟩, .slice none 0 0] := (newAt (by simp) _ _).keep hK1 hpne'
    go_wp2_with fail
    refine (here_any p s (blanksEnd s (i + 1)) nest _ hP1 (by omega)).mono ?_
    rintro e w2 ⟨rfl, n2, rfl⟩
    clear c1 c2 f1 f2 hPo
    by_cases h41 : here s (blanksEnd s (i + 1)) = 41
    · have hr := Hr.out
      rw [if_pos h41] at hr
      obtain rfl := Option.some.inj hr
      clear hr
      have c1 := hP1.cellAt (i := 1) rfl
      have f1 := hP1.frozen 1
      have hlt : blanksEnd s (i + 1) < s.size := here_lt (by omega)
      have hb : (((here s (blanksEnd s (i + 1)) : Nat) : Int) == 41) = true := by simp [h41]
      have g0 := hres1.cellAt (i := 0) rfl
      have g1 := hres1.cellAt (i := 1) rfl
      have g2 := hres1.cellAt (i := 2) rfl
      have q0 := hres1.frozen 0
      have q1 := hres1.frozen 1
      have q2 := hres1.frozen 2
      clear h41
      go_wp2_with fail
      have hresx := (hres1.drewN n2).far (p := ⟨p, 1, none⟩) hpne' (.int .i64 ((blanksEnd s (i + 1) : Nat) + 1 : Int))
      obtain ⟨hres5, hK5⟩ := put3 hresx (.int .i64 0) (.string ⟨#[]⟩) (.slice none 0 0)
      have r0 := hres5.cellAt (i := 0) rfl
      have r1 := hres5.cellAt (i := 1) rfl
      have r2 := hres5.cellAt (i := 2) rfl
      refine bodyPost_ret (v := .agg #[.int .i64 0, .string ⟨#[]⟩, .slice none 0 0]) (by simp [results, Try.results173, go_sem, r0, r1, r2]) rfl ?_
      refine ⟨_, rfl, ExAt.leaf _ _ 0 ByteArray.empty, Blk.keep (Blk.set (Blk.drewN hP1 n2) 1 _) hK5 (fun e => hpne e), ?_⟩
      exact ((hKa.drewN n2).put 1 _).trans hK5 (fun k (hk : k = _) => .inr (by omega))
    · have hr := Hr.out
      rw [if_neg h41] at hr
      obtain ⟨r1, hr1⟩ : ∃ r1, lev s F 0 (blanksEnd s (i + 1)) (nest + 1) = some r1 := by
        cases hl : lev s F 0 (blanksEnd s (i + 1)) (nest + 1) with
        | none => rw [hl] at hr; cases hr
        | some r1 => exact ⟨r1, rfl⟩
      rw [hr1] at hr
      have Hr2 := hid hr
      have Hr1 := hid hr1
      have c2 := hP1.cellAt (i := 2) rfl
      have f2 := hP1.frozen 2
      have hb : (((here s (blanksEnd s (i + 1)) : Nat) : Int) == 41) = false := by simp; omega
      have hn16 : nest < 16 := by
        have : nest ≠ 16 := fun e => by subst e; simp at hne
        omega
      clear hr hr1 h41 Hr
      go_wp2_with fail
      refine (IH p (blanksEnd s (i + 1)) (nest + 1) r1 _ (Blk.set (Blk.drewN hP1 n2) 2 _) hbl (by omega) Hr1.out).mono ?_
      rintro e w3 h3
      have hKb : Keep (· = p) w ((w1.drewN n2).setCell ⟨p, 2, none⟩ (.int .i64 ((nest : Int) + 1))) := (hKa.drewN n2).put 2 _
      have hresb := (hres1.drewN n2).far (p := ⟨p, 2, none⟩) hpne' (.int .i64 ((nest : Int) + 1))
      cases r1 with
      | bad a c =>
        obtain ⟨rfl, hK⟩ := h3
        obtain rfl := Option.some.inj Hr2.out
        go_wp2_with fail
        exact ⟨rfl, rfl, hKb.trans' hK⟩
      | ok e1 j1 =>
        obtain ⟨v, rfl, hE, hP, hK⟩ := h3
        obtain ⟨k4, wd4, A4, m4, c4, rfl⟩ := hE.form
        have hfw := (lev_forward s F).1 _ _ _ _ _ hbl Hr1.out
        have hsz3 := hK.size
        have hszb := hKb.size
        have hKc := hKb.trans' hK
        have hres3 := hresb.keep hK hpne'
        have hPo := fun o => Blk.alloc hP o
        have y2 := fun o => (hPo o).cellAt (i := 2) rfl
        have z2 := fun o => (hPo o).frozen 2
        clear c2 f2
        go_wp2_with fail
        refine (exact_any ⟨#[41]⟩ (by decide) p s j1 nest _ (Blk.set (Blk.alloc hP _) 2 _) (by omega) hfw.2.1 (by decide)).mono ?_
        rintro e w5 h5
        rw [codes_close, exact_close] at h5
        have hpne3 : ¬ w3.heap.size = p := by have := hKc.size; omega
        have hneq : ¬ w3.heap.size = w.heap.size := by have := hres3.lt; omega
        have hneq' : ¬ w.heap.size = w3.heap.size := by have := hres3.lt; omega
        have hE3 := ExAt.mono (ok' := fun k => (w.heap.size + 1 ≤ k ∧ k ≠ w.heap.size) ∧ k < w3.heap.size) (fun k hk hk' => ⟨by have := hres1.lt; simp at hk'; omega, hk⟩) hE
        obtain ⟨W4, hW4⟩ : ∃ W4, W4 = (w3.alloc (.cells #[.int .i64 k4, .string wd4, .slice A4 m4 c4] 25)).setCell ⟨p, 2, none⟩ (.int .i64 (nest : Int)) := ⟨_, rfl⟩
        have hKd : Keep (· = p) w3 W4 := by rw [hW4]; exact ((Keep.refl _ w3).alloc _).put 2 _
        have hbox : Blk W4 w3.heap.size 25 [.int .i64 k4, .string wd4, .slice A4 m4 c4] := by rw [hW4]; exact (Blk.new w3 _ [_, _, _]).far (p := ⟨p, 2, none⟩) hpne3 _
        rw [← hW4] at h5
        clear hW4 y2 z2 hPo
        by_cases hcl : here s j1 = 41
        · have hr := Hr2.out
          rw [if_pos hcl] at hr
          obtain rfl := Option.some.inj hr
          rw [if_pos hcl] at h5
          obtain ⟨v, rfl, rfl, hP5, hK5⟩ := h5
          clear hr hcl
          have hKe := hKd.trans' hK5
          have hbox5 := hbox.keep hK5 hpne3
          have hres5 := hres3.keep hKe hpne'
          have g0 := hbox5.cellAt (i := 0) rfl
          have g1 := hbox5.cellAt (i := 1) rfl
          have g2 := hbox5.cellAt (i := 2) rfl
          have u0 := hres5.cellAt (i := 0) rfl
          have u1 := hres5.cellAt (i := 1) rfl
          have u2 := hres5.cellAt (i := 2) rfl
          have q0 := hres5.frozen 0
          have q1 := hres5.frozen 1
          have q2 := hres5.frozen 2
          go_wp2_with fail
          obtain ⟨hres6, hK6⟩ := put3 hres5 (.int .i64 k4) (.string wd4) (.slice A4 m4 c4)
          have r0 := hres6.cellAt (i := 0) rfl
          have r1 := hres6.cellAt (i := 1) rfl
          have r2 := hres6.cellAt (i := 2) rfl
          refine bodyPost_ret (v := .agg #[.int .i64 k4, .string wd4, .slice A4 m4 c4]) (by simp [results, Try.results173, go_sem, r0, r1, r2]) rfl ?_
          refine ⟨_, rfl, ExAt.mono (fun k _ hk => by omega) (ExAt.keep hK6 (fun k hk (e : k = _) => hk.1.2 e) (ExAt.keep hKe (fun k hk (e : k = p) => by omega) hE3)), hP5.keep hK6 hpne, ?_⟩
          exact (hKc.trans' hKe).trans hK6 (fun k (hk : k = _) => .inr (by omega))
        · have hr := Hr2.out
          rw [if_neg hcl] at hr
          obtain rfl := Option.some.inj hr
          rw [if_neg hcl] at h5
          obtain ⟨rfl, hK5⟩ := h5
          clear hr hcl
          go_wp2_with fail
          exact ⟨rfl, rfl, (hKc.trans' hKd).trans' hK5⟩

theorem atom_split {s : ByteArray} {F i nest : Nat} {r : R ET} (h : atom s (F + 1) i nest = some r) :
    (here s i = 64 ∧ r = (match word s (i + 1) with | .ok w j => .ok (.node 2 w []) j | .bad a c => .bad a c)) ∨
    (here s i = 35 ∧ r = (match exact text5 s i with | .ok _ j => .ok (.node 3 ByteArray.empty []) j | .bad a c => .bad a c)) ∨
    (here s i = 40 ∧ brk s F i nest = some r) ∨
    ((here s i ≠ 64 ∧ here s i ≠ 35 ∧ here s i ≠ 40) ∧ r = (match word s i with | .ok w j => .ok (.node 1 w []) j | .bad a c => .bad a c)) := by
  unfold atom at h
  split at h
  · rename_i h1
    refine .inl ⟨h1, ?_⟩
    cases hw : word s (i + 1) <;> (rw [hw] at h; exact (Option.some.inj h).symm)
  · split at h
    · rename_i h1 h2
      refine .inr (.inl ⟨h2, ?_⟩)
      cases hw : exact text5 s i <;> (rw [hw] at h; exact (Option.some.inj h).symm)
    · split at h
      · rename_i h1 h2 h3
        exact .inr (.inr (.inl ⟨h3, h⟩))
      · rename_i h1 h2 h3
        refine .inr (.inr (.inr ⟨⟨h1, h2, h3⟩, ?_⟩))
        cases hw : word s i <;> (rw [hw] at h; exact (Option.some.inj h).symm)

set_option maxHeartbeats 1000000 in
theorem atom_any (s : ByteArray) (hs : s.size ≤ 256) (F : Nat) (IH : LevOK s F 0) : AtomOK s (F + 1) := by
  intro p i nest r w h hi hn hr
  have hp := h.lt
  have hK0 : Keep (· = p) w (w.alloc (.cells #[.int .i64 0, .string ⟨#[]⟩, .slice none 0 0] 25)) := (Keep.refl _ w).alloc _
  have hpne : ¬ p = w.heap.size := by omega
  have hpne' : ¬ w.heap.size = p := by omega
  rcases atom_split hr with ⟨hc, hr⟩ | ⟨hc, hr⟩ | ⟨hc, hr⟩ | ⟨hc, hr⟩
  case' inl => have hb : (((here s i : Nat) : Int) == 64) = true := by simp [hc]
  case' inr.inl => have hb : (((here s i : Nat) : Int) == 64) = false := by simp [hc]
  case' inr.inr.inl => have hb : (((here s i : Nat) : Int) == 64) = false := by simp [hc]
  case' inr.inr.inr => have hb : (((here s i : Nat) : Int) == 64) = false := by simp; omega
  case' inr.inl => have hb2 : (((here s i : Nat) : Int) == 35) = true := by simp [hc]
  case' inr.inr.inl => have hb2 : (((here s i : Nat) : Int) == 35) = false := by simp [hc]
  case' inr.inr.inr => have hb2 : (((here s i : Nat) : Int) == 35) = false := by simp; omega
  case' inr.inr.inl => have hb3 : (((here s i : Nat) : Int) == 40) = true := by simp [hc]
  case' inr.inr.inr => have hb3 : (((here s i : Nat) : Int) == 40) = false := by simp; omega
  case' inl => have hlt : i < s.size := here_lt (by omega)
  case' inr.inr.inl => have hlt : i < s.size := here_lt (by omega)
  all_goals
    have Hr := hid hr
    clear hr hc
    go_enter Try.func167, Try.ntmps167
    go_wp2_with fail
    refine (here_any p s i nest _ (h.alloc _) (by omega)).mono ?_
    rintro e w1' ⟨rfl, n1, rfl⟩
    obtain ⟨w1, hw1⟩ : ∃ w1, w1 = (w.alloc (.cells #[.int .i64 0, .string ⟨#[]⟩, .slice none 0 0] 25)).drewN n1 := ⟨_, rfl⟩
    have hP : PAt w1 p s i nest := by rw [hw1]; exact Blk.drewN (Blk.alloc h _) n1
    have hR : Blk w1 w.heap.size 25 [.int .i64 0, .string ⟨#[]⟩, .slice none 0 0] := by rw [hw1]; exact Blk.drewN (Blk.new w _ [_, _, _]) n1
    have hK1 : Keep (· = p) w w1 := by rw [hw1]; exact hK0.drewN n1
    rw [← hw1]
    clear hw1
    have c1 := hP.cellAt (i := 1) rfl
    have f1 := hP.frozen 1
    go_wp2_with fail
  · refine (brackets_any s hs F IH p i nest r _ hP hlt hn Hr.out).mono ?_
    rintro e w3 h3
    cases r with
    | bad a c =>
      obtain ⟨rfl, hK3⟩ := h3
      go_wp2_with fail
      exact ⟨rfl, rfl, hK1.trans' hK3⟩
    | ok e1 j =>
      obtain ⟨v, rfl, hE, hP3, hK3⟩ := h3
      obtain ⟨k4, wd4, A4, m4, c4, rfl⟩ := hE.form
      have hR3 := hR.keep hK3 hpne'
      have hRl := hR.lt
      have g0 := hR3.cellAt (i := 0) rfl
      have g1 := hR3.cellAt (i := 1) rfl
      have g2 := hR3.cellAt (i := 2) rfl
      have q0 := hR3.frozen 0
      have q1 := hR3.frozen 1
      have q2 := hR3.frozen 2
      go_wp2_with fail
      obtain ⟨hr6, hK6⟩ := put3 hR3 (.int .i64 k4) (.string wd4) (.slice A4 m4 c4)
      have r0 := hr6.cellAt (i := 0) rfl
      have r1 := hr6.cellAt (i := 1) rfl
      have r2 := hr6.cellAt (i := 2) rfl
      refine bodyPost_ret (v := .agg #[.int .i64 k4, .string wd4, .slice A4 m4 c4]) (by simp [results, Try.results167, go_sem, r0, r1, r2]) rfl ?_
      exact ⟨_, rfl, ExAt.mono (ok := fun k => w1.heap.size ≤ k) (fun k _ hk => by omega) (ExAt.keep hK6 (fun k hk (e : k = _) => by omega) hE), hP3.keep hK6 hpne, (hK1.trans' hK3).trans hK6 (fun k (hk : k = _) => .inr (by omega))⟩
  · refine (word_any p s (i + 1) nest _ (hP.set (i + 1)) (by omega) (by omega)).mono ?_
    rintro e w3 h3
    have hr := Hr.out
    cases hw : word s (i + 1) with
    | bad a c =>
      rw [hw] at h3 hr
      subst hr
      obtain ⟨rfl, hK3⟩ := h3
      go_wp2_with fail
      exact ⟨rfl, rfl, (hK1.put 1 _).trans' hK3⟩
    | ok wd j =>
      rw [hw] at h3 hr
      subst hr
      obtain ⟨v, rfl, rfl, hP3, hK3⟩ := h3
      have hR3 := (hR.far (p := ⟨p, 1, none⟩) hpne' (.int .i64 ((i : Int) + 1))).keep hK3 hpne'
      have g0 := hR3.cellAt (i := 0) rfl
      have g1 := hR3.cellAt (i := 1) rfl
      have g2 := hR3.cellAt (i := 2) rfl
      have q0 := hR3.frozen 0
      have q1 := hR3.frozen 1
      have q2 := hR3.frozen 2
      clear hw Hr
      go_wp2_with fail
      obtain ⟨hr6, hK6⟩ := put3 hR3 (.int .i64 2) (.string wd) (.slice none 0 0)
      have r0 := hr6.cellAt (i := 0) rfl
      have r1 := hr6.cellAt (i := 1) rfl
      have r2 := hr6.cellAt (i := 2) rfl
      refine bodyPost_ret (v := .agg #[.int .i64 2, .string wd, .slice none 0 0]) (by simp [results, Try.results167, go_sem, r0, r1, r2]) rfl ?_
      exact ⟨_, rfl, ExAt.leaf _ _ 2 wd, hP3.keep hK6 hpne, ((hK1.put 1 _).trans' hK3).trans hK6 (fun k (hk : k = _) => .inr (by omega))⟩
  · refine (word_any p s i nest _ hP (by omega) (by omega)).mono ?_
    rintro e w3 h3
    have hr := Hr.out
    cases hw : word s i with
    | bad a c =>
      rw [hw] at h3 hr
      subst hr
      obtain ⟨rfl, hK3⟩ := h3
      go_wp2_with fail
      exact ⟨rfl, rfl, hK1.trans' hK3⟩
    | ok wd j =>
      rw [hw] at h3 hr
      subst hr
      obtain ⟨v, rfl, rfl, hP3, hK3⟩ := h3
      have hR3 := hR.keep hK3 hpne'
      have g0 := hR3.cellAt (i := 0) rfl
      have g1 := hR3.cellAt (i := 1) rfl
      have g2 := hR3.cellAt (i := 2) rfl
      have q0 := hR3.frozen 0
      have q1 := hR3.frozen 1
      have q2 := hR3.frozen 2
      clear hw Hr
      go_wp2_with fail
      obtain ⟨hr6, hK6⟩ := put3 hR3 (.int .i64 1) (.string wd) (.slice none 0 0)
      have r0 := hr6.cellAt (i := 0) rfl
      have r1 := hr6.cellAt (i := 1) rfl
      have r2 := hr6.cellAt (i := 2) rfl
      refine bodyPost_ret (v := .agg #[.int .i64 1, .string wd, .slice none 0 0]) (by simp [results, Try.results167, go_sem, r0, r1, r2]) rfl ?_
      exact ⟨_, rfl, ExAt.leaf _ _ 1 wd, hP3.keep hK6 hpne, (hK1.trans' hK3).trans hK6 (fun k (hk : k = _) => .inr (by omega))⟩
  · refine (exact_any ⟨#[35, 116, 101, 120, 116]⟩ (by decide) p s i nest _ hP (by omega) hi (by decide)).mono ?_
    rintro e w3 h3
    have hr := Hr.out
    rw [codes_text] at h3
    cases hw : exact text5 s i with
    | bad a c =>
      rw [hw] at h3 hr
      subst hr
      obtain ⟨rfl, hK3⟩ := h3
      go_wp2_with fail
      exact ⟨rfl, rfl, hK1.trans' hK3⟩
    | ok wd j =>
      rw [hw] at h3 hr
      subst hr
      obtain ⟨v, rfl, rfl, hP3, hK3⟩ := h3
      have hR3 := hR.keep hK3 hpne'
      have g0 := hR3.cellAt (i := 0) rfl
      have g1 := hR3.cellAt (i := 1) rfl
      have g2 := hR3.cellAt (i := 2) rfl
      have q0 := hR3.frozen 0
      have q1 := hR3.frozen 1
      have q2 := hR3.frozen 2
      clear hw Hr
      go_wp2_with fail
      obtain ⟨hr6, hK6⟩ := put3 hR3 (.int .i64 3) (.string ⟨#[]⟩) (.slice none 0 0)
      have r0 := hr6.cellAt (i := 0) rfl
      have r1 := hr6.cellAt (i := 1) rfl
      have r2 := hr6.cellAt (i := 2) rfl
      refine bodyPost_ret (v := .agg #[.int .i64 3, .string ⟨#[]⟩, .slice none 0 0]) (by simp [results, Try.results167, go_sem, r0, r1, r2]) rfl ?_
      exact ⟨_, rfl, ExAt.leaf _ _ 3 ByteArray.empty, hP3.keep hK6 hpne, (hK1.trans' hK3).trans hK6 (fun k (hk : k = _) => .inr (by omega))⟩

/-- All of them, for whatever number of rounds. -/
theorem all_ok (s : ByteArray) (hs : s.size ≤ 256) : ∀ F : Nat, (∀ F', F' ≤ F → ∀ k, k ≤ 3 → LevOK s F' k) ∧ (∀ F', F' ≤ F → AtomOK s F')
  | 0 => by
    refine ⟨?_, ?_⟩
    · intro F' hF k hk p i nest r w h hi hn hr
      obtain rfl : F' = 0 := by omega
      simp [lev] at hr
    · intro F' hF p i nest r w h hi hn hr
      obtain rfl : F' = 0 := by omega
      simp [atom] at hr
  | F + 1 => by
    obtain ⟨ihl, iha⟩ := all_ok s hs F
    refine ⟨?_, ?_⟩
    · intro F' hF k hk
      by_cases hle : F' ≤ F
      · exact ihl F' hle k hk
      · obtain rfl : F' = F + 1 := by omega
        intro p i nest r w h hi hn hr
        match k, hk with
        | 0, _ =>
          obtain ⟨F2, rk, h1, h2, rfl⟩ := lev_low (by decide) hr
          exact alt_any s hs F2 (fun F' h => ihl F' (by omega) 1 (by decide)) p i nest rk w h hi hn h2
        | 1, _ =>
          obtain ⟨F2, rk, h1, h2, rfl⟩ := lev_low (by decide) hr
          exact all_any s hs F2 (fun F' h => ihl F' (by omega) 2 (by decide)) p i nest rk w h hi hn h2
        | 2, _ =>
          obtain ⟨F2, rk, h1, h2, rfl⟩ := lev_low (by decide) hr
          exact seq_any s hs F2 (fun F' h => ihl F' (by omega) 3 (by decide)) p i nest rk w h hi hn h2
        | 3, _ => exact item_any s hs F (iha F (Nat.le_refl _)) p i nest r w h hi hn hr
    · intro F' hF
      by_cases hle : F' ≤ F
      · exact iha F' hle
      · obtain rfl : F' = F + 1 := by omega
        exact atom_any s hs F (ihl F (Nat.le_refl _) 0 (by decide))
end Ex
end Go.Proofs.Ytfgkcifkfokoiaa
