/- The one text of an expression that was read is read as that expression: plain Lean. Condition: the text has at most 256 bytes. -/
import Derived.Test.YtfgkcifkfokoiaaExT
set_option linter.unusedVariables false
set_option linter.unusedSimpArgs false
namespace Go.Proofs.Ytfgkcifkfokoiaa
namespace Ex
/-- At level k the text is read as the expression. -/
def LevT (k : Nat) (e : ET) : Prop := ∀ (s : ByteArray) (i n : Nat), Txt s i (lv k e) → brc k (kindE e) + nst e + n ≤ 16 → follow k s (i + (lv k e).length) → ∃ f, lev s f k i n = some (.ok e (blanksEnd s (i + (lv k e).length)))
/-- As an item, signs behind it still to come. -/
def ItemT (e : ET) : Prop := ∀ (s : ByteArray) (i n : Nat), Txt s i (lv 3 e) → brc 3 (kindE e) + nst e + n ≤ 16 → wordly (here s (i + (lv 3 e).length)) = false → ∃ f A j, atom s f i n = some (.ok A j) ∧ starsE s A (blanksEnd s j) = starsE s e (blanksEnd s (i + (lv 3 e).length))
theorem kne {a b : Nat} {wd : ByteArray} {l : List ET} (h : a ≠ b) : kindE (.node a wd l) ≠ b := h
theorem row_two (k : Nat) {l : List ET} (h : 2 ≤ l.length) : row k l = .node (kindOf k) ByteArray.empty l := by
  match l, h with
  | x :: y :: l, _ => rfl
theorem LevT.item {e : ET} (h : ItemT e) : LevT 3 e := by
  intro s i n ht hn hf
  obtain ⟨f, A, j, h1, h2⟩ := h s i n ht hn hf.1
  refine ⟨f + 1, ?_⟩
  rw [lev, if_pos rfl, h1]
  show some (R.ok (starsE s A (blanksEnd s j)).1 (starsE s A (blanksEnd s j)).2) = _
  rw [h2, starsE_stop hf.2.1]
theorem LevT.down {k : Nat} {e : ET} (hk : k < 3) (hw : WF e) (hne : kindE e ≠ kindOf k) (h : LevT (k + 1) e) : LevT k e := by
  intro s i n ht hn hf
  have hb := brk_down hk hne
  have hl : lv k e = lv (k + 1) e := by
    rcases brk_cases k (kindE e) with h0 | h0
    · rw [lv_out h0, lv_out (by rw [← hb]; exact h0)]
    · rw [lv_in h0, lv_in (by rw [← hb]; exact h0)]
  obtain ⟨c, r, hc, hbg⟩ := lv_first hw k
  have hfst : begins (here s i) = true := by rw [hc] at ht; rw [ht.head]; exact hbg
  rw [hl] at ht hf ⊢
  rw [hb] at hn
  obtain ⟨f, h1⟩ := h s i n ht hn hf.up
  refine ⟨f + 2, ?_⟩
  rw [lev, if_neg (by omega), show (if k = 2 then blanksEnd s i else i) = i from by split; exact blanks_at hfst; rfl, kids, h1]
  simp only [hf.2.2 k (Nat.le_refl _) hk, Bool.false_eq_true, if_false]
  rfl
def sepOf (k : Nat) : UInt8 := if k = 0 then 124 else if k = 1 then 38 else 32
theorem join_two (x y : List UInt8) (r : List (List UInt8)) (sep : List UInt8) : Lib.join (x :: y :: r) sep = x ++ (sep ++ Lib.join (y :: r) sep) := by
  rw [Lib.join_cons, Lib.join_cons]
  simp [Lib.joinTail]
theorem join_one (x : List UInt8) (sep : List UInt8) : Lib.join [x] sep = x := by rw [Lib.join_cons]; simp [Lib.joinTail]
theorem kidsT {k : Nat} (hk : k < 3) : ∀ (l : List ET), 1 ≤ l.length → (∀ e ∈ l, WF e ∧ LevT (k + 1) e) → ∀ (s : ByteArray) (i n : Nat), Txt s i (Lib.join (l.map (lv (k + 1))) [sepOf k]) → nstL (k + 1) l + n ≤ 16 → follow k s (i + (Lib.join (l.map (lv (k + 1))) [sepOf k]).length) →
    ∃ f, kids s f k i n = some (.ok l (blanksEnd s (i + (Lib.join (l.map (lv (k + 1))) [sepOf k]).length)))
  | [], h, _, _, _, _, _, _, _ => by simp at h
  | [e], _, hl, s, i, n, ht, hn, hf => by
    rw [List.map_cons, List.map_nil, join_one] at ht hf ⊢
    simp only [nstL] at hn
    obtain ⟨f, h1⟩ := (hl e (by simp)).2 s i n ht (by omega) hf.up
    refine ⟨f + 1, ?_⟩
    rw [kids, h1]
    simp only [hf.2.2 k (Nat.le_refl _) hk, Bool.false_eq_true, if_false]
  | e :: e2 :: l, _, hl, s, i, n, ht, hn, hf => by
    rw [List.map_cons, List.map_cons, join_two] at ht hf ⊢
    rw [show Lib.join (lv (k + 1) e2 :: l.map (lv (k + 1))) [sepOf k] = Lib.join ((e2 :: l).map (lv (k + 1))) [sepOf k] from rfl] at ht hf ⊢
    have ht1 := ht.left
    have ht2 := ht.right
    have hsep : here s (i + (lv (k + 1) e).length) = (sepOf k).toNat := ht2.head
    have ht3 : Txt s (i + (lv (k + 1) e).length + 1) (Lib.join ((e2 :: l).map (lv (k + 1))) [sepOf k]) := ht2.tail
    have hlen : i + (lv (k + 1) e ++ ([sepOf k] ++ Lib.join ((e2 :: l).map (lv (k + 1))) [sepOf k])).length = i + (lv (k + 1) e).length + 1 + (Lib.join ((e2 :: l).map (lv (k + 1))) [sepOf k]).length := by
      simp only [List.length_append, List.length_cons, List.length_nil]; omega
    rw [hlen] at hf ⊢
    have hbg : begins (here s (i + (lv (k + 1) e).length + 1)) = true := by
      obtain ⟨c, r, hc, hb⟩ := lv_first (hl e2 (by simp)).1 (k + 1)
      have : Lib.join ((e2 :: l).map (lv (k + 1))) [sepOf k] = c :: (r ++ Lib.joinTail [sepOf k] (l.map (lv (k + 1)))) := by
        rw [List.map_cons, Lib.join_cons, hc]; rfl
      rw [this] at ht3
      rw [ht3.head]
      exact hb
    have hN : nstL (k + 1) (e2 :: l) + n ≤ 16 ∧ brc (k + 1) (kindE e) + nst e + n ≤ 16 := by
      rw [nstL] at hn
      omega
    obtain ⟨f2, h2⟩ := kidsT hk (e2 :: l) (by simp) (fun x hx => hl x (List.mem_cons_of_mem _ hx)) s _ n ht3 hN.1 hf
    have key : follow (k + 1) s (i + (lv (k + 1) e).length) ∧ more k (here s (blanksEnd s (i + (lv (k + 1) e).length))) = true ∧ (if k = 2 then blanksEnd s (i + (lv (k + 1) e).length) else blanksEnd s (i + (lv (k + 1) e).length) + 1) = i + (lv (k + 1) e).length + 1 := by
      rcases (show k = 0 ∨ k = 1 ∨ k = 2 from by omega) with rfl | rfl | rfl
      · have hsep : here s (i + (lv (0 + 1) e).length) = 124 := hsep
        have hbl := blanksEnd_stop s (i + (lv (0 + 1) e).length) (by rw [hsep]; decide)
        unfold follow
        rw [hbl, hsep]
        refine ⟨⟨by decide, by decide, fun k' h1 h2 => ?_⟩, by decide, if_neg (by decide)⟩
        rcases (show k' = 1 ∨ k' = 2 from by omega) with rfl | rfl <;> decide
      · have hsep : here s (i + (lv (1 + 1) e).length) = 38 := hsep
        have hbl := blanksEnd_stop s (i + (lv (1 + 1) e).length) (by rw [hsep]; decide)
        unfold follow
        rw [hbl, hsep]
        refine ⟨⟨by decide, by decide, fun k' h1 h2 => ?_⟩, by decide, if_neg (by decide)⟩
        rcases (show k' = 2 from by omega) with rfl
        decide
      · have hsep : here s (i + (lv (2 + 1) e).length) = 32 := hsep
        have hbl : blanksEnd s (i + (lv (2 + 1) e).length) = i + (lv (2 + 1) e).length + 1 := by rw [blanksEnd_step s _ hsep]; exact blanks_at hbg
        unfold follow
        rw [hbl, hsep]
        exact ⟨⟨by decide, begins_star hbg, fun k' h1 h2 => absurd h2 (by omega)⟩, hbg, if_pos rfl⟩
    obtain ⟨f1, h1⟩ := (hl e (by simp)).2 s i n ht1 hN.2 key.1
    refine ⟨max f1 f2 + 1, ?_⟩
    rw [kids, lev_le h1 (Nat.le_max_left _ _)]
    simp only [key.2.1, if_true]
    rw [key.2.2, kids_le h2 (Nat.le_max_right _ _)]

theorem close_follow {s : ByteArray} {p : Nat} (h : here s p = 41) : follow 0 s p ∧ blanksEnd s p = p := by
  have hbl := blanksEnd_stop s p (by rw [h]; decide)
  unfold follow
  rw [hbl, h]
  refine ⟨⟨by decide, by decide, fun k' h1 h2 => ?_⟩, rfl⟩
  rcases (show k' = 0 ∨ k' = 1 ∨ k' = 2 from by omega) with rfl | rfl | rfl <;> decide
/-- In brackets. -/
theorem ItemT.brackets {e : ET} (hw : WF e) (hb : brc 3 (kindE e) = 1) (h : LevT 0 e) : ItemT e := by
  intro s i n ht hn hwd
  obtain ⟨c, r, hc, hbg⟩ := sh_first e hw
  rw [lv_in hb] at ht ⊢
  have h40 : here s i = 40 := ht.head
  have ht1 : Txt s (i + 1) (sh e) := ht.tail.left
  have h41 : here s (i + 1 + (sh e).length) = 41 := ht.tail.right.head
  have hfst : begins (here s (i + 1)) = true := by rw [hc] at ht1; rw [ht1.head]; exact hbg
  obtain ⟨hfo, hbl⟩ := close_follow h41
  obtain ⟨f, h1⟩ := h s (i + 1) (n + 1) ht1 (by rw [hb] at hn; have : brc 0 (kindE e) = 0 := rfl; omega) hfo
  rw [lv_zero, hbl] at h1
  refine ⟨f + 1, e, i + 1 + (sh e).length + 1, ?_, by simp only [List.length_cons, List.length_append, List.length_nil]; rw [show i + ((sh e).length + (0 + 1) + 1) = i + 1 + (sh e).length + 1 from by omega]⟩
  rw [atom, if_neg (by rw [h40]; decide), if_neg (by rw [h40]; decide), if_pos h40, if_neg (by omega), blanks_at hfst, if_neg (fun e => by rw [e] at hfst; exact absurd hfst (by decide)), h1]
  simp only [h41, if_true]
theorem word_txt {wd : ByteArray} (hw : wordB wd) {s : ByteArray} {i : Nat} (ht : Txt s i wd.data.toList) (hs : wordly (here s (i + wd.data.toList.length)) = false) : word s i = .ok wd (i + wd.data.toList.length) := by
  have hlt : ∀ q, q < wd.data.toList.length → wordly (here s (i + q)) = true := fun q hq => by
    rw [ht q _ (List.getElem?_eq_getElem hq)]
    exact hw.2 _ (List.getElem_mem hq)
  have hend : ∀ m q, q + m = wd.data.toList.length → wordEnd s (i + q) = i + wd.data.toList.length := by
    intro m
    induction m with
    | zero => intro q hq; obtain rfl : q = wd.data.toList.length := by omega
              exact wordEnd_stop s _ hs
    | succ m ih => intro q hq; rw [wordEnd_step s _ (hlt q (by omega))]; exact ih (q + 1) (by omega)
  have he := hend _ 0 (Nat.zero_add _)
  rw [Nat.add_zero] at he
  have hpos : 0 < wd.data.toList.length := List.length_pos_iff.2 hw.1
  have hsz : wd.data.toList.length = wd.size := data_len wd
  have hin : i + wd.data.toList.length ≤ s.size := by
    have := hlt (wd.data.toList.length - 1) (by omega)
    have := here_lt (wordly_zero this)
    omega
  unfold word
  rw [he, if_neg (by omega)]
  have := extract_same (s := wd) (t := s) wd.size 0 i (by omega) (by omega) (fun q hq => by
    rw [ht q _ (List.getElem?_eq_getElem (by omega)), Nat.zero_add]
    unfold here
    rw [dif_pos hq]
    simp
    rfl)
  rw [hsz, this]
  simp
theorem LevT.simple {e : ET} (hw : WF e) (h : ItemT e) (h4 : kindE e ≠ 4) (h5 : kindE e ≠ 5) (h6 : kindE e ≠ 6) : ∀ k, k ≤ 3 → LevT k e := by
  have l3 := LevT.item h
  have l2 := LevT.down (k := 2) (by omega) hw h4 l3
  have l1 := LevT.down (k := 1) (by omega) hw h6 l2
  have l0 := LevT.down (k := 0) (by omega) hw h5 l1
  intro k hk
  rcases (show k = 0 ∨ k = 1 ∨ k = 2 ∨ k = 3 from by omega) with rfl | rfl | rfl | rfl
  · exact l0
  · exact l1
  · exact l2
  · exact l3
theorem starsE_at {s : ByteArray} {p : Nat} {e : ET} {kd : Nat} {c : UInt8} (h : here s p = c.toNat) (hk : star? c.toNat = kd) (h0 : kd ≠ 0) : starsE s e (blanksEnd s p) = starsE s (.node kd ByteArray.empty [e]) (blanksEnd s (p + 1)) := by
  have hne : c.toNat ≠ 32 := fun e => by rw [e] at hk; exact h0 (by rw [← hk]; rfl)
  rw [blanksEnd_stop s p (by rw [h]; exact hne), starsE_step (by rw [h, hk]; exact h0), h, hk]
/-- A level's own row. -/
theorem LevT.own {k kd : Nat} {wd : ByteArray} {l : List ET} (hk : k < 3) (hkd : kindOf k = kd) (hwd : wd = ByteArray.empty) (h2 : 2 ≤ l.length) (hl : ∀ e ∈ l, WF e ∧ LevT (k + 1) e) (hsh : lv k (.node kd wd l) = Lib.join (l.map (lv (k + 1))) [sepOf k]) (hn0 : nst (.node kd wd l) = nstL (k + 1) l) : LevT k (.node kd wd l) := by
  intro s i n ht hn hf
  rw [hsh] at ht hf ⊢
  obtain ⟨f, h1⟩ := kidsT hk l (by omega) hl s i n ht (by rw [← hn0]; omega) hf
  refine ⟨f + 1, ?_⟩
  have hfst : begins (here s i) = true := by
    cases l with
    | nil => simp at h2
    | cons e l =>
      obtain ⟨c, r, hc, hb⟩ := lv_first (hl e (by simp)).1 (k + 1)
      rw [List.map_cons, Lib.join_cons, hc] at ht
      rw [ht.left.head]
      exact hb
  rw [lev, if_neg (by omega), show (if k = 2 then blanksEnd s i else i) = i from by split; exact blanks_at hfst; rfl, h1]
  simp only [row_two k h2, hkd, hwd]
mutual
theorem all_T : ∀ e : ET, WF e → ItemT e ∧ ∀ k, k ≤ 3 → LevT k e
  | .node kd wd l, h => by
    have hw := h
    simp only [WF] at h
    rcases h with ⟨h1, h2, h3⟩ | ⟨h1, h2, h3⟩ | ⟨h1, h2, h3, h4⟩ | ⟨h1, h2, h3, h4⟩
    · subst h2 h3
      rcases h1 with rfl | rfl
      · have hi : ItemT (.node 0 ByteArray.empty []) := by
          intro s i n ht hn hwd
          have hl : lv 3 (.node 0 ByteArray.empty []) = [40, 41] := by rw [lv_out rfl]; simp [sh]
          rw [hl] at ht ⊢
          have h40 : here s i = 40 := ht.head
          have h41 : here s (i + 1) = 41 := ht.tail.head
          have hnn : nst (.node 0 ByteArray.empty []) = 1 := by simp [nst]
          rw [hnn] at hn
          have hbl := blanksEnd_stop s (i + 1) (by rw [h41]; decide)
          refine ⟨1, .node 0 ByteArray.empty [], i + 1 + 1, ?_, rfl⟩
          rw [atom, if_neg (by rw [h40]; decide), if_neg (by rw [h40]; decide), if_pos h40, if_neg (by omega), hbl, if_pos h41]
        exact ⟨hi, LevT.simple hw hi (kne (by decide)) (kne (by decide)) (kne (by decide))⟩
      · have hi : ItemT (.node 3 ByteArray.empty []) := by
          intro s i n ht hn hwd
          have hl : lv 3 (.node 3 ByteArray.empty []) = [35, 116, 101, 120, 116] := by rw [lv_out rfl]; simp [sh]
          rw [hl] at ht ⊢
          have h0 : here s i = 35 := ht.head
          have h1 : here s (i + 1) = 116 := ht.tail.head
          have h2 : here s (i + 1 + 1) = 101 := ht.tail.tail.head
          have h3 : here s (i + 1 + 1 + 1) = 120 := ht.tail.tail.tail.head
          have h4 : here s (i + 1 + 1 + 1 + 1) = 116 := ht.tail.tail.tail.tail.head
          refine ⟨1, .node 3 ByteArray.empty [], i + 1 + 1 + 1 + 1 + 1, ?_, rfl⟩
          rw [atom, if_neg (by rw [h0]; decide), if_pos h0]
          simp only [text5, exact, h0, h1, h2, h3, h4, if_true]
        exact ⟨hi, LevT.simple hw hi (kne (by decide)) (kne (by decide)) (kne (by decide))⟩
    · subst h3
      rcases h1 with rfl | rfl
      · have hi : ItemT (.node 1 wd []) := by
          intro s i n ht hn hwd
          have hl : lv 3 (.node 1 wd []) = wd.data.toList := by rw [lv_out rfl]; simp [sh]
          rw [hl] at ht hwd ⊢
          have hf : wordly (here s i) = true := by
            cases hx : wd.data.toList with
            | nil => exact absurd hx h2.1
            | cons c r => rw [hx] at ht; rw [ht.head]; exact h2.2 c (by simp [hx])
          have hno : ∀ c, wordly c = false → ¬ here s i = c := fun c hc e => by rw [e, hc] at hf; cases hf
          refine ⟨1, .node 1 wd [], i + wd.data.toList.length, ?_, rfl⟩
          rw [atom, if_neg (hno _ (by decide)), if_neg (hno _ (by decide)), if_neg (hno _ (by decide)), word_txt h2 ht hwd]
        exact ⟨hi, LevT.simple hw hi (kne (by decide)) (kne (by decide)) (kne (by decide))⟩
      · have hi : ItemT (.node 2 wd []) := by
          intro s i n ht hn hwd
          have hl : lv 3 (.node 2 wd []) = 64 :: wd.data.toList := by rw [lv_out rfl]; simp [sh]
          rw [hl] at ht hwd ⊢
          have h64 : here s i = 64 := ht.head
          rw [List.length_cons, show i + (wd.data.toList.length + 1) = i + 1 + wd.data.toList.length from by omega] at hwd ⊢
          refine ⟨1, .node 2 wd [], i + 1 + wd.data.toList.length, ?_, rfl⟩
          rw [atom, if_pos h64, word_txt h2 ht.tail hwd]
        exact ⟨hi, LevT.simple hw hi (kne (by decide)) (kne (by decide)) (kne (by decide))⟩
    · have hall := all_TL l h4
      have hkids : ∀ q, q ≤ 3 → ∀ e ∈ l, WF e ∧ LevT q e := fun q hq e he => ⟨h4.mem e he, (hall e he).2 q hq⟩
      rcases h1 with rfl | rfl | rfl
      · have l2 : LevT 2 (.node 4 wd l) := LevT.own (by omega) rfl h2 h3 (hkids 3 (by omega)) (by rw [lv_out (show brc _ _ = 0 from rfl), sh, if_neg (by decide), if_neg (by decide), if_neg (by decide), if_pos rfl, shL_map]; rfl) (by rw [nst, if_neg (by decide)]; rfl)
        have l1 := LevT.down (k := 1) (by omega) hw (kne (by decide)) l2
        have l0 := LevT.down (k := 0) (by omega) hw (kne (by decide)) l1
        have hi := ItemT.brackets hw rfl l0
        refine ⟨hi, fun k hk => ?_⟩
        rcases (show k = 0 ∨ k = 1 ∨ k = 2 ∨ k = 3 from by omega) with rfl | rfl | rfl | rfl
        · exact l0
        · exact l1
        · exact l2
        · exact LevT.item hi
      · have l0 : LevT 0 (.node 5 wd l) := LevT.own (by omega) rfl h2 h3 (hkids 1 (by omega)) (by rw [lv_out (show brc _ _ = 0 from rfl), sh, if_neg (by decide), if_neg (by decide), if_neg (by decide), if_neg (by decide), if_neg (by decide), if_pos rfl, shL_map]; rfl) (by rw [nst, if_neg (by decide)]; rfl)
        have hi := ItemT.brackets hw rfl l0
        have l2 := LevT.down (k := 2) (by omega) hw (kne (by decide)) (LevT.item hi)
        have l1 := LevT.down (k := 1) (by omega) hw (kne (by decide)) l2
        refine ⟨hi, fun k hk => ?_⟩
        rcases (show k = 0 ∨ k = 1 ∨ k = 2 ∨ k = 3 from by omega) with rfl | rfl | rfl | rfl
        · exact l0
        · exact l1
        · exact l2
        · exact LevT.item hi
      · have l1 : LevT 1 (.node 6 wd l) := LevT.own (by omega) rfl h2 h3 (hkids 2 (by omega)) (by rw [lv_out (show brc _ _ = 0 from rfl), sh, if_neg (by decide), if_neg (by decide), if_neg (by decide), if_neg (by decide), if_pos rfl, shL_map]; rfl) (by rw [nst, if_neg (by decide)]; rfl)
        have l0 := LevT.down (k := 0) (by omega) hw (kne (by decide)) l1
        have hi := ItemT.brackets hw rfl l0
        have l2 := LevT.down (k := 2) (by omega) hw (kne (by decide)) (LevT.item hi)
        refine ⟨hi, fun k hk => ?_⟩
        rcases (show k = 0 ∨ k = 1 ∨ k = 2 ∨ k = 3 from by omega) with rfl | rfl | rfl | rfl
        · exact l0
        · exact l1
        · exact l2
        · exact LevT.item hi
    · have hall := all_TL l h4
      subst h2
      obtain ⟨x, rfl⟩ := List.length_eq_one_iff.1 h3
      have hx := (hall x (by simp)).1
      have hi : ItemT (.node kd ByteArray.empty [x]) := by
        intro s i n ht hn hwd
        have hl : lv 3 (.node kd ByteArray.empty [x]) = lv 3 x ++ mark kd := by
          have hb : brc 3 (kindE (.node kd ByteArray.empty [x])) = 0 := by rcases h1 with rfl | rfl | rfl <;> rfl
          rw [lv_out hb, sh, if_neg (by omega), if_neg (by omega), if_neg (by omega), if_neg (by omega), if_neg (by omega), if_neg (by omega), if_pos h1, shL_map, List.map_cons, List.map_nil, join_one]
          rfl
        obtain ⟨c, hc, hst⟩ : ∃ c : UInt8, mark kd = [c] ∧ star? c.toNat = kd := by
          rcases h1 with rfl | rfl | rfl
          · exact ⟨42, rfl, rfl⟩
          · exact ⟨43, rfl, rfl⟩
          · exact ⟨63, rfl, rfl⟩
        rw [hl, hc] at ht ⊢
        have hch : here s (i + (lv 3 x).length) = c.toNat := ht.right.head
        have hcw : wordly (here s (i + (lv 3 x).length)) = false := by
          rw [hch]
          rcases h1 with rfl | rfl | rfl
          · have : c = 42 := by simpa [mark] using hc.symm
            rw [this]; decide
          · have : c = 43 := by simpa [mark] using hc.symm
            rw [this]; decide
          · have : c = 63 := by simpa [mark] using hc.symm
            rw [this]; decide
        have hnn : nst (.node kd ByteArray.empty [x]) = brc 3 (kindE x) + nst x := by
          have : kl kd = 3 := by rcases h1 with rfl | rfl | rfl <;> decide
          rw [nst, if_neg (by omega), this]
          simp [nstL]
        obtain ⟨f, A, j, ha, hs⟩ := hx s i n ht.left (by rw [hnn] at hn; omega) hcw
        refine ⟨f, A, j, ha, ?_⟩
        rw [hs, starsE_at hch hst (by omega)]
        simp only [List.length_append, List.length_cons, List.length_nil]
        rw [show i + ((lv 3 x).length + (0 + 1)) = i + (lv 3 x).length + 1 from by omega]
      have hne : kindE (.node kd ByteArray.empty [x]) = kd := rfl
      exact ⟨hi, LevT.simple hw hi (by rw [hne]; omega) (by rw [hne]; omega) (by rw [hne]; omega)⟩
theorem all_TL : ∀ l : List ET, WFL l → ∀ e ∈ l, ItemT e ∧ ∀ k, k ≤ 3 → LevT k e
  | [], _, e, h => by simp at h
  | x :: l, h, e, he => by
    simp only [WFL] at h
    rcases List.mem_cons.1 he with he | he
    · rw [he]; exact all_T x h.1
    · exact all_TL l h.2 e he
end
end Ex
end Go.Proofs.Ytfgkcifkfokoiaa
