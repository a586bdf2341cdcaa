/- The walk through orders of package expr: up to four numbers. -/
import Derived.Test.YtfgkcifkfokoiaaFwD
set_option linter.unusedVariables false
set_option linter.unusedSimpArgs false
namespace Go.Proofs.Ytfgkcifkfokoiaa
open Go.RowKit
namespace Ex
/-- A block of numbers, not below B. -/
def okR (B : Nat) (w : World) (k : Nat) : Prop := B ≤ k ∧ isI w k
/-- These cells are slices of numbers. -/
def LLs (B : Nat) (w : World) : List (List Nat) → List Value → Prop
  | [], xs => xs = []
  | l :: ls, xs => ∃ v r, xs = v :: r ∧ Rd w (okR B w) v 1 (ints l) ∧ LLs B w ls r
theorem rdR_step {B : Nat} {w w' : World} {S : Nat → Prop} {v : Value} {cs : List Value} (h : Rd w (okR B w) v 1 cs) (hK : Keep S w w') (hn : ∀ k, okR B w k → ¬ S k) : Rd w' (okR B w') v 1 cs := by
  obtain ⟨A, n, c, rfl, hl, hc, hm, hr⟩ := h
  refine ⟨A, n, c, rfl, hl, hc, hm, fun h0 => ?_⟩
  obtain ⟨b, off, rfl, hok, hcell⟩ := hr h0
  exact ⟨b, off, rfl, ⟨hok.1, hok.2.keep hK (hn _ hok)⟩, fun j u hj => hK.cell (hcell j u hj) (hn _ hok)⟩
theorem LLs.step {B : Nat} {w w' : World} {S : Nat → Prop} (hK : Keep S w w') (hn : ∀ k, okR B w k → ¬ S k) : ∀ {ls : List (List Nat)} {xs : List Value}, LLs B w ls xs → LLs B w' ls xs
  | [], xs, h => h
  | l :: ls, xs, h => by
    obtain ⟨v, r, h1, h2, h3⟩ := h
    exact ⟨v, r, h1, rdR_step h2 hK hn, LLs.step hK hn h3⟩
theorem LLs.snoc {B : Nat} {w : World} {l : List Nat} {v : Value} (hv : Rd w (okR B w) v 1 (ints l)) : ∀ {ls : List (List Nat)} {xs : List Value}, LLs B w ls xs → LLs B w (ls ++ [l]) (xs ++ [v])
  | [], xs, h => by
    simp only [LLs] at h
    subst h
    exact ⟨v, [], rfl, hv, rfl⟩
  | x :: ls, xs, h => by
    obtain ⟨v', r, rfl, h2, h3⟩ := h
    exact ⟨v', r ++ [v], rfl, h2, LLs.snoc hv h3⟩
theorem LLs.length {B : Nat} {w : World} : ∀ {ls : List (List Nat)} {xs : List Value}, LLs B w ls xs → xs.length = ls.length
  | [], xs, h => by simp only [LLs] at h; subst h; rfl
  | l :: ls, xs, h => by
    obtain ⟨v, r, rfl, h2, h3⟩ := h
    simp only [List.length_cons, LLs.length h3]
theorem LLs.nth {B : Nat} {w : World} : ∀ {ls : List (List Nat)} {xs : List Value}, LLs B w ls xs → ∀ (j : Nat) (l : List Nat), ls[j]? = some l → ∃ v, xs[j]? = some v ∧ Rd w (okR B w) v 1 (ints l)
  | [], xs, h, j, l, hl => by simp at hl
  | x :: ls, xs, h, j, l, hl => by
    obtain ⟨v, r, rfl, h2, h3⟩ := h
    cases j with
    | zero => simp at hl; subst hl; exact ⟨v, rfl, h2⟩
    | succ j => simpa using LLs.nth h3 j l (by simpa using hl)
def ins (a : Nat) (r : List Nat) : List Nat := a :: r.map fun k => if a ≤ k then k + 1 else k
theorem ord_succ (n : Nat) : ord (n + 1) = (List.range (n + 1)).flatMap fun a => (ord n).map (ins a) := rfl
/-- The rows so far. -/
def ordTo (n a j : Nat) : List (List Nat) := ((List.range a).flatMap fun a => (ord n).map (ins a)) ++ ((ord n).take j).map (ins a)
theorem ordTo_zero (n : Nat) : ordTo n 0 0 = [] := rfl
theorem ordTo_next (n a : Nat) : ordTo n a (ord n).length = ordTo n (a + 1) 0 := by
  unfold ordTo
  rw [List.range_succ, List.flatMap_append, List.take_length]
  simp
theorem ordTo_succ (n a j : Nat) (r : List Nat) (h : (ord n)[j]? = some r) : ordTo n a (j + 1) = ordTo n a j ++ [ins a r] := by
  unfold ordTo
  rw [List.take_add_one, h]
  simp
theorem ordTo_all (n : Nat) : ordTo n (n + 1) 0 = ord (n + 1) := by
  unfold ordTo
  rw [ord_succ]
  simp
theorem ordTo_len : ∀ n, n < 4 → ∀ a, a ≤ 4 → ∀ j, j ≤ 24 → (ordTo n a j).length ≤ 200 := by decide +kernel
theorem sli_info : (Try.prog.info? 47).map (fun i => (i.zero, i.size, i.bytes)) = some (some (.slice none 0 0), 1, 24) := by kernel_rfl
/-- What orders gives. -/
def OrdOK (n : Nat) : Prop := ∀ (w : World), Calls Try.prog 116 #[.int .i64 (n : Int)] w fun e w' => ∃ A m c xs, e = .returned (.slice A m c) ∧ Rd w' (fun k => w.heap.size ≤ k) (.slice A m c) 1 xs ∧ LLs w.heap.size w' (ord n) xs ∧ Keep (fun _ => False) w w'
set_option maxRecDepth 100000 in
theorem orders_zero : OrdOK 0 := by
  intro w
  go_enter Try.func116, Try.ntmps116
  go_wp2_with fail
  go_ret
  refine ⟨some ⟨w.heap.size, 0, none⟩, 1, 1, [.slice none 0 0], rfl, ?_, ⟨_, [], rfl, Rd.nil _ _ _, rfl⟩, (Keep.refl _ w).alloc _⟩
  exact Own.rd (Own.new w w.heap.size 47 1 1 [.slice none 0 0] rfl (Nat.le_refl _) (by decide)) (fun k hk => by have := ob hk; omega)
/-- The loops' state: the rows so far. -/
structure OS (w wr : World) (ov : Value) (n : Nat) (ls : List (List Nat)) (xs : List Value) : Prop where
  row : wr.ownsRow w.heap.size 47 1 ov n xs
  lls : LLs w.heap.size wr ls xs
  len : n = ls.length
  keep : Keep (fun _ => False) w wr
theorem OS.same {w wr w2 : World} {ov : Value} {n : Nat} {ls : List (List Nat)} {xs : List Value} (h : OS w wr ov n ls xs) (hK : Keep (fun _ => False) wr w2) : OS w w2 ov n ls xs :=
  ⟨Own.keep h.row hK (fun _ _ h => h), h.lls.step hK (fun _ _ h => h), h.len, h.keep.trans' hK⟩
set_option maxRecDepth 100000 in
set_option maxHeartbeats 4000000 in
theorem orders_succ (n : Nat) (hn : n < 4) (IH : OrdOK n) : OrdOK (n + 1) := by
  intro w
  have hne : (((n + 1 : Nat) : Int) == 0) = false := by simp; omega
  obtain ⟨h24, hsm⟩ := ord_small n (by omega)
  go_enter Try.func116, Try.ntmps116
  go_wp2_with fail
  go_loopg [3, 14] (n + 1) (fun g v i wr => ∃ ov a xs, ov = v ∧ a ≤ n + 1 ∧ g = n + 1 - a ∧ i = .int .i64 (a : Int) ∧ OS w wr ov (ordTo n a 0).length (ordTo n a 0) xs)
  case atStart => exact ⟨_, 0, [], rfl, Nat.zero_le _, rfl, rfl, World.ownsRow_nil _ _ _ _, rfl, rfl, Keep.refl _ _⟩
  case round =>
    obtain ⟨ov, a, xs, rfl, ha, hg, rfl, hS⟩ := hrel
    have Hg := hid hg
    clear hg
    by_cases hlt : a < n + 1
    · obtain ⟨W1, rfl⟩ : ∃ W1, W1 = wr := ⟨wr, rfl⟩
      have hIH := IH W1
      go_wp2_with fail
      refine hIH.mono ?_
      rintro e W2 ⟨A, m, c, ys, rfl, hrd, hll, hK2⟩
      obtain ⟨A', m', c', hv, hyl, hmc, hmm, hcell⟩ := id hrd
      simp only [Value.slice.injEq] at hv
      obtain ⟨rfl, rfl, rfl⟩ := hv
      have hml : m = (ord n).length := by have := hll.length; omega
      subst hml
      clear hIH
      have hS2 := hS.same hK2
      have hovb : ∀ k, ov.ownBlock = some k → k < W1.heap.size := fun k hk => (hS.row.lt k hk).2
      have hcell2 : ∀ wr, Keep (fun k => ov.ownBlock = some k) W2 wr → ∀ (j : Nat) (u : Value), ys[j]? = some u → ∃ b off, A = some ⟨b, off, none⟩ ∧ wr.cell? ⟨b, off + j, none⟩ = some u := by
        intro wr hwr j u hj
        obtain ⟨b, off, rfl, hok, hc⟩ := hcell (by have h1 := (List.getElem?_eq_some_iff.1 hj).1; have h2 := hll.length; omega)
        exact ⟨b, off, rfl, hwr.cell (hc j u hj) (fun e => by have h1 := hovb b e; have h2 : W1.heap.size ≤ b := hok; omega)⟩
      have hrest : ∀ wr, Keep (fun k => ov.ownBlock = some k) W2 wr → ∀ (j : Nat) (r : List Nat), (ord n)[j]? = some r → ∃ v, ys[j]? = some v ∧ Rd wr (okR W1.heap.size wr) v 1 (ints r) := by
        intro wr hwr j r hj
        obtain ⟨v, h1, h2⟩ := hll.nth j r hj
        exact ⟨v, h1, rdR_step h2 hwr (fun k hk e => by have := hovb _ e; have := hk.1; omega)⟩
      have HC := hid hcell2
      have HR := hid hrest
      have hz2 := hS2.keep.size
      clear hS hcell hrd hll hcell2 hrest hyl hK2
      go_wp2_with fail
      go_loopg [3, 21] (ord n).length (fun g v i wr => ∃ ov' j xs', ov' = v ∧ j ≤ (ord n).length ∧ g = (ord n).length - j ∧ i = .int .i64 (j : Int) ∧ OS w wr ov' (ordTo n a j).length (ordTo n a j) xs' ∧ Keep (fun k => ov.ownBlock = some k) W2 wr ∧ (∀ k, ov'.ownBlock = some k → ov.ownBlock = some k ∨ W2.heap.size ≤ k))
      case atStart => exact ⟨_, 0, xs, rfl, Nat.zero_le _, rfl, rfl, hS2, Keep.refl _ _, fun k h => .inl h⟩
      case round =>
        clear hS2
        obtain ⟨ov2, j, xs2, rfl, hj, hg, rfl, hS, hK, hb⟩ := hrel
        have Hg2 := hid hg
        clear hg
        by_cases hlt2 : j < (ord n).length
        · obtain ⟨W3, rfl⟩ : ∃ W3, W3 = wr := ⟨wr, rfl⟩
          obtain ⟨r, hr⟩ : ∃ r, (ord n)[j]? = some r := ⟨_, List.getElem?_eq_getElem hlt2⟩
          obtain ⟨v, hv, hrv⟩ := HR.out W3 hK j r hr
          obtain ⟨b0, off0, rfl, y0⟩ := HC.out W3 hK j v hv
          obtain ⟨A2, m2, c2, rfl, hl2, hc2, hm2, hcl2⟩ := hrv
          obtain ⟨hrl, hrk⟩ := hsm r (List.mem_of_getElem? hr)
          obtain rfl : m2 = r.length := by simpa [ints] using hl2.symm
          have Hord := hid (ordTo_succ n a j r hr)
          have hnl := ordTo_len n hn a (by omega) j (by omega)
          have hnl2 := ordTo_len n hn a (by omega) (j + 1) (by omega)
          have HHr := hid hr
          have Hhv := hid hv
          have hO := Own.new W3 W3.heap.size 3 1 1 [.int .i64 (a : Int)] rfl (Nat.le_refl _) (by decide)
          clear hr hv hl2
          go_wp2_with fail
          go_loopg [7, 29] r.length (fun g v i wx => ∃ lv q, lv = v ∧ q ≤ r.length ∧ g = r.length - q ∧ i = .int .i64 (q : Int) ∧ wx.ownsRow W3.heap.size 3 1 lv (q + 1) (ints (ins a (r.take q))) ∧ Keep (fun _ => False) W3 wx)
          case atStart => exact ⟨_, 0, rfl, Nat.zero_le _, rfl, rfl, hO, (Keep.refl _ W3).alloc _⟩
          case round =>
            clear hO y0
            obtain ⟨lv, q, rfl, hq, hg, rfl, hro, hKv⟩ := hrel
            have Hg3 := hid hg
            clear hg
            by_cases hlt3 : q < r.length
            · obtain ⟨b4, off4, rfl, -, hc4⟩ := hcl2 (by omega)
              obtain ⟨y, hy⟩ : ∃ y, r[q]? = some y := ⟨_, List.getElem?_eq_getElem hlt3⟩
              have y1 := hKv.cell (hc4 q (.int .i64 (y : Int)) (by simp [ints, hy])) (fun h => h)
              have hyn : y < n := hrk y (List.mem_of_getElem? hy)
              have hins : ints (ins a (r.take (q + 1))) = ints (ins a (r.take q)) ++ [.int .i64 (((if a ≤ y then y + 1 else y) : Nat) : Int)] := by
                rw [← ints_snoc]
                congr 1
                unfold ins
                rw [List.take_add_one, hy]
                simp
              have hB3 : W3.heap.size ≤ wr.heap.size := hKv.size
              have Hins := hid hins
              clear hins hy
              by_cases hay : a ≤ y
              · have Hins2 := hid (show ints (ins a (r.take (q + 1))) = ints (ins a (r.take q)) ++ [.int .i64 ((y : Int) + 1)] by rw [Hins.out, if_pos hay]; rfl)
                go_wp2_with (at_builtin; refine append_one W3.heap.size rfl (.tmp 38) (.tmp 40) 47 3 _ 1 8 rfl Try.underlying47 int_info rfl (by decide) (by decide) _ (q + 1) (ints (ins a (r.take q))) [.int .i64 ((y : Int) + 1)] rfl rfl rfl ?h1a hro hB3 ?hla ?nexta)
                case h1a => intro u hu; simp at hu; subst hu; rfl
                case hla => omega
                case nexta =>
                  intro b5 cap5 w5 hown5 hK5 hb5
                  rw [← Hins2.out] at hown5
                  have hK6 := hKv.trans hK5 (fun q hq => .inr ((hro.lt q hq).1))
                  clear hro hK5 hb5 hKv
                  go_wp2_with fail
                  go_roundg (r.length - (q + 1))
                  case measure => have := Hg3.out; omega
                  case rel => exact ⟨_, q + 1, rfl, by omega, rfl, rfl, hown5, hK6⟩
              · have Hins2 := hid (show ints (ins a (r.take (q + 1))) = ints (ins a (r.take q)) ++ [.int .i64 (y : Int)] by rw [Hins.out, if_neg hay])
                go_wp2_with (at_builtin; refine append_one W3.heap.size rfl (.tmp 38) (.tmp 40) 47 3 _ 1 8 rfl Try.underlying47 int_info rfl (by decide) (by decide) _ (q + 1) (ints (ins a (r.take q))) [.int .i64 (y : Int)] rfl rfl rfl ?h1b hro hB3 ?hlb ?nextb)
                case h1b => intro u hu; simp at hu; subst hu; rfl
                case hlb => omega
                case nextb =>
                  intro b5 cap5 w5 hown5 hK5 hb5
                  rw [← Hins2.out] at hown5
                  have hK6 := hKv.trans hK5 (fun q hq => .inr ((hro.lt q hq).1))
                  clear hro hK5 hb5 hKv
                  go_wp2_with fail
                  go_roundg (r.length - (q + 1))
                  case measure => have := Hg3.out; omega
                  case rel => exact ⟨_, q + 1, rfl, by omega, rfl, rfl, hown5, hK6⟩
            · obtain rfl : q = r.length := by omega
              rw [List.take_length] at hro
              have hS4 := hS.same hKv
              have hlv : Rd wr (okR w.heap.size wr) lv 1 (ints (ins a r)) := Own.rd hro (fun k hk => ⟨by have := (hro.lt k hk).1; have := hS.keep.size; omega, isI.own hro k hk⟩)
              obtain ⟨A5, n5, c5, hlvv⟩ : ∃ A n c, lv = .slice A n c := by obtain ⟨A, n, c, h, -⟩ := hlv; exact ⟨A, n, c, h⟩
              subst hlvv
              have hrow4 := hS4.row
              have hbs : w.heap.size ≤ wr.heap.size := hS4.keep.size
              have hzz := hKv.size
              have hKz := hK.size
              clear hro
              go_wp2_with (at_builtin; refine append_one w.heap.size rfl (.tmp 43) (.tmp 45) 200 47 _ 1 24 rfl Try.underlying200 sli_info rfl (by decide) (by decide) _ (ordTo n a j).length xs2 [.slice A5 n5 c5] rfl rfl rfl ?h1c hrow4 hbs ?hlc ?nextc)
              case h1c => intro u hu; simp at hu; subst hu; rfl
              case hlc => omega
              case nextc =>
                intro b5 cap5 w5 hown5 hK5 hb5
                have hty : ∀ k, okR w.heap.size wr k → ¬ ov2.ownBlock = some k := fun k hk e => hk.2.row hrow4 (by decide) e
                have HS5 := hid (show OS w w5 (.slice (some ⟨b5, 0, none⟩) ((ordTo n a j).length + 1) cap5) (ordTo n a (j + 1)).length (ordTo n a (j + 1)) (xs2 ++ [.slice A5 n5 c5]) by
                  rw [Hord.out, List.length_append]
                  exact ⟨hown5, (hS4.lls.step hK5 hty).snoc (rdR_step hlv hK5 hty), by rw [List.length_append], hS4.keep.trans hK5 (fun k hk => .inr ((hrow4.lt k hk).1))⟩)
                have HK6 := hid (show Keep (fun k => ov.ownBlock = some k) W2 w5 from (hK.trans hKv (fun _ h => h.elim)).trans hK5 (fun k hk => hb k hk))
                have Hb6 := hid (show ∀ k, (Value.slice (some ⟨b5, 0, none⟩) ((ordTo n a j).length + 1) cap5).ownBlock = some k → ov.ownBlock = some k ∨ W2.heap.size ≤ k from fun k hk => by
                  have := ob hk
                  subst this
                  rcases hb5 with h | h
                  · exact hb _ h
                  · exact .inr (by omega))
                clear hown5 hK5 hb5 hty hrow4 hlv hS4 hS
                go_wp2_with fail
                go_roundg ((ord n).length - (j + 1))
                case measure => have := Hg2.out; omega
                case rel => exact ⟨_, j + 1, _, rfl, by omega, rfl, rfl, HS5.out, HK6.out, Hb6.out⟩
        · obtain rfl : j = (ord n).length := by omega
          have HS6 := hid (show OS w wr ov2 (ordTo n (a + 1) 0).length (ordTo n (a + 1) 0) xs2 by rw [← ordTo_next]; exact hS)
          clear hS
          go_wp2_with fail
          go_roundg (n + 1 - (a + 1))
          case measure => have := Hg.out; omega
          case rel => exact ⟨_, a + 1, xs2, rfl, by omega, rfl, rfl, HS6.out⟩
    · obtain rfl : a = n + 1 := by omega
      have hrd : Rd wr (fun k => w.heap.size ≤ k) ov 1 xs := Own.rd hS.row (fun k hk => (hS.row.lt k hk).1)
      obtain ⟨A5, n5, c5, hlvv⟩ : ∃ A n c, ov = .slice A n c := by obtain ⟨A, n, c, h, -⟩ := hrd; exact ⟨A, n, c, h⟩
      subst hlvv
      have HP := hid (show ∃ A m c xs', (Ending.returned (.slice A5 n5 c5) : Ending) = .returned (.slice A m c) ∧ Rd wr (fun k => w.heap.size ≤ k) (.slice A m c) 1 xs' ∧ LLs w.heap.size wr (ord (n + 1)) xs' ∧ Keep (fun _ => False) w wr from ⟨_, _, _, xs, rfl, hrd, by rw [← ordTo_all]; exact hS.lls, hS.keep⟩)
      clear hrd hS
      go_wp2_with fail
      go_ret
      exact HP.out
theorem orders_any : ∀ n, n ≤ 4 → OrdOK n
  | 0, _ => orders_zero
  | n + 1, h => orders_succ n (by omega) (orders_any n (by omega))
end Ex
end Go.Proofs.Ytfgkcifkfokoiaa
