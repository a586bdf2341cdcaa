/- What an expression of the program looks like in memory. -/
import Derived.Test.YtfgkcifkfokoiaaExP
import Derived.Test.YtfgkcifkfokoiaaHeap
set_option linter.unusedVariables false
set_option linter.unusedSimpArgs false
namespace Go.Proofs.Ytfgkcifkfokoiaa
open Go.RowKit
namespace Ex
mutual
/-- Value v is the expression; what it leads to lies in blocks of ok. -/
def ExAt (w : World) (ok : Nat → Prop) : ET → Value → Prop
  | .node k wd l, v => ∃ kv cs, v = .agg #[.int .i64 (k : Int), .string wd, kv] ∧ Rd w ok kv 3 cs ∧ KsAt w ok l cs
/-- These cells are the expressions of a list. -/
def KsAt (w : World) (ok : Nat → Prop) : List ET → List Value → Prop
  | [], cs => cs = []
  | e :: l, cs => ∃ a b c rest, cs = a :: b :: c :: rest ∧ ExAt w ok e (.agg #[a, b, c]) ∧ KsAt w ok l rest
end
theorem ExAt.form {w : World} {ok : Nat → Prop} : ∀ {e : ET} {v : Value}, ExAt w ok e v → ∃ k wd A n c, v = .agg #[.int .i64 k, .string wd, .slice A n c]
  | .node k wd l, v, h => by
    simp only [ExAt] at h
    obtain ⟨kv, cs, rfl, ⟨A, n, c, rfl, _⟩, _⟩ := h
    exact ⟨_, _, _, _, _, rfl⟩
mutual
theorem ExAt.keep {w w' : World} {ok S : Nat → Prop} (hk : Keep S w w') (hn : ∀ k, ok k → ¬ S k) : ∀ {e : ET} {v : Value}, ExAt w ok e v → ExAt w' ok e v
  | .node k wd l, v, h => by
    simp only [ExAt] at h ⊢
    obtain ⟨kv, cs, h1, h2, h3⟩ := h
    exact ⟨kv, cs, h1, h2.keep hk hn, KsAt.keep hk hn h3⟩
theorem KsAt.keep {w w' : World} {ok S : Nat → Prop} (hk : Keep S w w') (hn : ∀ k, ok k → ¬ S k) : ∀ {l : List ET} {cs : List Value}, KsAt w ok l cs → KsAt w' ok l cs
  | [], cs, h => by simpa only [KsAt] using h
  | e :: l, cs, h => by
    simp only [KsAt] at h ⊢
    obtain ⟨a, b, c, rest, h1, h2, h3⟩ := h
    exact ⟨a, b, c, rest, h1, ExAt.keep hk hn h2, KsAt.keep hk hn h3⟩
end
mutual
theorem ExAt.mono {w : World} {ok ok' : Nat → Prop} (ho : ∀ k, k < w.heap.size → ok k → ok' k) : ∀ {e : ET} {v : Value}, ExAt w ok e v → ExAt w ok' e v
  | .node k wd l, v, h => by
    simp only [ExAt] at h ⊢
    obtain ⟨kv, cs, h1, h2, h3⟩ := h
    exact ⟨kv, cs, h1, h2.mono ho (by decide), KsAt.mono ho h3⟩
theorem KsAt.mono {w : World} {ok ok' : Nat → Prop} (ho : ∀ k, k < w.heap.size → ok k → ok' k) : ∀ {l : List ET} {cs : List Value}, KsAt w ok l cs → KsAt w ok' l cs
  | [], cs, h => by simpa only [KsAt] using h
  | e :: l, cs, h => by
    simp only [KsAt] at h ⊢
    obtain ⟨a, b, c, rest, h1, h2, h3⟩ := h
    exact ⟨a, b, c, rest, h1, ExAt.mono ho h2, KsAt.mono ho h3⟩
end
theorem KsAt.snoc {w : World} {ok : Nat → Prop} {e : ET} {a b c : Value} (he : ExAt w ok e (.agg #[a, b, c])) : ∀ {l : List ET} {cs : List Value}, KsAt w ok l cs → KsAt w ok (l ++ [e]) (cs ++ [a, b, c])
  | [], cs, h => by
    simp only [KsAt] at h
    subst h
    simp only [List.nil_append, KsAt]
    exact ⟨a, b, c, [], rfl, he, rfl⟩
  | x :: l, cs, h => by
    simp only [KsAt, List.cons_append] at h ⊢
    obtain ⟨a', b', c', rest, rfl, h2, h3⟩ := h
    exact ⟨a', b', c', rest ++ [a, b, c], rfl, h2, KsAt.snoc he h3⟩
theorem KsAt.one {w : World} {ok : Nat → Prop} {e : ET} {a b c : Value} (he : ExAt w ok e (.agg #[a, b, c])) : KsAt w ok [e] [a, b, c] := KsAt.snoc (l := []) (cs := []) he rfl
theorem KsAt.length {w : World} {ok : Nat → Prop} : ∀ {l : List ET} {cs : List Value}, KsAt w ok l cs → cs.length = 3 * l.length
  | [], cs, h => by simp only [KsAt] at h; subst h; rfl
  | e :: l, cs, h => by
    simp only [KsAt] at h
    obtain ⟨a, b, c, rest, rfl, _, h3⟩ := h
    have := KsAt.length h3
    simp only [List.length_cons]
    omega
theorem ExAt.leaf (w : World) (ok : Nat → Prop) (k : Nat) (wd : ByteArray) : ExAt w ok (.node k wd []) (.agg #[.int .i64 (k : Int), .string wd, .slice none 0 0]) :=
  ⟨_, [], rfl, Rd.nil _ _ _, rfl⟩
theorem ExAt.over {w : World} {ok : Nat → Prop} {k : Nat} {wd : ByteArray} {l : List ET} {kv : Value} {cs : List Value} (hr : Rd w ok kv 3 cs) (hl : KsAt w ok l cs) : ExAt w ok (.node k wd l) (.agg #[.int .i64 (k : Int), .string wd, kv]) :=
  ⟨kv, cs, rfl, hr, hl⟩
end Ex
end Go.Proofs.Ytfgkcifkfokoiaa
