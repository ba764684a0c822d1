/- A part of the proof: G0. -/
import Derived.Test.YtddngfpgeifffaaGreatDoorVlF3
set_option linter.unusedVariables false
set_option linter.unusedSimpArgs false
set_option maxRecDepth 20000
namespace Go.Proofs.YtddngfpgeifffaaGreatDoor
open Go Go.Proofs Go.Proofs.Vl

theorem mget_mset (q r : MK) (d : D) : ∀ l : List (MK × D), mget (mset l q d) r = if q = r then some d else mget l r
  | [] => by simp only [mset, mget]
  | (k, e) :: l => by
    simp only [mset]
    split
    · rename_i h
      subst h
      simp only [mget]
      split <;> rfl
    · rename_i h
      simp only [mget, mget_mset q r d l]
      split
      · rename_i h2
        subst h2
        rw [if_neg (fun e => h e.symm)]
      · rfl

/-- Whether a plain mark lies at a cell; what lies behind it; which frame of the text that is. -/
def plainAt (p : List UInt8) (i : Nat) : Bool := decide (i + 16 ≤ p.length ∧ (p.take (i + 16)).drop i = plainMark)
def bodyAt (p : List UInt8) (i : Nat) : List UInt8 := (p.take (i + 768)).drop (i + 16)
def frameB (a : Nat) (s : List UInt8) (k : Nat) : List UInt8 := cellsOf (sealS (plainS a k (totalOf s) (chunk s k)))
def keyAt (a : Nat) (s p : List UInt8) (i : Nat) : Option Nat := if plainAt p i then (List.range (totalOf s)).find? fun k => decide (bodyAt p i = frameB a s k) else none
def GoodP (a : Nat) (s p : List UInt8) : Prop := ∀ i, i + 768 ≤ p.length → plainAt p i = true → (keyAt a s p i).isSome = true
def keysTo (a : Nat) (s p : List UInt8) (n : Nat) : List Nat := (List.range n).filterMap (keyAt a s p)
def keysOf (a : Nat) (s p : List UInt8) : List Nat := keysTo a s p (p.length - 767)
def allKeys (a : Nat) (s : List UInt8) (L : List (List UInt8)) : List Nat := L.flatMap (keysOf a s)
theorem keyAt_some {a : Nat} {s p : List UInt8} {i k : Nat} (h : keyAt a s p i = some k) : k < totalOf s ∧ bodyAt p i = frameB a s k ∧ plainAt p i = true := by
  unfold keyAt at h
  split at h
  · rename_i hp
    have h1 := List.find?_some h
    have h2 := List.mem_of_find?_eq_some h
    exact ⟨by simpa using h2, by simpa using h1, hp⟩
  · cases h
/-- What the maps hold behind frames of these indices. -/
def KInv (s : List UInt8) (ks : List Nat) (tot : Nat) (m : List (MK × D)) : Prop :=
  tot = (if ks = [] then 0 else totalOf s) ∧ ∀ k : Nat, mget m (.i k) = if k ∈ ks then some (.raw (.string ⟨⟨chunk s k⟩⟩)) else none
theorem KInv.nil (s : List UInt8) : KInv s [] 0 [] := ⟨rfl, fun k => rfl⟩
theorem KInv.add {s : List UInt8} {ks : List Nat} {m : List (MK × D)} (h : ∀ k : Nat, mget m (.i k) = if k ∈ ks then some (.raw (.string ⟨⟨chunk s k⟩⟩)) else none) (k : Nat) : KInv s (ks ++ [k]) (totalOf s) (mset m (.i k) (.raw (.string ⟨⟨chunk s k⟩⟩))) := by
  refine ⟨by simp, fun j => ?_⟩
  rw [mget_mset, h j]
  by_cases hj : k = j
  · subst hj; simp
  · have : ¬ (MK.i (k : Int) = MK.i (j : Int)) := by intro e; cases e; exact hj rfl
    rw [if_neg this]
    have hj' : ¬ j = k := fun e => hj e.symm
    simp [hj']

/-- Which frames miss; what Load answers. -/
def missOf (ks : List Nat) (i : Nat) : List Nat := (List.range i).filter fun k => decide (k ∉ ks)
def textOf (s : List UInt8) (ks : List Nat) (k : Nat) : List UInt8 := if k ∈ ks then chunk s k else []
def ints (l : List Nat) : D := .sl l.length 1 fun i _ => .raw (.int .i64 (l.getD i 0 : Nat))
def loadRes (s : List UInt8) (ks : List Nat) : List DC :=
  if ks = [] then [dstr [], (false, [.raw (.slice none 0 0)]), dint .i64 9]
  else if missOf ks (totalOf s) = [] then [dstr (padded s), (false, [.raw (.slice none 0 0)]), dint .i64 0]
  else [dstr [], (false, [ints (missOf ks (totalOf s))]), dint .i64 19]
theorem chunks_padded (s : List UInt8) : ∀ n, n ≤ totalOf s → ((List.range n).flatMap fun k => chunk s k) = (padded s).take (64 * n)
  | 0, _ => by simp
  | n + 1, h => by
    have hl := padded_len s
    rw [List.range_succ, List.flatMap_append, chunks_padded s n (by omega)]
    simp only [List.flatMap_cons, List.flatMap_nil, List.append_nil]
    unfold chunk
    have e : (padded s).take (64 * n) = ((padded s).take (64 * (n + 1))).take (64 * n) := by rw [List.take_take]; congr 1; omega
    rw [e, List.take_append_drop]
theorem texts_padded {s : List UInt8} {ks : List Nat} (h : missOf ks (totalOf s) = []) : ((List.range (totalOf s)).flatMap (textOf s ks)) = padded s := by
  have h2 : ∀ k ∈ List.range (totalOf s), textOf s ks k = chunk s k := by
    intro k hk
    unfold textOf
    rw [if_pos]
    refine Classical.byContradiction fun hc => ?_
    have : k ∈ missOf ks (totalOf s) := List.mem_filter.2 ⟨hk, by simpa using hc⟩
    rw [h] at this
    cases this
  have h3 : (List.range (totalOf s)).flatMap (textOf s ks) = (List.range (totalOf s)).flatMap fun k => chunk s k := by
    have : ∀ l : List Nat, (∀ k ∈ l, textOf s ks k = chunk s k) → l.flatMap (textOf s ks) = l.flatMap fun k => chunk s k := by
      intro l
      induction l with
      | nil => intro _; rfl
      | cons x l ih => intro h; rw [List.flatMap_cons, List.flatMap_cons, h x (by simp), ih fun k hk => h k (by simp [hk])]
    exact this _ h2
  rw [h3, chunks_padded s _ (Nat.le_refl _), List.take_of_length_le]
  rw [padded_len]; exact Nat.le_refl _
theorem textOf_len {s : List UInt8} {ks : List Nat} {k : Nat} (hk : k < totalOf s) : (textOf s ks k).length ≤ 64 := by
  unfold textOf
  split
  · rw [chunk_len hk]; exact Nat.le_refl _
  · simp
theorem texts_len {s : List UInt8} {ks : List Nat} : ∀ {n}, n ≤ totalOf s → ((List.range n).flatMap (textOf s ks)).length ≤ 64 * n
  | 0, _ => by simp
  | n + 1, h => by
    rw [List.range_succ, List.flatMap_append, List.length_append]
    simp only [List.flatMap_cons, List.flatMap_nil, List.append_nil]
    have h1 := texts_len (ks := ks) (n := n) (by omega : n ≤ totalOf s)
    have h2 := textOf_len (ks := ks) (by omega : n < totalOf s)
    omega
theorem missOf_succ (ks : List Nat) (i : Nat) : missOf ks (i + 1) = missOf ks i ++ (if i ∈ ks then [] else [i]) := by
  unfold missOf
  rw [List.range_succ, List.filter_append]
  by_cases h : i ∈ ks <;> simp [h]
theorem missOf_len (ks : List Nat) (i : Nat) : (missOf ks i).length ≤ i := by
  unfold missOf
  have := List.length_filter_le (fun k => decide (k ∉ ks)) (List.range i)
  simpa using this
theorem mem_allKeys {a : Nat} {s : List UInt8} {L : List (List UInt8)} {k : Nat} (h : k ∈ allKeys a s L) : k < totalOf s := by
  obtain ⟨p, _, hp⟩ := List.mem_flatMap.1 h
  obtain ⟨i, _, hi⟩ := List.mem_filterMap.1 hp
  exact (keyAt_some hi).1
end Go.Proofs.YtddngfpgeifffaaGreatDoor
