/-
  The one function without a body that is told: the index of a byte in a string.
-/
import Derived.Test.YteoeidhcmcacbaaGreatDoorAct
set_option linter.unusedVariables false
set_option linter.unusedSimpArgs false
namespace Go.Avm

theorem indexOf_cons (c b i : Nat) (s : List Nat) : indexOf c (b :: s) i = if b = c then (i : Int) else indexOf c s (i + 1) := by
  show (Bool.rec (indexOf c s (Nat.succ i)) (Int.ofNat i) (Nat.beq b c) : Int) = _
  by_cases h : b = c
  · rw [if_pos h, beqN_iff.2 h]; rfl
  · have : Nat.beq b c = false := by
      cases hb : Nat.beq b c with
      | false => rfl
      | true => exact absurd (beqN_iff.1 hb) h
    rw [this, if_neg h]

theorem indexOf_find (s : List UInt8) (c : UInt8) : ∀ (l : List UInt8) (i : Nat), s.drop i = l →
    (match (List.range' i l.length).find? (fun j => s[j]! == c) with | some j => (j : Int) | none => -1) = indexOf c.toNat (l.map (·.toNat)) i
  | [], i, _ => by simp [indexOf]
  | x :: l, i, h => by
    have hx : s[i]! = x := by
      have h1 : s[i]? = some x := by
        have := congrArg (·[0]?) h
        simpa [List.getElem?_drop] using this
      simp [h1]
    have hl : s.drop (i + 1) = l := by
      rw [← List.drop_drop, h]; rfl
    rw [List.map_cons, indexOf_cons, List.length_cons, List.range'_succ, List.find?_cons, hx]
    by_cases e : x = c
    · subst e; simp
    · have : (x == c) = false := by simpa using e
      rw [this, if_neg (fun e2 => e (by exact UInt8.toNat_inj.1 e2))]
      exact indexOf_find s c l (i + 1) hl

theorem indexByte_ok {P : Program} {f : Nat} {F : Func} (h : P.funcs[f]? = some F) (h1 : F.name ≠ "runtime.NumGoroutine") (h2 : F.body = none) (h3 : Extern.findNext F = none) (h4 : Extern.find F = some Extern.BytealgIndexByte.indexByte)
    {s : List Nat} {b : ByteArray} (hb : b.data.toList.map (·.toNat) = s) {c : Nat} (hc : c < 256) (w : World) : (callFunc f #[.string b, .int .u8 (Int.ofNat c)]).run P w = .ok (.value (.int .i64 (indexOf c s 0))) w := by
  have hcu : (Int.ofNat c).toNat.toUInt8.toNat = c := by simp; omega
  have hfind := indexOf_find b.data.toList (Int.ofNat c).toNat.toUInt8 b.data.toList 0 rfl
  rw [hcu, hb] at hfind
  have hget : ∀ i, b[i]! = b.data.toList[i]! := fun i => by
    have hsz : b.data.toList.length = b.size := by simp
    by_cases h : i < b.size
    · rw [getElem!_pos b i h, getElem!_pos b.data.toList i (by rw [hsz]; exact h)]; simp; rfl
    · rw [getElem!_neg b i h, getElem!_neg b.data.toList i (by rw [hsz]; exact h)]
  have hrun : (Extern.BytealgIndexByte.indexByte #[.string b, .int .u8 (Int.ofNat c)]).run P w = .ok (.int .i64 (indexOf c s 0)) w := by
    have hlist : (List.range b.size).find? (fun i => b[i]! == (Int.ofNat c).toNat.toUInt8) = (List.range' 0 b.data.toList.length).find? (fun j => b.data.toList[j]! == (Int.ofNat c).toNat.toUInt8) := by
      rw [List.range_eq_range', show b.size = b.data.toList.length from by simp]
      congr 1
      funext i
      rw [hget]
    have e : Extern.BytealgIndexByte.indexByte #[.string b, .int .u8 (Int.ofNat c)] = (match (List.range b.size).find? (fun i => b[i]! == (Int.ofNat c).toNat.toUInt8) with
      | some i => pure (goInt i)
      | none => pure (goInt (-1))) := rfl
    rw [e, hlist]
    cases hq : (List.range' 0 b.data.toList.length).find? (fun j => b.data.toList[j]! == (Int.ofNat c).toNat.toUInt8) with
    | none => rw [hq] at hfind; simp only at hfind; rw [← hfind]; rfl
    | some j => rw [hq] at hfind; simp only at hfind; rw [← hfind]; rfl
  simp only [callFunc, program, Sem.run_bind]
  simp [h, h1, h2, h3, h4, Sem.run, -Int.ofNat_eq_natCast, hrun]
end Go.Avm
