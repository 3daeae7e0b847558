/-
  What an operation writes: all of them.
-/
import Derived.Test.YteoeidhcmcacbaaGreatDoorApp2
set_option linter.unusedVariables false
set_option linter.unusedSimpArgs false
namespace Go.Avm
open Go.RowKit (Below)
section
variable {P : Program} {B N : Nat} {ρ : Emb} {s : AS} {w : World} {fr : Fr} {a : Act}

theorem AppOk.write {x : Sem Value} {v : AVal} {s' : AS} (h : AppOk P B ρ s w x v s') : WriteOk P B ρ s w (do Pure.pure (.value (← x))) v s' := by
  obtain ⟨v', w', ρ', h1, h2, h3, h4⟩ := h
  exact ⟨.value v', v', w', ρ', by rw [Sem.run_bind, h1]; rfl, .inl rfl, h2, h3, h4⟩

theorem two_args {args : Array Operand} {x y : Opd} (h : args.toList.map compOpd = [x, y]) : ∃ p q, args = #[p, q] ∧ compOpd p = x ∧ compOpd q = y := by
  obtain ⟨l⟩ := args
  match l, h with
  | [p, q], h => exact ⟨p, q, rfl, by simpa using h⟩
theorem one_arg {args : Array Operand} {x : Opd} (h : args.toList.map compOpd = [x]) : ∃ p, args = #[p] ∧ compOpd p = x := by
  obtain ⟨l⟩ := args
  match l, h with
  | [p], h => exact ⟨p, rfl, by simpa using h⟩

/-- What writes is sound. -/
theorem write_ok (hR : Rel B ρ s w) (hF : FrR N ρ fr a) (o : Oper) {op : AOp} (hc : compOp P o = some op) {v : AVal} {s' : AS} (h : write fr s op = some (v, s')) : WriteOk P B ρ s w (execOp a.eval o) v s' := by
  obtain ⟨dst, oo, ty, pos, after, guard⟩ := o
  have no : op.writes = false → False := fun e => by cases op <;> first | (cases h; done) | (cases e; done)
  cases oo
  case store t x y =>
    simp only [compOp] at hc
    cases hn : sizeT P t with
    | none => rw [hn] at hc; cases hc
    | some n => rw [hn] at hc; obtain rfl := Option.some.inj hc; exact store_ok hR hF hn h
  case mapUpdate t m k x =>
    simp only [compOp] at hc
    split at hc
    · rename_i kt e hu
      split at hc
      · rename_i ek hk
        obtain rfl := Option.some.inj hc
        exact mset_ok hR hF hu hk h
      · cases hc
    · cases hc
  case insert t m k x =>
    simp only [compOp] at hc
    split at hc
    · rename_i kt e hu
      split at hc
      · rename_i ek hk
        obtain rfl := Option.some.inj hc
        exact mset_ok hR hF hu hk h
      · cases hc
    · cases hc
  case call c =>
    simp only [compOp] at hc
    obtain ⟨callee, args, ats⟩ := c
    cases callee with
    | value f => simp only [compCall] at hc; obtain rfl := Option.some.inj hc; exact (no rfl).elim
    | invoke r m => simp only [compCall] at hc; cases hc
    | builtin b =>
      have hex : execOp a.eval { dst := dst, op := .call { callee := .builtin b, args := args, argTypes := ats }, type := ty, pos := pos, after := after, guard := guard } = builtin b ats ty (args.map fun | .const _ => true | _ => false) (args.map a.eval) := rfl
      cases b <;> simp only [compCall] at hc <;> try (cases hc; done)
      case append =>
        cases h0 : ats[0]? with
        | none => rw [h0] at hc; simp at hc
        | some t =>
          cases h1 : ats[1]? with
          | none => rw [h1] at hc; simp at hc
          | some tx =>
            rw [h0, h1] at hc
            simp only [Option.bind_some] at hc
            split at hc
            · rename_i e d p q hu hd ha
              split at hc
              · rename_i hcond
                rw [Bool.and_eq_true] at hcond
                split at hc
                · rename_i n z hn hz
                  split at hc
                  · rename_i hzl
                    rw [Bool.and_eq_true] at hzl
                    obtain ⟨hzl, hn9⟩ := hzl
                    have hn9 : n ≤ 900 := ble_iff.1 hn9
                    obtain rfl := Option.some.inj hc
                    obtain ⟨x, y, rfl, rfl, rfl⟩ := two_args ha
                    obtain ⟨i, hi, hb0, hb⟩ := narrow_inv hcond.1
                    obtain ⟨i', zv, hi', hzv, _, rfl, hk⟩ := run_zero (w := w) hz
                    rw [hi] at hi'
                    obtain rfl := Option.some.inj hi'
                    have hsz : i.size = n + 1 := by
                      unfold sizeT at hn
                      rw [hi] at hn
                      simpa using hn
                    have hzs : zv.cells.size = n + 1 := by
                      have h2 := ((compVal_ok ρ zv).cells' hk).length
                      have h3 := eq_of_beq hzl
                      simp at h2; omega
                    have hcells : cellsA (bif fewT P e then n + 1 else n + 1001) = n + 1 := by
                      cases fewT P e with
                      | true =>
                        show (bif Nat.ble 1000 (n + 1) then _ else n + 1) = _
                        have : Nat.ble 1000 (n + 1) = false := by
                          cases hb : Nat.ble 1000 (n + 1) with
                          | false => rfl
                          | true => have := ble_iff.1 hb; omega
                        rw [this]; rfl
                      | false =>
                        show (bif Nat.ble 1000 (n + 1001) then Nat.sub (n + 1001) 1000 else _) = _
                        rw [ble_iff.2 (by omega)]
                        show n + 1001 - 1000 = _
                        omega
                    have hb : ((bif fewT P e then n + 1 else n + 1001) < 1000 ∧ i.bytes ≤ 16 * (n + 1)) ∨ (1000 ≤ (bif fewT P e then n + 1 else n + 1001) ∧ i.bytes ≤ 4096) := by
                      cases hf : fewT P e with
                      | true =>
                        left
                        unfold fewT at hf
                        rw [hi] at hf
                        have : i.bytes ≤ 16 * i.size := by simpa using hf
                        refine ⟨by show n + 1 < 1000; omega, by rw [← hsz]; exact this⟩
                      | false => exact .inr ⟨by show 1000 ≤ n + 1001; omega, hb⟩
                    simp only [write, hcells] at h
                    obtain ⟨vs, m, NEW, h4, h5, h6, h7⟩ := src_ok (sz := n + 1) (K := fun vs => append s (bif fewT P e then n + 1 else n + 1001) (n + 1) (fr.ev (compOpd x)) vs) hR hd hcond.2 h (hF.ev y)
                    have := append_ok (ty := ty) hu hi hzv hsz hzs (by omega) hb hR (hF.ev x) h5 h6 h7 h4
                    rw [hex]
                    have heq : Builtin.append_ ats ty #[a.eval x, a.eval y] = Builtin.append_ #[t, tx] ty #[a.eval x, a.eval y] := by
                      simp only [Builtin.append_, h0, h1]
                      rfl
                    rw [← heq] at this
                    simpa [builtin] using this.write
                  · cases hc
                · cases hc
              · cases hc
            · cases hc
      case copy =>
        cases h0 : ats[0]? with
        | none => rw [h0] at hc; simp at hc
        | some t =>
          rw [h0] at hc
          simp only [Option.bind_some] at hc
          split at hc
          · rename_i e e2 p q hu hd ha
            split at hc
            · rename_i n hn
              obtain rfl := Option.some.inj hc
              obtain ⟨x, y, rfl, rfl, rfl⟩ := two_args ha
              have := cpy_ok (tx := t) (ty := ty) hR hF hu hn h
              have heq : Builtin.copy_ ats ty #[a.eval x, a.eval y] = Builtin.copy_ #[t, t] ty #[a.eval x, a.eval y] := by
                simp only [Builtin.copy_, h0]
                rfl
              rw [← heq] at this
              rw [hex]
              simpa [builtin] using this.write
            · cases hc
          · cases hc
      case clear =>
        cases h0 : ats[0]? with
        | none => rw [h0] at hc; simp at hc
        | some t =>
          rw [h0] at hc
          simp only [Option.bind_some] at hc
          split at hc
          · rename_i e p hu ha
            split at hc
            · rename_i n z hn hz
              obtain rfl := Option.some.inj hc
              obtain ⟨x, rfl, rfl⟩ := one_arg ha
              have := clr_ok (ty := ty) hR hF hu hz h
              have heq : Builtin.clear_ ats ty #[a.eval x] = Builtin.clear_ #[t] ty #[a.eval x] := by
                simp only [Builtin.clear_, h0]
                rfl
              rw [← heq] at this
              rw [hex]
              simpa [builtin] using this.write
            · cases hc
          · cases hc
      case len =>
        repeat' (split at hc <;> try (cases hc; done))
        all_goals (obtain rfl := Option.some.inj hc; exact (no rfl).elim)
      case max =>
        repeat' (split at hc <;> try (cases hc; done))
        all_goals (obtain rfl := Option.some.inj hc; exact (no rfl).elim)
      case recover => obtain rfl := Option.some.inj hc; exact (no rfl).elim
  case makeFunc f x y =>
    exfalso
    cases f <;> simp only [compOp] at hc <;> first | (cases hc; done) | (obtain rfl := Option.some.inj hc; exact no rfl)
  case makeMap t r =>
    exfalso
    cases r <;> simp only [compOp] at hc <;> first | (cases hc; done) | (obtain rfl := Option.some.inj hc; exact no rfl)
  all_goals
    (exfalso
     unfold compOp at hc
     try dsimp only at hc
     repeat' (first
       | (cases hc; done)
       | (obtain rfl := Option.some.inj hc; exact no rfl)
       | (rw [Option.map_eq_some_iff] at hc; obtain ⟨_, _, rfl⟩ := hc; exact no rfl)
       | split at hc
       | (rw [Option.bind_eq_some_iff] at hc; obtain ⟨_, _, hc⟩ := hc; try dsimp only at hc)))
end
end Go.Avm
