/-
  What an operation gives that makes nothing, writes nothing and calls nothing: the rest.
-/
import Derived.Test.YteoeidhcmcacbaaGreatDoorOps5
set_option linter.unusedVariables false
set_option linter.unusedSimpArgs false
namespace Go.Avm
section
variable {P : Program} {B N : Nat} {ρ : Emb} {s : AS} {w : World} {fr : Fr} {a : Act}

theorem part_ok {t : TypeId} {g : Bool} {n : Nat} (hg : isAggT P t = some g) (hn : sizeT P t = some n) {cs : List AVal} {C : Array Value} (hc : Vs ρ cs C.toList) {off : Nat} {v : AVal}
    (hle : off + (if g then n else 1) ≤ cs.length) (h : (bif g then some (.agg (ltake (ldrop cs off) (if g then n else 1))) else nth cs off) = some v) :
    ∃ v', (part t C off).run P w = .ok v' w ∧ V ρ v v' := by
  cases g with
  | true =>
    obtain rfl := Option.some.inj h
    refine ⟨.agg (C.extract off (off + n)), by simp [part, run_agg hg, run_size hn], .agg' ?_⟩
    rw [ltake_eq, ldrop_eq]
    simp only [if_true, Array.toList_extract, List.extract_eq_take_drop]
    simpa using (hc.drop off).take n
  | false =>
    have h' : cs[off]? = some v := by simpa using h
    have hlt : off < C.size := by
      have := hc.length; simp at hle; simp at this; omega
    refine ⟨C[off], by simp [part, run_agg hg, hlt], hc.get h' (by simp [hlt])⟩

theorem fld_ok (hF : FrR N ρ fr a) {t : TypeId} {fs : Array Field} {f : Nat} {fd : Field} (hu : P.underlying t = some (.struct fs)) (hf : fs[f]? = some fd) {g : Bool} {n : Nat}
    (hg : isAggT P fd.type = some g) (hn : sizeT P fd.type = some n) {x : Operand} {v : AVal} (h : pval fr s (.fld g fd.offset (if g then n else 1) (compOpd x)) = some v) :
    ∃ v', (Instr.field t (a.eval x) f).run P w = .ok v' w ∧ V ρ v v' := by
  simp only [pval] at h
  have hx := hF.ev x
  cases hq : fr.ev (compOpd x) <;> rw [hq] at h hx <;> try (cases h; done)
  obtain ⟨C, h1, h2⟩ := hx.cells_agg
  obtain ⟨hle, h3⟩ := bif_some h
  have hle := ble_iff.1 hle
  rw [llen_eq] at hle
  obtain ⟨v', h4, h5⟩ := part_ok (P := P) (w := w) hg hn h2 hle h3
  exact ⟨v', by rw [h1]; simp [Instr.field, run_under hu, hf, asAgg, h4], h5⟩

theorem fla_ok (hF : FrR N ρ fr a) {t : TypeId} {fs : Array Field} {f : Nat} {fd : Field} (hu : P.underlying t = some (.struct fs)) (hf : fs[f]? = some fd) {n : Nat}
    (hn : sizeT P fd.type = some (n + 1)) {x : Operand} {v : AVal} (h : pval fr s (.fla fd.offset (compOpd x)) = some v) :
    ∃ v', (Instr.fieldAt t (a.eval x) f).run P w = .ok v' w ∧ V ρ v v' := by
  simp only [pval] at h
  have hx := hF.ev x
  cases hq : fr.ev (compOpd x) <;> rw [hq] at h hx <;> try (cases h; done)
  generalize a.eval x = x' at hx
  obtain rfl := Option.some.inj h
  cases hx with
  | ptr _ y _ L hL hlo =>
    refine ⟨_, by simp [Instr.fieldAt, run_under hu, hf, Instr.sureAddr, fieldPlace, run_size hn]; rfl, ?_⟩
    rw [L.at_add hlo]
    exact .ptr _ _ _ L hL (Nat.le_trans hlo (Nat.le_add_right _ _))

theorem ixa_ok (hF : FrR N ρ fr a) {t e : TypeId} {n : Nat} (hu : P.underlying t = some (.slice e)) (hn : sizeT P e = some n) {x i : Operand} {v : AVal} (h : pval fr s (.ixa n (compOpd x) (compOpd i)) = some v) :
    ∃ v', (Instr.indexAt t (a.eval x) (a.eval i)).run P w = .ok v' w ∧ V ρ v v' := by
  simp only [pval] at h
  have hx := hF.ev x
  have hi := hF.ev i
  cases hq : fr.ev (compOpd x) <;> rw [hq] at h hx <;> try (cases h; done)
  cases hr : fr.ev (compOpd i) <;> rw [hr] at h hi <;> try (cases h; done)
  rename_i g off len sz ver cap k j
  simp only at h
  replace h := bif_some h
  obtain ⟨hsz, h⟩ := h
  have hsz := beqN_iff.1 hsz
  cases hj : idx j len with
  | none => simp only [hj] at h; cases h
  | some m =>
    simp only [hj] at h
    obtain rfl := Option.some.inj h
    obtain ⟨rfl, hm⟩ := idx_some hj
    generalize a.eval x = x' at hx
    generalize a.eval i = i' at hi
    cases hi
    cases hx with
    | slice _ _ _ _ _ _ L c hL hlo hl hc hrm =>
      refine ⟨.pointer (some ((L.at off).add (m * n))), ?_, ?_⟩
      · simp only [Instr.indexAt, asIntOf, Sem.run_bind, Sem.run_pure, Result.andThen_ok, run_under hu]
        have h0 : (0 : Int) ≤ (m : Int) ∧ (m : Int) < (len : Int) := ⟨by omega, by omega⟩
        simp [h0, run_size hn]
      · rw [L.at_add hlo]
        exact .ptr _ _ _ L hL (Nat.le_trans hlo (Nat.le_add_right _ _))
    | slice0 => omega

theorem ixp_ok (hF : FrR N ρ fr a) {t e : TypeId} {len n : Nat} (hu : P.underlying t = some (.array len e)) (hn : sizeT P e = some n) {x i : Operand} {v : AVal} (h : pval fr s (.ixp len n (compOpd x) (compOpd i)) = some v) :
    ∃ v', (Instr.indexAt t (a.eval x) (a.eval i)).run P w = .ok v' w ∧ V ρ v v' := by
  simp only [pval] at h
  have hx := hF.ev x
  have hi := hF.ev i
  cases hq : fr.ev (compOpd x) <;> rw [hq] at h hx <;> try (cases h; done)
  cases hr : fr.ev (compOpd i) <;> rw [hr] at h hi <;> try (cases h; done)
  rename_i g y ver k j
  simp only at h
  cases hj : idx j len with
  | none => simp only [hj] at h; cases h
  | some m =>
    simp only [hj] at h
    obtain rfl := Option.some.inj h
    obtain ⟨rfl, hm⟩ := idx_some hj
    generalize a.eval x = x' at hx
    generalize a.eval i = i' at hi
    cases hi
    cases hx with
    | ptr _ _ _ L hL hlo =>
      refine ⟨.pointer (some ((L.at y).add (m * n))), ?_, ?_⟩
      · simp only [Instr.indexAt, asIntOf, Sem.run_bind, Sem.run_pure, Result.andThen_ok, run_under hu, Instr.sureAddr]
        have h0 : (0 : Int) ≤ (m : Int) ∧ (m : Int) < (len : Int) := ⟨by omega, by omega⟩
        simp [h0, run_size hn]
      · rw [L.at_add hlo]
        exact .ptr _ _ _ L hL (Nat.le_trans hlo (Nat.le_add_right _ _))

theorem ixs_ok (hF : FrR N ρ fr a) {t : TypeId} (hu : P.underlying t = some .string) {x i : Operand} {v : AVal} (h : pval fr s (.ixs (compOpd x) (compOpd i)) = some v) :
    ∃ v', (Instr.index t (a.eval x) (a.eval i)).run P w = .ok v' w ∧ V ρ v v' := by
  simp only [pval] at h
  have hx := hF.ev x
  have hi := hF.ev i
  cases hq : fr.ev (compOpd x) <;> rw [hq] at h hx <;> try (cases h; done)
  cases hr : fr.ev (compOpd i) <;> rw [hr] at h hi <;> try (cases h; done)
  rename_i b k j
  cases j with
  | negSucc m => cases h
  | ofNat m =>
    simp only [nth_eq] at h
    cases hb : b[m]? with
    | none => rw [hb] at h; cases h
    | some c =>
      rw [hb] at h
      obtain rfl := Option.some.inj h
      generalize a.eval x = x' at hx
      generalize a.eval i = i' at hi
      cases hi
      cases hx with
      | str _ b' hb' =>
        have hm : m < b'.size := by rw [str_size hb']; exact (List.getElem?_eq_some_iff.1 hb).1
        have hc : (b'[m]'hm).toNat = c := by
          rw [← hb', List.getElem?_map] at hb
          have h1 : b'.data.toList[m]? = some (b'[m]'hm) := by
            rw [Array.getElem?_toList]
            exact Array.getElem?_eq_getElem (h := hm)
          rw [h1] at hb
          exact Option.some.inj hb
        refine ⟨.int .u8 c, ?_, .int _ _⟩
        have h0 : (0 : Int) ≤ Int.ofNat m := Int.natCast_nonneg m
        simp only [Instr.index, asIntOf, Sem.run_bind, Sem.run_pure, Result.andThen_ok, run_under hu]
        rw [if_pos h0]
        have h2 : b'[(Int.ofNat m).toNat]? = some (b'[m]'hm) := by
          show b'[m]? = _
          exact getElem?_pos b' m hm
        rw [h2]
        simp [hc]

theorem ixg_ok (hF : FrR N ρ fr a) {t e : TypeId} {len n : Nat} {g : Bool} (hu : P.underlying t = some (.array len e)) (hg : isAggT P e = some g) (hn : sizeT P e = some n) (hgn : (g || n == 1) = true) {x i : Operand} {v : AVal}
    (h : pval fr s (.ixg g len n (compOpd x) (compOpd i)) = some v) : ∃ v', (Instr.index t (a.eval x) (a.eval i)).run P w = .ok v' w ∧ V ρ v v' := by
  simp only [pval] at h
  have hx := hF.ev x
  have hi := hF.ev i
  cases hq : fr.ev (compOpd x) <;> rw [hq] at h hx <;> try (cases h; done)
  cases hr : fr.ev (compOpd i) <;> rw [hr] at h hi <;> try (cases h; done)
  rename_i cs k j
  simp only at h
  cases hj : idx j len with
  | none => simp only [hj] at h; cases h
  | some m =>
    simp only [hj] at h
    obtain ⟨rfl, hm⟩ := idx_some hj
    obtain ⟨C, h1, h2⟩ := hx.cells_agg
    replace h := bif_some h
    obtain ⟨hle, h3⟩ := h
    have hle := ble_iff.1 hle
    rw [llen_eq] at hle
    change (m + 1) * n ≤ cs.length at hle
    rw [Nat.add_mul] at hle
    have hnn : n = (if g then n else 1) := by
      cases g with
      | true => rfl
      | false => simpa using hgn
    obtain ⟨v', h4, h5⟩ := part_ok (P := P) (w := w) (off := m * n) (v := v) hg hn h2 (by rw [← hnn]; omega) (by rw [← hnn]; exact h3)
    generalize a.eval i = i' at hi
    cases hi
    refine ⟨v', ?_, h5⟩
    rw [h1]
    have h0 : (0 : Int) ≤ (m : Int) ∧ (m : Int) < (len : Int) := ⟨by omega, by omega⟩
    simp only [Instr.index, asIntOf, Sem.run_bind, Sem.run_pure, Result.andThen_ok, run_under hu]
    simp [h0, run_size hn, h4]

theorem sub_ok (hF : FrR N ρ fr a) {t : TypeId} (hu : P.underlying t = some .string) {x : Operand} {lo hi : Option Operand} {v : AVal} (h : pval fr s (.sub (compOpd x) (lo.map compOpd) (hi.map compOpd)) = some v) :
    ∃ v', (Instr.sliceAt t (a.eval x) (lo.map a.eval) (hi.map a.eval) none).run P w = .ok v' w ∧ V ρ v v' := by
  simp only [pval] at h
  have hx := hF.ev x
  cases hq : fr.ev (compOpd x) <;> rw [hq] at h hx <;> try (cases h; done)
  rename_i b
  cases hs : sliceNums fr (llen b) (llen b) (lo.map compOpd) (hi.map compOpd) none with
  | none => simp only [hs] at h; cases h
  | some lhm =>
    obtain ⟨l, hh, m⟩ := lhm
    simp only [hs] at h
    obtain rfl := Option.some.inj h
    generalize a.eval x = x' at hx
    cases hx with
    | str _ b' hb' =>
      obtain ⟨h1, h2, h3, h4, h5⟩ := sliceNums_ok (P := P) (w := w) (mx := none) hF (show sliceNums fr (llen b) (llen b) (lo.map compOpd) (hi.map compOpd) ((none : Option Operand).map compOpd) = _ from hs) (llen b) (Nat.le_refl _) false
      have hbs : b'.size = llen b := by rw [llen_eq]; exact str_size hb'
      refine ⟨.string (b'.extract l hh), ?_, .str _ _ ?_⟩
      · have h1' : (Instr.sliceBounds false b'.size b'.size (lo.map a.eval) (hi.map a.eval) none).run P w = .ok (l, hh, llen b) w := by rw [hbs]; exact h1
        simp [Instr.sliceAt, run_under hu, Instr.slice, h1']
      · rw [← hb', ltake_eq, ldrop_eq, ← List.map_drop, ← List.map_take]
        congr 1
        simp [ByteArray.data_extract, List.extract_eq_take_drop]

theorem conv_ok (hF : FrR N ρ fr a) {src dst : TypeId} {j k : IntKind} (h1 : P.underlying src = some (.int j)) (h2 : P.underlying dst = some (.int k)) {x : Operand} {v : AVal} (h : pval fr s (.conv k (compOpd x)) = some v) :
    ∃ v', (convert src dst (a.eval x)).run P w = .ok v' w ∧ V ρ v v' := by
  simp only [pval] at h
  have hx := hF.ev x
  cases hq : fr.ev (compOpd x) <;> rw [hq] at h hx <;> try (cases h; done)
  obtain rfl := Option.some.inj h
  generalize a.eval x = x' at hx
  cases hx
  exact ⟨_, by simp [convert, run_under h1, run_under h2, Conv.intToInt]; rfl, by rw [wrapF_eq]; exact .int _ _⟩

theorem same_ok (hF : FrR N ρ fr a) {src dst : TypeId} (h1 : P.underlying src = some .string) (h2 : P.underlying dst = some .string) {x : Operand} {v : AVal} (h : pval fr s (.same (compOpd x)) = some v) :
    ∃ v', (convert src dst (a.eval x)).run P w = .ok v' w ∧ V ρ v v' := by
  simp only [pval] at h
  have hx := hF.ev x
  cases hq : fr.ev (compOpd x) <;> rw [hq] at h hx <;> try (cases h; done)
  obtain rfl := Option.some.inj h
  generalize a.eval x = x' at hx
  cases hx with
  | str _ b hb => exact ⟨.string b, by simp [convert, run_under h1, run_under h2], .str _ _ hb⟩

theorem len_ok (hR : Rel B ρ s w) (hF : FrR N ρ fr a) {t T : TypeId} {ek : EK} (hu : (ek = .kstr ∧ P.underlying t = some .string) ∨ (ek = .slice ∧ ∃ e, P.underlying t = some (.slice e)) ∨ (ek = .map ∧ ∃ k e, P.underlying t = some (.map k e)))
    {x : Operand} {v : AVal} (h : pval fr s (.len ek (compOpd x)) = some v) : ∃ v', (Builtin.len_ #[t] T #[a.eval x]).run P w = .ok v' w ∧ V ρ v v' := by
  simp only [pval] at h
  have hx := hF.ev x
  rcases hu with ⟨rfl, hu⟩ | ⟨rfl, e, hu⟩ | ⟨rfl, k, e, hu⟩
  · cases hq : fr.ev (compOpd x) <;> rw [hq] at h hx <;> try (cases h; done)
    obtain rfl := Option.some.inj h
    generalize a.eval x = x' at hx
    cases hx with
    | str _ b hb => exact ⟨_, by simp [Builtin.len_, run_under hu]; rfl, by rw [llen_eq, ← str_size hb]; exact .int _ _⟩
  · cases hq : fr.ev (compOpd x) <;> rw [hq] at h hx <;> try (cases h; done)
    · obtain rfl := Option.some.inj h
      generalize a.eval x = x' at hx
      cases hx <;> exact ⟨_, by simp [Builtin.len_, run_under hu]; rfl, .int _ _⟩
    · obtain rfl := Option.some.inj h
      generalize a.eval x = x' at hx
      cases hx
      exact ⟨_, by simp [Builtin.len_, run_under hu]; rfl, .int _ _⟩
  · cases hq : fr.ev (compOpd x) <;> rw [hq] at h hx <;> try (cases h; done)
    · rename_i r
      cases hg : s.get r with
      | none => simp only [hg] at h; cases h
      | some o =>
        cases o with
        | row => simp only [hg] at h; cases h
        | map es =>
          simp only [hg] at h
          obtain rfl := Option.some.inj h
          generalize a.eval x = x' at hx
          cases hx with
          | map _ q hq =>
            obtain ⟨_, _, es', Es, ck, h3, h4, h5⟩ := hR.mp _ _ hq
            rw [hg] at h3
            injection h3 with h3
            injection h3 with h3
            subst h3
            refine ⟨.int .i64 Es.size, ?_, ?_⟩
            · simp [Builtin.len_, run_under hu, getObj, Sem.run, h4, goInt]
            · have := h5.length; rw [llen_eq, this]; exact .int _ _
    · obtain rfl := Option.some.inj h
      generalize a.eval x = x' at hx
      cases hx
      exact ⟨_, by simp [Builtin.len_, run_under hu]; rfl, .int _ _⟩

theorem ext_ok (hF : FrR N ρ fr a) {x : Operand} {i : Nat} {v : AVal} (h : pval fr s (.ext (compOpd x) i) = some v) : ∃ v', (Instr.extract (a.eval x) i).run P w = .ok v' w ∧ V ρ v v' := by
  simp only [pval] at h
  have hx := hF.ev x
  cases hq : fr.ev (compOpd x) <;> rw [hq] at h hx <;> try (cases h; done)
  obtain ⟨C, h1, h2⟩ := hx.cells_tuple
  simp only [nth_eq] at h
  have hlt : i < C.size := by have := h2.length; have := (List.getElem?_eq_some_iff.1 h).1; simp at *; omega
  exact ⟨C[i], by rw [h1]; simp [Instr.extract, hlt], h2.get h (by simp [hlt])⟩

theorem max_ok (hF : FrR N ρ fr a) {x y : Operand} {v : AVal} (h : pval fr s (.max (compOpd x) (compOpd y)) = some v) (ats : Array TypeId) (T : TypeId) :
    ∃ v', (Builtin.max_ ats T #[a.eval x, a.eval y]).run P w = .ok v' w ∧ V ρ v v' := by
  simp only [pval] at h
  have hx := hF.ev x
  have hy := hF.ev y
  cases hq : fr.ev (compOpd x) <;> rw [hq] at h hx <;> try (cases h; done)
  cases hr : fr.ev (compOpd y) <;> rw [hr] at h hy <;> try (cases h; done)
  rename_i k n j m
  obtain ⟨h1, h2⟩ := bif_some h
  rw [beqK_eq, decide_eq_true_iff] at h1
  subst h1
  obtain rfl := Option.some.inj h2
  generalize a.eval x = x' at hx
  generalize a.eval y = y' at hy
  cases hx; cases hy
  refine ⟨.int k (if m > n then m else n), by simp [Builtin.max_, Builtin.max2], ?_⟩
  rw [bltI_eq]
  by_cases e : n < m
  · rw [decide_eq_true e, cond_true, if_pos e]; exact .int _ _
  · rw [decide_eq_false e, cond_false, if_neg e]; exact .int _ _
end
end Go.Avm
