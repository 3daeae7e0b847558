/-
  Appends, copies, and what clears: the operations.
-/
import Derived.Test.YteoeidhcmcacbaaGreatDoorApp
set_option linter.unusedVariables false
set_option linter.unusedSimpArgs false
namespace Go.Avm
open Go.RowKit (Below)
section
variable {P : Program} {B N : Nat} {ρ : Emb} {s : AS} {w : World} {fr : Fr} {a : Act}

/-- What is appended. -/
theorem src_ok (hR : Rel B ρ s w) {tx : TypeId} {d : TypeDesc} (hu : P.underlying tx = some d) (hd : isSeq d = true) {sz : Nat} {y : AVal} {y' : Value} {α : Type} {K : List AVal → Option α} {r : α}
    (h : (match y with
      | .nilslice => K []
      | .slice g off len sz' v _ => bif Nat.beq sz sz' then match cellsAt s g off v (Nat.mul len sz) with
          | some vs => K vs
          | none => none
        else none
      | .str b => bif Nat.beq sz 1 then K (lmap (fun (n : Nat) => AVal.int .u8 (.ofNat n)) b) else none
      | _ => none) = some r) (hy : V ρ y y') : ∃ vs n NEW, K vs = some r ∧ Src P sz tx y' n NEW w ∧ Vs ρ vs NEW ∧ ones vs = true := by
  have hk : (∃ e', P.underlying tx = some (.slice e')) ∨ P.underlying tx = some .string := by
    cases d <;> simp [isSeq] at hd <;> first | exact .inl ⟨_, hu⟩ | exact .inr hu
  cases y <;> simp only at h <;> try (cases h; done)
  case nilslice =>
    cases hy
    exact ⟨[], 0, [], h, ⟨hk, fun _ => rfl, run_firstCells_none w sz 0 0 0, run_firstCells_none w.drew sz 0 0 0, by simp, fun _ h => by cases h⟩, .nil, rfl⟩
  case slice g off len sz' v cap =>
    obtain ⟨h1, h2⟩ := bif_some h
    cases hc : cellsAt s g off v (Nat.mul len sz) with
    | none => rw [hc] at h2; cases h2
    | some vs =>
      rw [hc] at h2
      cases hy with
      | slice _ _ _ _ _ _ L c hL hlo hl hcap hr =>
        obtain ⟨CS, h3, h4, h5, h6⟩ := cellsAt_ok hR hc hL hlo
        have ho := (ones_iff vs).2 h6
        exact ⟨vs, len, CS, h2, ⟨hk, fun _ => rfl, run_firstCells_some w sz len _ len c CS h4 h5, run_firstCells_some w.drew sz len _ len c CS h4 (by simpa using h5), h4, one_cells h3 h6⟩, h3, ho⟩
      | slice0 _ _ _ _ _ L a0 hL hlo hcap =>
        rw [show Nat.mul 0 sz = 0 from Nat.zero_mul sz] at hc
        have hcs : vs = [] := cellsAt_zero hc
        subst hcs
        exact ⟨[], 0, [], h2, ⟨hk, fun _ => rfl, run_firstCells_some w sz 0 _ 0 0 [] (by simp) (fun j u h => by simp at h), run_firstCells_some w.drew sz 0 _ 0 0 [] (by simp) (fun j u h => by simp at h), by simp, fun _ h => by cases h⟩, .nil, rfl⟩
  case str b =>
    obtain ⟨h1, h2⟩ := bif_some h
    obtain rfl := beqN_iff.1 h1
    cases hy with
    | str _ b' hb =>
      refine ⟨_, b'.size, byteCells b', h2, ⟨hk, fun _ => rfl, firstCells_string b' w, firstCells_string b' w.drew, by rw [byteCells_length, Nat.mul_one], fun u hu => by
        obtain ⟨_, _, rfl⟩ := List.mem_map.1 hu
        rfl⟩, ?_, ?_⟩
      · subst hb
        rw [lmap_eq, List.map_map]
        unfold byteCells
        generalize b'.data.toList = l
        induction l with
        | nil => exact .nil
        | cons x l ih => exact .cons (.int _ _) ih
      · rw [ones_iff, lmap_eq]
        intro c hc
        obtain ⟨_, _, rfl⟩ := List.mem_map.1 hc
        rfl

theorem append_ok {t tx ty e : TypeId} {i : TypeInfo} {z : Value} {sz : Nat} (ht : P.underlying t = some (.slice e)) (hi : P.info? e = some i) (hz : i.zero = some z) (hsz : i.size = sz) (hzs : z.cells.size = sz) (hs0 : 0 < sz) {r : Nat} (hby : (r < 1000 ∧ i.bytes ≤ 16 * sz) ∨ (1000 ≤ r ∧ i.bytes ≤ 4096))
    (hR : Rel B ρ s w) {n : Nat} {x : AVal} {x' y' : Value} (hx : V ρ x x') {vs : List AVal} {NEW : List Value} (hs : Src P sz tx y' n NEW w) (hvs : Vs ρ vs NEW) (hvo : ones vs = true) {v : AVal} {s' : AS}
    (h : append s r sz x vs = some (v, s')) : AppOk P B ρ s w (Builtin.append_ #[t, tx] ty #[x', y']) v s' := by
  have hnl := hs.newsLen
  have hl2 := hvs.length
  have hdiv : Nat.div (llen vs) sz = n := by
    rw [llen_eq, hl2, hnl]
    exact Nat.mul_div_cancel n hs0
  unfold append at h
  simp only [hdiv] at h
  have none0 : ∀ (base : Option Addr) (len c : Nat), n = 0 → len ≤ c → (Builtin.append_ #[t, tx] ty #[.slice base len c, y']).run P w = .ok (.slice base len c) w := by
    intro base len c h0 hle
    subst h0
    have hN : NEW = [] := List.eq_nil_of_length_eq_zero (by omega)
    subst hN
    subst hsz
    rcases hs.kind with ⟨e', hk⟩ | hk <;> cases base <;> simp [Builtin.append_, run_underlying ht, run_underlying hk, sizeOf, typeInfo, hi, hs.len, hle, hs.cells, storeCells]
  cases x <;> simp only at h <;> try (cases h; done)
  case nilslice =>
    cases hx
    cases h0 : Nat.beq n 0 with
    | true =>
      rw [h0] at h
      have h := Option.some.inj h
      injection h with e1 e2
      subst e1 e2
      exact ⟨_, w, ρ, none0 none 0 0 (beqN_iff.1 h0) (Nat.le_refl _), hR, .refl _ _ _ _, .nilslice⟩
    | false =>
      rw [h0] at h
      obtain ⟨hroom, h⟩ := bif_some h
      have h := Option.some.inj h
      injection h with e1 e2
      subst e1 e2
      have hn0 : n ≠ 0 := fun e => by rw [e] at h0; cases h0
      have := app_new (tx := tx) (ty := ty) ht hi hz hsz hzs hs0 hby hR (base := none) (sLen := 0) (sCap := 0) (old := []) (OLD := []) hs hvs hvo .nil rfl (by simp) (run_firstCells_none w.drew sz 0 0 0) (by omega)
        (by rw [Nat.zero_add]; exact fits_inv (fun k hk => by cases hk; rfl) hroom)
      simpa using this
  case slice g off len sz' ver cap =>
    obtain ⟨hsq, h⟩ := bif_none h
    have hsq : sz = sz' := by
      have : Nat.beq sz sz' = true := by simpa using hsq
      exact beqN_iff.1 this
    subst hsq
    have hreal : ∃ (base : Option Addr) (c : Nat) (L : Loc), x' = .slice base len c ∧ ρ.row g ver = some L ∧ L.lo ≤ off ∧ len ≤ c ∧ (∀ k, cap = some k → c = k) ∧
        (base = some (L.at off) ∧ L.o + (off - L.lo) + c * sz ≤ L.bs ∨ len = 0 ∧ c = 0) := by
      cases hx with
      | slice _ _ _ _ _ _ L c hL hlo hl hcap hr => exact ⟨_, c, L, rfl, hL, hlo, hl, hcap, .inl ⟨rfl, hr⟩⟩
      | slice0 _ _ _ _ _ L a0 hL hlo hcap => exact ⟨_, 0, L, rfl, hL, hlo, Nat.le_refl _, fun k hk => (hcap k hk).symm, .inr ⟨rfl, rfl⟩⟩
    obtain ⟨base, c, L, rfl, hL, hlo, hlc, hcap, hbase⟩ := hreal
    cases h0 : Nat.beq n 0 with
    | true =>
      rw [h0] at h
      have h := Option.some.inj h
      injection h with e1 e2
      subst e1 e2
      exact ⟨_, w, ρ, none0 base len c (beqN_iff.1 h0) hlc, hR, .refl _ _ _ _, hx⟩
    | false =>
      rw [h0] at h
      obtain ⟨hroom, h⟩ := bif_none h
      have hroom : Fits r c sz (len + n) := by
        have : fits r cap sz (Nat.add len n) = true := by simpa using hroom
        exact fits_inv hcap this
      have hn0 : n ≠ 0 := fun e => by rw [e] at h0; cases h0
      cases hc : cellsAt s g off ver (Nat.mul len sz) with
      | none => rw [hc] at h; cases h
      | some old =>
        rw [hc] at h
        simp only at h
        cases hgw : capBelow cap (Nat.add len n) with
        | true =>
          rw [hgw] at h
          have h := Option.some.inj h
          injection h with e1 e2
          subst e1 e2
          have hlt : c < len + n := by
            cases cap with
            | none => cases hgw
            | some k => rw [hcap k rfl]; exact blt_iff.1 hgw
          obtain ⟨OLD, ho1, ho2, ho3, ho4⟩ := cellsAt_ok hR hc hL hlo
          have hfc : (Builtin.firstCells sz len (.slice base len c)).run P w.drew = .ok OLD.toArray w.drew := by
            rcases hbase with ⟨rfl, _⟩ | ⟨rfl, rfl⟩
            · exact run_firstCells_some w.drew sz len _ len c OLD ho2 (by simpa using ho3)
            · have : OLD = [] := List.eq_nil_of_length_eq_zero (by rw [ho2]; exact Nat.zero_mul _)
              subst this
              cases base with
              | none => exact run_firstCells_none w.drew sz 0 0 0
              | some b => exact run_firstCells_some w.drew sz 0 _ 0 0 [] (by simp) (fun j u h => by simp at h)
          rw [lapp_eq]
          exact app_new (tx := tx) (ty := ty) ht hi hz hsz hzs hs0 hby hR hs hvs hvo ho1 ((ones_iff _).2 ho4) ho2 hfc hlt hroom
        | false =>
          rw [hgw] at h
          simp only [cond_false] at h
          cases hg : growAt s g (Nat.add off (Nat.mul len sz)) ver vs with
          | none => rw [hg] at h; cases h
          | some p =>
            obtain ⟨s1, ver1⟩ := p
            rw [hg] at h
            have h := Option.some.inj h
            injection h with e1 e2
            subst e1 e2
            exact app_on (tx := tx) (ty := ty) ht hi hz hsz hzs hs0 hby hR hL hlo hbase hs hvs hvo hc (by omega) hroom hg

theorem lenOf_slice (b : Option Addr) (n c : Nat) (w : World) : (Builtin.lenOf (.slice b n c)).run P w = .ok n w := rfl

theorem cpy_ok (hR : Rel B ρ s w) (hF : FrR N ρ fr a) {t tx ty e : TypeId} {n : Nat} (ht : P.underlying t = some (.slice e)) (hn : sizeT P e = some (n + 1)) {x y : Operand} {v : AVal} {s' : AS}
    (h : write fr s (.cpy (n + 1) (compOpd x) (compOpd y)) = some (v, s')) : AppOk P B ρ s w (Builtin.copy_ #[t, tx] ty #[a.eval x, a.eval y]) v s' := by
  simp only [write] at h
  have hx := hF.ev x
  have hy := hF.ev y
  cases hq : fr.ev (compOpd x) <;> rw [hq] at h hx <;> try (cases h; done)
  rename_i g off len sz' ver cap
  cases hq2 : fr.ev (compOpd y) <;> rw [hq2] at h hy <;> try (cases h; done)
  rename_i g2 off2 len2 sz2 ver2 cap2
  simp only at h
  have h1 := (bif_some h).1
  replace h := (bif_some h).2
  rw [Bool.and_eq_true, beqN_iff, beqN_iff] at h1
  obtain ⟨rfl, rfl⟩ := h1
  generalize hm : (bif Nat.ble len2 len then len2 else len) = m at h
  have hmin : m = Nat.min len2 len := by
    rw [← hm]
    show _ = min len2 len
    by_cases h3 : len2 ≤ len
    · rw [ble_iff.2 h3, cond_true]; omega
    · have : Nat.ble len2 len = false := by
        cases hb : Nat.ble len2 len with
        | false => rfl
        | true => exact absurd (ble_iff.1 hb) h3
      rw [this, cond_false]; omega
  cases hc : cellsAt s g2 off2 ver2 (Nat.mul m (n + 1)) with
  | none => rw [hc] at h; cases h
  | some vs =>
    rw [hc] at h
    simp only at h
    cases hp : putAt s g off ver vs with
    | none => rw [hp] at h; cases h
    | some s1 =>
      rw [hp] at h
      have h := Option.some.inj h
      injection h with e1 e2
      subst e1 e2
      generalize a.eval x = x' at hx
      generalize a.eval y = y' at hy
      have hsrc : ∃ (b2 : Option Addr) (c2 : Nat) (CS : List Value), y' = .slice b2 len2 c2 ∧ Vs ρ vs CS ∧ (Builtin.firstCells (n + 1) m (.slice b2 len2 c2)).run P w = .ok CS.toArray w ∧ ones vs = true ∧ CS.length = m * (n + 1) := by
        cases hy with
        | slice _ _ _ _ _ _ L c hL hlo hl hcap hr =>
          obtain ⟨CS, h3, h4, h5, h6⟩ := cellsAt_ok hR hc hL hlo
          exact ⟨_, c, CS, rfl, h3, run_firstCells_some w (n + 1) m _ len2 c CS h4 h5, (ones_iff vs).2 h6, h4⟩
        | slice0 _ _ _ _ _ L a0 hL hlo hcap =>
          have hm0 : m = 0 := by rw [hmin]; show min 0 len = 0; omega
          subst hm0
          rw [show Nat.mul 0 (n + 1) = 0 from Nat.zero_mul _] at hc
          have hcs : vs = [] := cellsAt_zero hc
          subst hcs
          exact ⟨_, 0, [], rfl, .nil, run_firstCells_some w (n + 1) 0 _ 0 0 [] (by simp) (fun j u h => by simp at h), rfl, by simp⟩
      obtain ⟨b2, c2, CS, rfl, h3, h4, h5, h6⟩ := hsrc
      have hmle : m ≤ len := by rw [hmin]; exact Nat.min_le_right _ _
      cases hx with
      | slice _ _ _ _ _ _ L c hL hlo hl hcap hr =>
        obtain ⟨w', h7, h8, h9⟩ := put_ok (P := P) hR hp hL hlo h3 h5
        refine ⟨_, w', ρ, ?_, h8, h9, .int _ _⟩
        simp [Builtin.copy_, run_underlying ht, lenOf_slice, run_size hn, ← hmin, h4, h7, goInt]
      | slice0 _ _ _ _ _ L a0 hL hlo hcap =>
        have hm0 : m = 0 := by omega
        subst hm0
        have hCS : CS = [] := List.eq_nil_of_length_eq_zero (by rw [h6]; exact Nat.zero_mul _)
        subst hCS
        have hvs0 : vs = [] := List.eq_nil_of_length_eq_zero (by rw [h3.length]; rfl)
        subst hvs0
        obtain ⟨w', h7, h8, h9⟩ := put_ok (P := P) hR hp hL hlo .nil rfl
        have hw : w' = w := by
          have h10 : (storeCells (L.at off) []).run P w = .ok () w := by simp [storeCells]
          rw [h10] at h7
          injection h7 with _ h7
          exact h7.symm
        subst hw
        refine ⟨_, _, ρ, ?_, h8, h9, .int _ _⟩
        simp [Builtin.copy_, run_underlying ht, lenOf_slice, run_size hn, h4, storeCells, goInt]

theorem clr_ok (hR : Rel B ρ s w) (hF : FrR N ρ fr a) {t ty e : TypeId} {n : Nat} {z : AVal} (ht : P.underlying t = some (.slice e)) (hz : zeroT P e = some z) {x : Operand} {v : AVal} {s' : AS}
    (h : write fr s (.clr (n + 1) z.cells (compOpd x)) = some (v, s')) : AppOk P B ρ s w (Builtin.clear_ #[t] ty #[a.eval x]) v s' := by
  simp only [write] at h
  have hx := hF.ev x
  cases hq : fr.ev (compOpd x) <;> rw [hq] at h hx <;> try (cases h; done)
  · rename_i g off len sz' ver cap
    simp only at h
    have h1 := (bif_some h).1
    replace h := (bif_some h).2
    rw [Bool.and_eq_true, Bool.and_eq_true, beqN_iff, beqN_iff, llen_eq] at h1
    obtain ⟨⟨rfl, hzl⟩, hzo⟩ := h1
    generalize a.eval x = x' at hx
    cases h0 : Nat.beq len 0 with
    | true =>
      rw [h0] at h
      have h := Option.some.inj h
      injection h with e1 e2
      subst e1 e2
      obtain rfl := beqN_iff.1 h0
      cases hx with
      | slice _ _ _ _ _ _ L c hL hlo hl hcap hr => exact ⟨.tuple #[], w, ρ, by simp [Builtin.clear_, run_underlying ht], hR, .refl _ _ _ _, .junk _⟩
      | slice0 _ _ _ _ _ L a0 hL hlo hcap => exact ⟨.tuple #[], w, ρ, by simp [Builtin.clear_, run_underlying ht], hR, .refl _ _ _ _, .junk _⟩
    | false =>
      rw [h0] at h
      simp only [cond_false] at h
      cases hp : putAt s g off ver (reps z.cells len) with
      | none => rw [hp] at h; cases h
      | some s1 =>
        rw [hp] at h
        have h := Option.some.inj h
        injection h with e1 e2
        subst e1 e2
        have hn0 : len ≠ 0 := fun e => by rw [e] at h0; cases h0
        cases hx with
        | slice _ _ _ _ _ _ L c hL hlo hl hcap hr =>
          obtain ⟨i, zv, hi, hzv, hzr, rfl, hk⟩ := run_zero (w := w) hz
          have hzc := ((compVal_ok ρ zv).cells' hk)
          have hzeros := zeros_ok hzc (by omega) len
          have hone : ones (reps (compVal zv).cells len) = true := by
            rw [ones_iff, reps_eq]
            intro c hc
            obtain ⟨j, hj1, hj2⟩ := List.getElem_of_mem hc
            have hg := repsC_get (compVal zv).cells (by omega) len j
            rw [repsC_len] at hj1
            rw [if_pos hj1, List.getElem?_eq_getElem (by rw [repsC_len]; exact hj1), hj2] at hg
            exact (ones_iff _).1 hzo c (List.mem_of_getElem? hg.symm)
          rw [reps_eq] at hp hone
          obtain ⟨w', h7, h8, h9⟩ := put_ok (P := P) hR hp hL hlo hzeros hone
          refine ⟨.tuple #[], w', ρ, ?_, h8, h9, .junk _⟩
          cases len with
          | zero => exact absurd rfl hn0
          | succ m =>
            have h7' : (storeCells (L.at off) (Builtin.zeroCells zv.cells (m + 1)).toList).run P w = .ok () w' := h7
            simp [Builtin.clear_, run_underlying ht, hzr, h7']
        | slice0 => exact absurd rfl hn0
  · have h := Option.some.inj h
    injection h with e1 e2
    subst e1 e2
    generalize a.eval x = x' at hx
    cases hx
    exact ⟨.tuple #[], w, ρ, by simp [Builtin.clear_, run_underlying ht], hR, .refl _ _ _ _, .junk _⟩
end
end Go.Avm
