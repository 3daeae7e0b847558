/-
  What an operation makes.
-/
import Derived.Test.YteoeidhcmcacbaaGreatDoorOps8
import Derived.Great.BuildSlice
import Derived.Laws.MakeOwn
set_option linter.unusedVariables false
set_option linter.unusedSimpArgs false
namespace Go.Avm
open Go.RowKit (Below)
section
variable {P : Program} {B N : Nat} {ρ : Emb} {s : AS} {w : World} {fr : Fr} {a : Act}

/-- What is known behind something new: g its number. -/
def MadeOk (P : Program) (B : Nat) (ρ : Emb) (s : AS) (w : World) (x : Sem Value) (g : Nat) (v : AVal) : Prop :=
  ∃ v' w' ρ', x.run P w = .ok v' w' ∧ Rel B ρ' s w' ∧ Ext ρ ρ' ∧ (∀ k, Mapped ρ' k → Mapped ρ k ∨ k = g) ∧ V ρ' v v' ∧ Below B w w'

theorem made_row (hR : Rel B ρ s w) {g : Nat} {cs : List AVal} (hg : s.get g = some (oneRow cs)) (hlt : g < s.nx) (hm : ¬ Mapped ρ g) {C : Array Value} (hC : Vs ρ cs C.toList) (hone : ones cs = true) (e : TypeId) :
    ∃ ρ', Rel B ρ' s (w.alloc (.cells C e)) ∧ Ext ρ ρ' ∧ (∀ k, Mapped ρ' k → Mapped ρ k ∨ k = g) ∧ ρ'.row g 0 = some ⟨w.heap.size, 0, 0, C.size⟩ ∧ Below B w (w.alloc (.cells C e)) := by
  have hlen := hC.length
  obtain ⟨ρ', h1, h2, h3, h4⟩ := hR.alloc hg hlt hm C e (0, 0) (fun i _ => by simp) (by simp at hlen; omega) ((ones_iff cs).1 hone) (fun i x y hx hy => hC.get hx (by simpa using hy))
  exact ⟨ρ', h1, h2, h3, h4, (Below.refl B w).alloc hR.base _⟩

theorem at_new (b n x : Nat) : (Loc.at ⟨b, 0, 0, n⟩ x) = ⟨b, x, none⟩ := by simp [Loc.at]

theorem new_ok (hR : Rel B ρ s w) {e : TypeId} {z : AVal} (hz : zeroT P e = some z) {obj : AObj} {f : Nat → AVal} (h : made fr (.new z.cells) = some (obj, f)) {g : Nat} (hg : s.get g = some obj) (hlt : g < s.nx) (hm : ¬ Mapped ρ g) :
    MadeOk P B ρ s w (Instr.alloc e true (.tuple #[])) g (f g) := by
  simp only [made] at h
  obtain ⟨h1, h2⟩ := bif_some h
  have h2 := Option.some.inj h2
  injection h2 with e1 e2
  subst e1 e2
  obtain ⟨_, zv, _, _, hzr, rfl, hk⟩ := run_zero (w := w) hz
  obtain ⟨ρ', h3, h4, h5, h6, h7⟩ := made_row hR hg hlt hm ((compVal_ok ρ zv).cells' hk) h1 e
  refine ⟨.pointer (some ⟨w.heap.size, 0, none⟩), _, ρ', ?_, h3, h4, h5, ?_, h7⟩
  · simp [Instr.alloc, hzr, newVar, newRow]; try rfl
  · have := V.ptr (ρ := ρ') g 0 0 _ h6 (Nat.le_refl 0)
    rwa [at_new] at this

theorem box_ok (hR : Rel B ρ s w) (hF : FrR N ρ fr a) {e : TypeId} {x : Operand} {obj : AObj} {f : Nat → AVal} (h : made fr (.box (compOpd x)) = some (obj, f)) {g : Nat} (hg : s.get g = some obj) (hlt : g < s.nx) (hm : ¬ Mapped ρ g) :
    MadeOk P B ρ s w (Instr.box e (a.eval x)) g (f g) := by
  simp only [made] at h
  obtain ⟨h1, h2⟩ := bif_some h
  have h2 := Option.some.inj h2
  injection h2 with e1 e2
  subst e1 e2
  have hk : (fr.ev (compOpd x)).known = true := by
    cases hq : fr.ev (compOpd x) <;> first | rfl | (rw [hq] at h1; cases h1)
  obtain ⟨ρ', h3, h4, h5, h6, h7⟩ := made_row hR hg hlt hm ((hF.ev x).cells' hk) h1 e
  refine ⟨.pointer (some ⟨w.heap.size, 0, none⟩), _, ρ', ?_, h3, h4, h5, ?_, h7⟩
  · simp [Instr.box, newVar, newRow]; try rfl
  · have := V.ptr (ρ := ρ') g 0 0 _ h6 (Nat.le_refl 0)
    rwa [at_new] at this

theorem mkmap_ok (hR : Rel B ρ s w) {t : TypeId} {g : Nat} (hg : s.get g = some (.map [])) (hlt : g < s.nx) (hm : ¬ Mapped ρ g) : MadeOk P B ρ s w (Instr.makeMap t none) g (.map g) := by
  obtain ⟨ρ', h1, h2, h3, h4⟩ := hR.allocMap hg hlt hm
  exact ⟨.map (some w.heap.size), _, ρ', rfl, h1, h2, h3, .map g _ h4, (Below.refl B w).alloc hR.base _⟩

theorem repsC_get (z : List AVal) (hz : 0 < z.length) : ∀ (n i : Nat), (repsC z n)[i]? = if i < n * z.length then z[i % z.length]? else none
  | 0, i => by simp [repsC]
  | n + 1, i => by
    rw [repsC]
    by_cases h : i < z.length
    · rw [List.getElem?_append_left h, if_pos (by rw [Nat.add_mul]; omega), Nat.mod_eq_of_lt h]
    · rw [List.getElem?_append_right (by omega), repsC_get z hz n]
      have : (i - z.length) % z.length = i % z.length := (Nat.mod_eq_sub_mod (by omega)).symm
      rw [this]
      by_cases h2 : i - z.length < n * z.length
      · rw [if_pos h2, if_pos (by rw [Nat.add_mul]; omega)]
      · rw [if_neg h2, if_neg (by rw [Nat.add_mul]; omega)]
theorem repsC_len (z : List AVal) : ∀ n, (repsC z n).length = n * z.length
  | 0 => by simp [repsC]
  | n + 1 => by rw [repsC, List.length_append, repsC_len z n, Nat.add_mul]; omega
theorem reps_eq (z : List AVal) (n : Nat) : reps z n = repsC z n := by
  induction n with
  | zero => rfl
  | succ n ih => show lapp z (reps z n) = _; rw [lapp_eq, ih]; rfl
theorem zeros_ok {z : List AVal} {Z : Array Value} (hv : Vs ρ z Z.toList) (hz : 0 < z.length) (n : Nat) : Vs ρ (repsC z n) ((Array.range (n * Z.size)).map (Z[· % Z.size]!)).toList := by
  have hlen : z.length = Z.size := by simpa using hv.length
  refine .of (by rw [repsC_len, hlen]; simp) fun i x y h1 h2 => ?_
  rw [repsC_get z hz] at h1
  split at h1
  · have hi : i % Z.size < Z.size := Nat.mod_lt _ (by omega)
    have hy : Z[i % Z.size]? = some y := by
      rw [Array.getElem?_toList, Array.getElem?_map] at h2
      rename_i hlt
      rw [Array.getElem?_range, if_pos (by rw [← hlen]; exact hlt)] at h2
      simp only [Option.map_some, Option.some.injEq] at h2
      rw [getElem!_pos Z _ hi] at h2
      rw [Array.getElem?_eq_getElem hi, h2]
    exact hv.get (hlen ▸ h1) (by simpa using hy)
  · cases h1

theorem lit_ok (hR : Rel B ρ s w) (hF : FrR N ρ fr a) {t e : TypeId} {len n : Nat} {z : AVal} {ps : Array (Nat × Operand)} {r : List (Nat × Nat × Opd)} (hu : P.underlying t = some (.slice e)) (hn : sizeT P e = some (n + 1)) (hz : zeroT P e = some z)
    (hzl : z.cells.length = n + 1) (hle : len * (n + 1) ≤ 16384) (hp : placesOf (fun i => some (i * (n + 1), n + 1)) ps.toList = some r) {obj : AObj} {f : Nat → AVal} (h : made fr (.lit len (n + 1) (repsC z.cells len) r) = some (obj, f))
    {g : Nat} (hg : s.get g = some obj) (hlt : g < s.nx) (hm : ¬ Mapped ρ g) :
    MadeOk P B ρ s w (Instr.buildSlice t len (ps.map fun (i, x) => (i, a.eval x))) g (f g) := by
  simp only [made] at h
  cases hf : fillParts (lmap (fun p => (p.1, p.2.1, fr.ev p.2.2)) r) (repsC z.cells len) with
  | none => rw [hf] at h; cases h
  | some cs =>
    rw [hf] at h
    obtain ⟨h1, h2⟩ := bif_some h
    rw [Bool.and_eq_true, beqN_iff, llen_eq] at h1
    obtain ⟨hone, hcl⟩ := h1
    change cs.length = len * (n + 1) at hcl
    have h2 := Option.some.inj h2
    injection h2 with e1 e2
    subst e1 e2
    obtain ⟨i, zv, hi, hzv, hzr, rfl, hk⟩ := run_zero (w := w) hz
    have hzc := (compVal_ok ρ zv).cells' hk
    have hzsize : zv.cells.size = n + 1 := by have := hzc.length; simp at this; omega
    have hisize : i.size = n + 1 := by unfold sizeT at hn; rw [hi] at hn; simpa using hn
    obtain ⟨C', h3, h4, h5⟩ := fill_ok (C := (Array.range (len * i.size)).map (zv.cells[· % zv.cells.size]!)) (places_ok hF hp) hf (by
      have := zeros_ok hzc (by omega) len
      rw [hzsize] at this
      rw [hisize, hzsize]
      exact this)
    obtain ⟨ρ', h6, h7, h8, h9, h10⟩ := made_row hR hg hlt hm h4 hone e
    have hsz : C'.size = len * (n + 1) := by rw [h5, hisize]; simp
    refine ⟨.slice (some ⟨w.heap.size, 0, none⟩) len len, _, ρ', ?_, h6, h7, h8, ?_, h10⟩
    · by_cases hz0 : len = 0
      · subst hz0
        have hC0 : C' = #[] := Array.eq_empty_of_size_eq_zero (by omega)
        subst hC0
        simp only [hisize, Nat.zero_mul] at h3
        have hr : ((Array.range 0).map fun (x : Nat) => zv.cells[x % zv.cells.size]!) = #[] := by simp
        rw [hr] at h3
        have h3' : Instr.fill (fun i => some (i * (n + 1), n + 1)) #[] (ps.toList.map fun (i, x) => (i, a.eval x)) = some #[] := h3
        have hr0 : Array.range 0 = #[] := rfl
        simp only [Instr.buildSlice, Sem.run_bind, run_under hu, run_size hn, Result.andThen_ok, Nat.zero_mul, if_true, Sem.run_pure, hr0, Array.map_empty, Array.toList_map, h3', newRow, run_newObj]
        simp [h3']
        try rfl
      · refine run_buildSlice w t e len _ C' i zv hu hi hzv (by rw [hisize]; omega) (by rw [hisize]; exact Nat.mul_ne_zero hz0 (by omega)) ?_
        rw [Array.toList_map, hisize]
        rw [hisize] at h3
        exact h3
    · have := V.slice (ρ := ρ') g 0 len (n + 1) 0 (some len) _ len h9 (Nat.le_refl 0) (Nat.le_refl _) (fun k hk => Option.some.inj hk) (by simp [hsz])
      rwa [at_new] at this

theorem mks_ok (hR : Rel B ρ s w) (hF : FrR N ρ fr a) {t e : TypeId} {n : Nat} {z : AVal} (hu : P.underlying t = some (.slice e)) (hn : sizeT P e = some (n + 1)) (hz : zeroT P e = some z) (hb : ∀ i, P.info? e = some i → i.bytes ≤ 4096) {l c : Operand}
    {obj : AObj} {f : Nat → AVal} (h : made fr (.mks (n + 1) z.cells (compOpd l) (compOpd c)) = some (obj, f)) {g : Nat} (hg : s.get g = some obj) (hlt : g < s.nx) (hm : ¬ Mapped ρ g) :
    MadeOk P B ρ s w (Instr.makeSlice t (a.eval l) (a.eval c)) g (f g) := by
  simp only [made] at h
  have hl := hF.ev l
  have hc := hF.ev c
  cases hq : fr.ev (compOpd l) <;> rw [hq] at h hl <;> try (cases h; done)
  rename_i kl l'
  cases l' with
  | negSucc => cases hr : fr.ev (compOpd c) <;> rw [hr] at h <;> cases h
  | ofNat l1 =>
    cases hr : fr.ev (compOpd c) <;> rw [hr] at h hc <;> try (cases h; done)
    rename_i kc c'
    cases c' with
    | negSucc => cases h
    | ofNat c1 =>
    simp only at h
    obtain ⟨h1, h2⟩ := bif_some h
    rw [Bool.and_eq_true, Bool.and_eq_true, Bool.and_eq_true, ble_iff, ble_iff, beqN_iff, llen_eq] at h1
    obtain ⟨⟨⟨hlc, hc1⟩, hone⟩, hzl⟩ := h1
    have h2 := Option.some.inj h2
    injection h2 with e1 e2
    subst e1 e2
    obtain ⟨i, zv, hi, hzv, hzr, rfl, hk⟩ := run_zero (w := w) hz
    have hzc := (compVal_ok ρ zv).cells' hk
    have hzsize : zv.cells.size = n + 1 := by have := hzc.length; simp at this; omega
    have hisize : i.size = n + 1 := by unfold sizeT at hn; rw [hi] at hn; simpa using hn
    have hbi := hb i hi
    generalize a.eval l = l' at hl
    generalize a.eval c = c' at hc
    cases hl; cases hc
    have hmul : i.bytes * c1 ≤ 4096 * 1048576 := Nat.mul_le_mul hbi hc1
    have hrun := run_make (P := P) w t e i zv hu hi hzv kl kc (Int.ofNat l1) (Int.ofNat c1) (Int.natCast_nonneg _) (by simp only [Int.ofNat_eq_natCast]; omega) (by
      have : ((i.bytes * c1 : Nat) : Int) ≤ 281474976710656 := by omega
      simpa using this) (by simp only [Int.ofNat_eq_natCast]; omega)
    have hV : Vs ρ (reps (compVal zv).cells c1) (madeCells zv.cells (c1 * i.size)).toList := by
      rw [reps_eq]
      have := zeros_ok hzc (by omega) c1
      rw [hisize, ← hzsize]
      exact this
    obtain ⟨ρ', h6, h7, h8, h9, h10⟩ := made_row hR hg hlt hm hV (by
      rw [ones_iff]
      intro x hx
      rw [reps_eq] at hx
      obtain ⟨j, hj1, hj2⟩ := List.getElem_of_mem hx
      have : (repsC (compVal zv).cells c1)[j]? = some x := by rw [List.getElem?_eq_getElem hj1, hj2]
      rw [repsC_get _ (by omega)] at this
      split at this
      · exact (ones_iff _).1 hone x (List.mem_of_getElem? this)
      · cases this) e
    refine ⟨_, _, ρ', hrun, h6, h7, h8, ?_, h10⟩
    have hsz : (madeCells zv.cells (c1 * i.size)).size = c1 * (n + 1) := by rw [size_madeCells, hisize]
    have := V.slice (ρ := ρ') g 0 l1 (n + 1) 0 (some c1) _ c1 h9 (Nat.le_refl 0) hlc (fun k hk => Option.some.inj hk) (by simp [hsz])
    rw [at_new] at this
    simpa using this

theorem narrow_inv {e : TypeId} (h : narrowT P e = true) : ∃ i, P.info? e = some i ∧ 0 < i.bytes ∧ i.bytes ≤ 4096 := by
  unfold narrowT at h
  split at h
  · rename_i i hi; simp at h; exact ⟨i, hi, h.1, h.2⟩
  · cases h

theorem s2b_ok (hR : Rel B ρ s w) (hF : FrR N ρ fr a) {src dst e : TypeId} (h1 : P.underlying src = some .string) (h2 : P.underlying dst = some (.slice e)) (h3 : P.underlying e = some (.int .u8)) {x : Operand}
    {obj : AObj} {f : Nat → AVal} (h : made fr (.s2b (compOpd x)) = some (obj, f)) {g : Nat} (hg : s.get g = some obj) (hlt : g < s.nx) (hm : ¬ Mapped ρ g) : MadeOk P B ρ s w (convert src dst (a.eval x)) g (f g) := by
  simp only [made] at h
  have hx := hF.ev x
  cases hq : fr.ev (compOpd x) <;> rw [hq] at h hx <;> try (cases h; done)
  rename_i b
  simp only at h
  obtain ⟨hroom, h4⟩ := bif_some h
  have h4 := Option.some.inj h4
  injection h4 with e1 e2
  subst e1 e2
  have hroom : b.length ≤ 8589934592 := by simpa using ble_iff.1 hroom
  generalize a.eval x = x' at hx
  cases hx with
  | str _ b' hb' =>
    have hrun := run_bytes_of_string (P := P) w src dst e b' h1 h2 h3
    generalize hcap : grownCap w b'.size 0 e = c at hrun
    have hc : b'.size ≤ c := by
      rw [← hcap]
      show b'.size ≤ b'.size + _ % _
      exact Nat.le_add_right _ _
    have hsz : (bytesRow b' c).size = c := by
      simp [bytesRow]
      have : b'.data.size = b'.size := rfl
      omega
    have hbs := str_size hb'
    have hR' : Rel B ρ s w.drew := hR.same rfl
    obtain ⟨ρ', h5, h6, h7, h8⟩ := hR'.alloc hg hlt hm (bytesRow b' c) e ((bytesRow b' c).size, (bytesRow b' c).size + 1) (fun i hi => by simp; omega) (by rw [hsz]; simp; omega)
      (fun y hy => by
        rw [lmap_eq, List.mem_map] at hy
        obtain ⟨n, _, rfl⟩ := hy
        rfl)
      (fun i y z hy hz => by
        rw [lmap_eq, List.getElem?_map] at hy
        cases hbi : b[i]? with
        | none => rw [hbi] at hy; cases hy
        | some n =>
          rw [hbi] at hy
          obtain rfl := Option.some.inj hy
          have hi : i < b'.data.size := by
            have := (List.getElem?_eq_some_iff.1 hbi).1
            have h9 : b'.data.size = b'.size := rfl
            omega
          rw [← hb', List.getElem?_map] at hbi
          have hz' : z = .int .u8 (b'.data[i]).toNat := by
            unfold bytesRow at hz
            rw [Array.getElem?_append_left (by simpa using hi)] at hz
            rw [Array.getElem?_map, Array.getElem?_eq_getElem hi] at hz
            exact (Option.some.inj hz).symm
          have : (b'.data[i]).toNat = n := by
            rw [Array.getElem?_toList, Array.getElem?_eq_getElem hi] at hbi
            exact Option.some.inj hbi
          rw [hz', this]
          exact .int _ _)
    refine ⟨_, _, ρ', hrun, h5, h6, h7, ?_, ((Below.refl B w).drew).trans ((Below.refl B w.drew).alloc hR.base _)⟩
    have := V.slice (ρ := ρ') g 0 (llen b) 1 0 none _ c h8 (Nat.le_refl 0) (by rw [llen_eq]; omega) (fun k hk => by cases hk) (by show 0 + (0 - 0) + c * 1 ≤ (bytesRow b' c).size; omega)
    rw [at_new] at this
    rw [hbs]
    rw [llen_eq] at this ⊢
    exact this

set_option maxHeartbeats 1000000 in
/-- ALL OF THEM. -/
theorem made_ok (hR : Rel B ρ s w) (hF : FrR N ρ fr a) (o : Oper) {op : AOp} (hc : compOp P o = some op) {obj : AObj} {f : Nat → AVal} (h : made fr op = some (obj, f)) {g : Nat} (hg : s.get g = some obj) (hlt : g < s.nx) (hm : ¬ Mapped ρ g) :
    ∃ v' w' ρ', (execOp a.eval o).run P w = .ok (.value v') w' ∧ Rel B ρ' s w' ∧ Ext ρ ρ' ∧ (∀ k, Mapped ρ' k → Mapped ρ k ∨ k = g) ∧ V ρ' (f g) v' ∧ Below B w w' := by
  have fin : ∀ {x : Sem Value}, execOp a.eval o = (do Pure.pure (.value (← x))) → MadeOk P B ρ s w x g (f g) →
      ∃ v' w' ρ', (execOp a.eval o).run P w = .ok (.value v') w' ∧ Rel B ρ' s w' ∧ Ext ρ ρ' ∧ (∀ k, Mapped ρ' k → Mapped ρ k ∨ k = g) ∧ V ρ' (f g) v' ∧ Below B w w' :=
    fun he ⟨v', w', ρ', h1, h2⟩ => ⟨v', w', ρ', by rw [he, Sem.run_bind, h1]; rfl, h2⟩
  obtain ⟨dst, oo, ty, pos, after, guard⟩ := o
  cases oo <;> simp only [compOp] at hc
  case alloc e =>
    cases hz : zeroT P e with
    | none => rw [hz] at hc; cases hc
    | some z => rw [hz] at hc; obtain rfl := Option.some.inj hc; exact fin rfl (new_ok hR hz h hg hlt hm)
  case box e x => obtain rfl := Option.some.inj hc; exact fin rfl (box_ok hR hF h hg hlt hm)
  case buildSlice t len ps =>
    split at hc
    · rename_i e hu
      split at hc
      · rename_i n z hn hz
        split at hc
        · rename_i hcond
          rw [Bool.and_eq_true, decide_eq_true_iff, beq_iff_eq] at hcond
          cases hp : placesOf (fun i => some (i * (n + 1), n + 1)) ps.toList with
          | none => rw [hp] at hc; cases hc
          | some r => rw [hp] at hc; obtain rfl := Option.some.inj hc; exact fin rfl (lit_ok hR hF hu hn hz hcond.2 hcond.1 hp h hg hlt hm)
        · cases hc
      · cases hc
    · cases hc
  case makeMap t r =>
    cases r with
    | some _ => cases hc
    | none =>
      obtain rfl := Option.some.inj hc
      simp only [made] at h
      injection h with h
      injection h with e1 e2
      subst e1 e2
      exact fin rfl (mkmap_ok hR hg hlt hm)
  case makeSlice t l c =>
    split at hc
    · rename_i e hu
      split at hc
      · rename_i hnar
        split at hc
        · rename_i n z hn hz
          obtain rfl := Option.some.inj hc
          refine fin rfl (mks_ok hR hF hu hn hz (fun i hi => ?_) h hg hlt hm)
          obtain ⟨i', h1, _, h2⟩ := narrow_inv hnar
          rw [hi] at h1
          obtain rfl := Option.some.inj h1
          exact h2
        · cases hc
      · cases hc
    · cases hc
  case convert src dst x =>
    split at hc
    · obtain rfl := Option.some.inj hc; cases h
    · obtain rfl := Option.some.inj hc; cases h
    · rename_i h1 h2
      split at hc
      · rename_i h3; obtain rfl := Option.some.inj hc; exact fin rfl (s2b_ok hR hF h1 h2 h3 h hg hlt hm)
      · cases hc
    · split at hc
      · obtain rfl := Option.some.inj hc; cases h
      · cases hc
    · cases hc
  case call c =>
    obtain ⟨callee, args, ats⟩ := c
    cases callee with
    | value f => simp only [compCall] at hc; obtain rfl := Option.some.inj hc; cases h
    | invoke r m => simp only [compCall] at hc; cases hc
    | builtin b =>
      cases b <;> simp only [compCall] at hc <;> try (cases hc; done)
      all_goals (repeat' (split at hc <;> try (cases hc; done)))
      all_goals (obtain rfl := Option.some.inj hc; cases h)
  case store t x y => cases hn : sizeT P t <;> rw [hn] at hc; cases hc; obtain rfl := Option.some.inj hc; cases h
  case build t ps =>
    repeat' (split at hc <;> try (cases hc; done))
    all_goals (cases hp : placesOf _ ps.toList <;> rw [hp] at hc <;> first | (cases hc; done) | (obtain rfl := Option.some.inj hc; cases h))
  case fieldAddr t x f =>
    split at hc
    · rename_i fs hu
      cases hf : fs[f]? with
      | none => rw [hf] at hc; cases hc
      | some fd =>
        rw [hf] at hc
        simp only [Option.bind_some] at hc
        split at hc
        · obtain rfl := Option.some.inj hc; cases h
        · cases hc
    · cases hc
  case field t x f =>
    split at hc
    · rename_i fs hu
      cases hf : fs[f]? with
      | none => rw [hf] at hc; cases hc
      | some fd =>
        rw [hf] at hc
        simp only [Option.bind_some] at hc
        split at hc
        · obtain rfl := Option.some.inj hc; cases h
        · cases hc
    · cases hc
  case indexAddr t x i =>
    split at hc
    · cases hn : sizeT P _ <;> rw [hn] at hc
      · cases hc
      · obtain rfl := Option.some.inj hc; cases h
    · cases hn : sizeT P _ <;> rw [hn] at hc
      · cases hc
      · obtain rfl := Option.some.inj hc; cases h
    · cases hc
  case makeFunc fn first cap => cases fn <;> simp only at hc <;> first | (cases hc; done) | (obtain rfl := Option.some.inj hc; cases h)
  all_goals first
    | (cases hc; done)
    | (obtain rfl := Option.some.inj hc; cases h; done)
    | (repeat' (split at hc <;> try (cases hc; done))
       all_goals (obtain rfl := Option.some.inj hc; cases h))
end
end Go.Avm
