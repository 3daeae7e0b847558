/-
  Appends, copies, and what clears.
-/
import Derived.Test.YteoeidhcmcacbaaGreatDoorWrite
import Derived.Deep.AppendSrc
set_option linter.unusedVariables false
set_option linter.unusedSimpArgs false
namespace Go.Avm
open Go.RowKit (Below)
section
variable {P : Program} {B N : Nat} {ρ : Emb} {s : AS} {w : World} {fr : Fr} {a : Act}

theorem growAt_inv {g x v ver : Nat} {vs : List AVal} {s' : AS} {cs : List AVal} {cur : Nat} {exts : List Nat} {ro : Bool} (hg : s.get g = some (.row cs cur exts ro)) (h : growAt s g x v vs = some (s', ver))
    (hle : ∀ e, exts[cur - v]? = some e → e ≤ cs.length) :
    ro = false ∧ v ≤ cur ∧ ver = cur + 1 ∧ ∃ e cs' exts', exts[cur - v]? = some e ∧ x ≤ e ∧ s' = s.set g (.row cs' (cur + 1) exts' false) ∧ Grown cs exts x vs cs' exts' := by
  simp only [growAt, hg] at h
  obtain ⟨h1, h2⟩ := bif_some h
  rw [Bool.and_eq_true, ble_iff] at h1
  rw [nth_eq] at h2
  change (match exts[cur - v]? with | some e => _ | none => none) = some (s', ver) at h2
  cases he : exts[cur - v]? with
  | none => rw [he] at h2; cases h2
  | some e =>
    rw [he] at h2
    simp only at h2
    obtain ⟨h3, h4⟩ := bif_some h2
    have h3 := ble_iff.1 h3
    have hel := hle e he
    refine ⟨by simpa using h1.1, h1.2, ?_⟩
    cases hb : (Nat.beq v cur && Nat.beq x (llen cs)) with
    | true =>
      rw [hb] at h4
      have h4 := Option.some.inj h4
      injection h4 with e1 e2
      rw [Bool.and_eq_true, beqN_iff, beqN_iff, llen_eq] at hb
      refine ⟨e2.symm, e, _, _, rfl, h3, e1.symm, ⟨?_, by omega, .inl ⟨by rw [llen_eq]; rfl, hb.2⟩⟩⟩
      rw [lapp_eq, hb.2, List.take_length]
    | false =>
      rw [hb] at h4
      have h4 := Option.some.inj h4
      injection h4 with e1 e2
      exact ⟨e2.symm, e, _, _, rfl, h3, e1.symm, ⟨by rw [lapp_eq, ltake_eq], by omega, .inr (by rw [llen_eq]; rfl)⟩⟩

/-- What is known behind an append. -/
def AppOk (P : Program) (B : Nat) (ρ : Emb) (s : AS) (w : World) (x : Sem Value) (v : AVal) (s' : AS) : Prop :=
  ∃ v' w' ρ', x.run P w = .ok v' w' ∧ Rel B ρ' s' w' ∧ Step B ρ s w ρ' s' w' ∧ V ρ' v v'

theorem zeroCells_size (z : Array Value) (n : Nat) : (Builtin.zeroCells z n).size = n * z.size := by simp [Builtin.zeroCells]

section
variable {t tx ty e : TypeId} {i : TypeInfo} {z : Value} {sz : Nat}

/-- A row that fits, by the room that there is. -/
def Fits (r c sz n : Nat) : Prop := (r < 1000 ∧ (n * sz ≤ 8796093022208 ∨ (c = 0 ∧ n * sz ≤ 17592186044416))) ∨ (1000 ≤ r ∧ n ≤ 8589934592)
theorem nextslicecap_zero {n : Nat} (h : 0 < n) : Builtin.nextslicecap n 0 = n := by
  unfold Builtin.nextslicecap
  simp [h]
theorem Fits.bytes {r c sz n b : Nat} (h : Fits r c sz n) (hg : c < n) (hb : (r < 1000 ∧ b ≤ 16 * sz) ∨ (1000 ≤ r ∧ b ≤ 4096)) : Builtin.nextslicecap n c * b ≤ 281474976710656 := by
  have h1 := nextslicecap_le (need := n) (old := c) hg
  rcases h with ⟨hr, h⟩ | ⟨hr, h⟩
  · have hb : b ≤ 16 * sz := by rcases hb with h | h <;> omega
    rcases h with h | ⟨rfl, h⟩
    · calc _ ≤ (2 * n) * (16 * sz) := Nat.mul_le_mul h1 hb
        _ = 2 * 16 * (n * sz) := by rw [Nat.mul_mul_mul_comm]
        _ ≤ _ := by omega
    · rw [nextslicecap_zero hg]
      calc _ ≤ n * (16 * sz) := Nat.mul_le_mul (Nat.le_refl _) hb
        _ = 16 * (n * sz) := by rw [Nat.mul_left_comm]
        _ ≤ _ := by omega
  · have hb : b ≤ 4096 := by rcases hb with h | h <;> omega
    calc _ ≤ (2 * 8589934592) * 4096 := Nat.mul_le_mul (by omega) hb
      _ ≤ _ := by omega
theorem Fits.small {r c sz n : Nat} (h : Fits r c sz n) (hs : 0 < sz) : n ≤ 17592186044416 := by
  have : n * 1 ≤ n * sz := Nat.mul_le_mul (Nat.le_refl _) hs
  rcases h with ⟨_, h | ⟨_, h⟩⟩ | ⟨_, h⟩ <;> omega
theorem fits_inv {r : Nat} {cap : Option Nat} {c sz n : Nat} (hc : ∀ k, cap = some k → c = k) (h : fits r cap sz n = true) : Fits r c sz n := by
  unfold fits at h
  cases hr : Nat.ble 1000 r with
  | true => rw [hr] at h; exact .inr ⟨ble_iff.1 hr, ble_iff.1 h⟩
  | false =>
    rw [hr] at h
    have hr' : r < 1000 := by
      rcases Nat.lt_or_ge r 1000 with h | h
      · exact h
      · rw [ble_iff.2 h] at hr; cases hr
    simp only [cond_false] at h
    split at h
    · exact .inl ⟨hr', .inr ⟨hc 0 rfl, ble_iff.1 h⟩⟩
    · exact .inl ⟨hr', .inl (ble_iff.1 h)⟩
/-- An append that makes a new row of its own. -/
theorem app_new (ht : P.underlying t = some (.slice e)) (hi : P.info? e = some i) (hz : i.zero = some z) (hsz : i.size = sz) (hzs : z.cells.size = sz) (hs0 : 0 < sz) {r : Nat} (hby : (r < 1000 ∧ i.bytes ≤ 16 * sz) ∨ (1000 ≤ r ∧ i.bytes ≤ 4096)) (hR : Rel B ρ s w)
    {base : Option Addr} {sLen sCap n : Nat} {x : Value} {old vs : List AVal} {OLD NEW : List Value} (hs : Src P sz tx x n NEW w) (hvs : Vs ρ vs NEW) (hvo : ones vs = true)
    (hold : Vs ρ old OLD) (hoo : ones old = true) (hol : OLD.length = sLen * sz) (hfc : (Builtin.firstCells sz sLen (.slice base sLen sCap)).run P w.drew = .ok OLD.toArray w.drew)
    (hg : sCap < sLen + n) (hroom : Fits r sCap sz (sLen + n)) :
    AppOk P B ρ s w (Builtin.append_ #[t, tx] ty #[.slice base sLen sCap, x]) (.slice s.nx 0 (sLen + n) sz 0 none) (s.new (oneRow (old ++ vs))) := by
  subst hsz
  have hnl := hs.newsLen
  have hfit : Builtin.nextslicecap (sLen + n) sCap * i.bytes ≤ 281474976710656 := by
    exact hroom.bytes hg hby
  have hrun := run_append_grow_src (P := P) w t tx ty e i z ht hi hz base sLen sCap OLD hfc x n NEW hs hg (by have := hroom.small hs0; omega) hfit
  have hcap := grownCap_ge w (sLen + n) sCap e
  have hm : ¬ Mapped ρ s.nx := fun h => Nat.lt_irrefl _ (hR.lt h)
  have hR1 : Rel B ρ (s.new (oneRow (old ++ vs))) w.drew := (hR.new _).same rfl
  have hl1 := hold.length
  have hl2 := hvs.length
  generalize hC : (OLD ++ NEW).toArray ++ Builtin.zeroCells z.cells (grownCap w (sLen + n) sCap e - (sLen + n)) = C at hrun
  have hCs : C.size = grownCap w (sLen + n) sCap e * i.size := by
    rw [← hC]
    simp [zeroCells_size, hzs, hol, hnl]
    rw [← Nat.add_mul, ← Nat.add_mul]
    congr 1; omega
  obtain ⟨ρ', h5, h6, h7, h8⟩ := hR1.alloc (g := s.nx) (cs := old ++ vs) (by rw [AS.get_new, if_pos rfl]) (Nat.lt_succ_self _) hm C e (0, 0) (fun i _ => by simp)
    (by rw [← hC]; simp; omega)
    (fun c hc => by
      rcases List.mem_append.1 hc with h | h
      · exact (ones_iff _).1 hoo c h
      · exact (ones_iff _).1 hvo c h)
    (fun j c y h1 h2 => by
      have hj : j < (old ++ vs).length := (List.getElem?_eq_some_iff.1 h1).1
      have hj' : j < (OLD ++ NEW).length := by simp at hj ⊢; omega
      refine (hold.append hvs).get h1 ?_
      rw [← hC, Array.getElem?_append_left (by simpa using hj')] at h2
      simpa using h2)
  refine ⟨_, _, ρ', hrun, h5, ⟨h6, fun k hk => (h7 k hk).elim .inl fun e => .inr (by omega), fun k hk _ => by rw [AS.get_new, if_neg (by omega)], Nat.le_succ _,
    ((Below.refl B w).drew).trans ((Below.refl B w.drew).alloc hR.base _)⟩, ?_⟩
  have := V.slice (ρ := ρ') s.nx 0 (sLen + n) i.size 0 none _ (grownCap w (sLen + n) sCap e) h8 (Nat.le_refl 0) hcap (fun k hk => by cases hk) (by rw [hCs]; simp)
  rwa [at_new] at this

theorem Addr.add_at (L : Loc) {x : Nat} (h : L.lo ≤ x) (j : Nat) : (L.at x).add j = ⟨L.b, L.o + (x - L.lo) + j, none⟩ := by
  rw [L.at_add h]; unfold Loc.at; congr 1; omega

/-- An append that may go on where it stands. -/
theorem app_on (ht : P.underlying t = some (.slice e)) (hi : P.info? e = some i) (hz : i.zero = some z) (hsz : i.size = sz) (hzs : z.cells.size = sz) (hs0 : 0 < sz) {r : Nat} (hby : (r < 1000 ∧ i.bytes ≤ 16 * sz) ∨ (1000 ≤ r ∧ i.bytes ≤ 4096)) (hR : Rel B ρ s w)
    {base : Option Addr} {len sCap n g off v ver : Nat} {x : Value} {vs : List AVal} {NEW : List Value} {s' : AS} {L : Loc} (hL : ρ.row g v = some L) (hlo : L.lo ≤ off)
    (hbase : base = some (L.at off) ∧ L.o + (off - L.lo) + sCap * sz ≤ L.bs ∨ len = 0 ∧ sCap = 0)
    (hs : Src P sz tx x n NEW w) (hvs : Vs ρ vs NEW) (hvo : ones vs = true) {old : List AVal} (hold : cellsAt s g off v (len * sz) = some old) (hn : 0 < n) (hroom : Fits r sCap sz (len + n))
    (h : growAt s g (off + len * sz) v vs = some (s', ver)) :
    AppOk P B ρ s w (Builtin.append_ #[t, tx] ty #[.slice base len sCap, x]) (.slice g off (len + n) sz ver none) s' := by
  subst hsz
  have hnl := hs.newsLen
  have hl2 := hvs.length
  obtain ⟨_, cs, cur, exts, ro, hg, hra⟩ := hR.row _ _ _ hL
  obtain ⟨rfl, hv1, rfl, ev, cs', exts', he, hxe, rfl, hgr⟩ := growAt_inv hg h hra.le
  have hvo' := (ones_iff vs).1 hvo
  by_cases hr : len + n ≤ sCap
  · rcases hbase with ⟨rfl, hbs⟩ | ⟨_, h0⟩
    · have hmul : (len + n) * i.size ≤ sCap * i.size := Nat.mul_le_mul_right _ hr
      rw [Nat.add_mul] at hmul
      obtain ⟨et, hsh⟩ := hra.shape
      have hrun := run_append_room_src (P := P) w t tx ty e i ht hi L.b (L.o + (off - L.lo)) len sCap x n NEW hs hr
        (fun j hj => cell_of_shape hsh (by omega)) (fun j hj => (hra.own rfl).2 _ (by omega))
      obtain ⟨ρ', h1, h2, h3, h4, h5⟩ := hR.growIn (x := off + len * i.size) hg hL (by omega) he hxe hvs hvo' (by omega) hgr
      have hoff : L.o + (off - L.lo) + len * i.size = L.o + (off + len * i.size - L.lo) := by omega
      rw [hoff] at hrun
      refine ⟨_, _, ρ', hrun, h1, Step.one h2 h3 (.inl ⟨v, L, hL⟩) h5, ?_⟩
      exact V.slice (ρ := ρ') g off (len + n) i.size (cur + 1) none L sCap h4 hlo hr (fun k hk => by cases hk) hbs
    · omega
  · have hfit : Builtin.nextslicecap (len + n) sCap * i.bytes ≤ 281474976710656 := by
      exact hroom.bytes (by omega) hby
    obtain ⟨OLD, ho1, ho2, ho3, _⟩ := cellsAt_ok hR hold hL hlo
    have hfc : (Builtin.firstCells i.size len (.slice base len sCap)).run P w.drew = .ok OLD.toArray w.drew := by
      rcases hbase with ⟨rfl, _⟩ | ⟨rfl, rfl⟩
      · exact run_firstCells_some w.drew i.size len _ len sCap OLD ho2 (by simpa using ho3)
      · simp at ho2
        subst ho2
        cases base with
        | none => exact run_firstCells_none w.drew i.size 0 0 0
        | some b => exact run_firstCells_some w.drew i.size 0 _ 0 0 [] (by simp) (fun j u h => by simp at h)
    have hrun := run_append_grow_src (P := P) w t tx ty e i z ht hi hz base len sCap OLD hfc x n NEW hs (by omega) (by have := hroom.small hs0; omega) hfit
    have hcap := grownCap_ge w (len + n) sCap e
    generalize hC : (OLD ++ NEW).toArray ++ Builtin.zeroCells z.cells (grownCap w (len + n) sCap e - (len + n)) = C at hrun
    have hCs : C.size = grownCap w (len + n) sCap e * i.size := by
      rw [← hC]
      simp [zeroCells_size, hzs, ho2, hnl]
      rw [← Nat.add_mul, ← Nat.add_mul]
      congr 1; omega
    have hRd : Rel B ρ s w.drew := hR.same rfl
    have hlow : ∀ j y, off ≤ j → j < off + len * i.size → w.drew.cell? (L.at j) = some y → C[j - off]? = some y := fun j y h1 h2 h3 => by
      have hj : j - off < OLD.length := by omega
      have h4 := ho3 (j - off) OLD[j - off] (by simp [hj])
      rw [L.at_add hlo, show off + (j - off) = j by omega] at h4
      have h3' : w.cell? (L.at j) = some y := h3
      rw [h3'] at h4
      rw [← hC, Array.getElem?_append_left (by simp; omega)]
      simp [List.getElem?_append_left hj, Option.some.inj h4, hj]
    obtain ⟨ρ', h1, h2, h3, h4, h5⟩ := hRd.growMove (off := off) (x := off + len * i.size) hg hL hlo (by omega) he hxe hvs hvo' hgr C e hlow
      (fun j y hj => by
        have hj' : j < NEW.length := (List.getElem?_eq_some_iff.1 hj).1
        rw [show off + len * i.size - off + j = OLD.length + j by omega, ← hC, Array.getElem?_append_left (by simp; omega)]
        simp [List.getElem?_append_right, hj])
    refine ⟨_, _, ρ', hrun, h1, Step.one h2 h3 (.inl ⟨v, L, hL⟩) (((Below.refl B w).drew).trans h5), ?_⟩
    have := V.slice (ρ := ρ') g off (len + n) i.size (cur + 1) none _ (grownCap w (len + n) sCap e) h4 (Nat.le_refl off) hcap (fun k hk => by cases hk) (by rw [hCs]; simp)
    have hat : Loc.at ⟨w.drew.heap.size, 0, off, C.size⟩ off = ⟨w.heap.size, 0, none⟩ := by unfold Loc.at; rw [Nat.sub_self]; rfl
    rwa [hat] at this
end
end
end Go.Avm
