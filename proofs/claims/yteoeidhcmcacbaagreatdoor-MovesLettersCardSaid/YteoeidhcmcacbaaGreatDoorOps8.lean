/-
  What an operation gives that makes nothing, writes nothing and calls nothing: all of them.
-/
import Derived.Test.YteoeidhcmcacbaaGreatDoorOps7
set_option linter.unusedVariables false
set_option linter.unusedSimpArgs false
namespace Go.Avm
section
variable {P : Program} {B N : Nat} {ρ : Emb} {s : AS} {w : World} {fr : Fr} {a : Act}

theorem tas_ok (hF : FrR N ρ fr a) {xt T : TypeId} {z : AVal} {d : TypeDesc} (hu : P.underlying T = some d) (hd : ∀ ms, d ≠ .interface ms) (hz : zeroT P T = some z) {x : Operand} {ok : Bool} {v : AVal}
    (h : pval fr s (.tas T z (compOpd x) ok) = some v) : ∃ v', (Instr.typeAssert (a.eval x) xt T ok).run P w = .ok v' w ∧ V ρ v v' := by
  simp only [pval] at h
  have hx := hF.ev x
  obtain ⟨_, zv, _, _, hzr, rfl, _⟩ := run_zero (w := w) hz
  cases hq : fr.ev (compOpd x) <;> rw [hq] at h hx <;> try (cases h; done)
  · rename_i t v0
    generalize a.eval x = x' at hx
    cases hx with
    | iface _ _ v0' hv0 =>
      simp only at h
      cases hb : Nat.beq t T with
      | true =>
        have := beqN_iff.1 hb
        subst this
        simp only [hb, cond_true] at h
        obtain rfl := Option.some.inj h
        refine ⟨if ok then .tuple #[v0', .bool true] else v0', ?_, ?_⟩
        · cases d <;> first | exact absurd rfl (hd _) | simp [Instr.typeAssert, run_under hu]
        · cases ok with
          | true => exact .tuple' (.cons hv0 (.cons (.bool true) .nil))
          | false => exact hv0
      | false =>
        have hne : ¬ t = T := fun e => by rw [e, Nat.beq_refl] at hb; cases hb
        simp only [hb, cond_false] at h
        cases ok with
        | false => cases h
        | true =>
          obtain rfl := Option.some.inj h
          refine ⟨.tuple #[zv, .bool false], ?_, .tuple' (.cons (compVal_ok ρ zv) (.cons (.bool false) .nil))⟩
          cases d <;> first | exact absurd rfl (hd _) | simp [Instr.typeAssert, run_under hu, hne, hzr]
  · generalize a.eval x = x' at hx
    cases hx
    cases ok with
    | false => cases h
    | true =>
      obtain rfl := Option.some.inj h
      refine ⟨.tuple #[zv, .bool false], ?_, .tuple' (.cons (compVal_ok ρ zv) (.cons (.bool false) .nil))⟩
      cases d <;> first | exact absurd rfl (hd _) | simp [Instr.typeAssert, run_under hu, hzr]

theorem bytesOf_cons (x : AVal) (l : List AVal) : bytesOf (x :: l) = match x, bytesOf l with
    | .int .u8 (.ofNat n), some t => bif Nat.blt n 256 then some (n :: t) else none
    | _, _ => none := rfl
theorem bytes_fold {l : List AVal} {L : List Value} (hv : Vs ρ l L) (f : Value → ByteArray → Sem (ForInStep ByteArray)) (hf : ∀ (n : Nat) (s : ByteArray) (w : World), (f (.int .u8 n) s).run P w = .ok (.yield (s.push (UInt8.ofNat n))) w) :
    ∀ {b : List Nat} (_ : bytesOf l = some b) (acc : ByteArray), ∃ r : ByteArray, (forIn L acc f).run P w = .ok r w ∧ r.data.toList.map (·.toNat) = acc.data.toList.map (·.toNat) ++ b := by
  induction hv with
  | nil => intro b h acc; obtain rfl := Option.some.inj h; exact ⟨acc, rfl, by simp⟩
  | @cons x y l L hx _ ih =>
    intro b h acc
    rw [bytesOf_cons] at h
    split at h
    · rename_i n t ht
      obtain ⟨h1, h2⟩ := bif_some h
      have hn := blt_iff.1 h1
      obtain rfl := Option.some.inj h2
      cases hx
      obtain ⟨r, h3, h4⟩ := ih ht (acc.push (UInt8.ofNat n))
      refine ⟨r, ?_, ?_⟩
      · have := hf n acc w
        simp only [List.forIn_cons, Sem.run_bind]
        rw [show (f (Value.int IntKind.u8 (Int.ofNat n)) acc).run P w = _ from this]
        exact h3
      · rw [h4]
        simp [ByteArray.push]
        omega
    · cases h

theorem cellsAt_zero {g x v : Nat} {cs : List AVal} (h : cellsAt s g x v 0 = some cs) : cs = [] := by
  unfold cellsAt at h
  split at h
  · replace h := (bif_some h).2
    split at h
    · replace h := (bif_some h).2
      obtain rfl := Option.some.inj h
      simp
    · cases h
  · cases h
theorem b2s_ok (hR : Rel B ρ s w) (hF : FrR N ρ fr a) {src dst e : TypeId} (h1 : P.underlying src = some (.slice e)) (h2 : P.underlying dst = some .string) (h3 : P.underlying e = some (.int .u8)) {x : Operand} {v : AVal}
    (h : pval fr s (.b2s (compOpd x)) = some v) : ∃ v', (convert src dst (a.eval x)).run P w = .ok v' w ∧ V ρ v v' := by
  simp only [pval] at h
  have hx := hF.ev x
  cases hq : fr.ev (compOpd x) <;> rw [hq] at h hx <;> try (cases h; done)
  · rename_i g off len sz ver cap
    simp only at h
    replace h := bif_some h
    obtain ⟨_, h⟩ := h
    cases hc : cellsAt s g off ver len with
    | none => simp only [hc] at h; cases h
    | some cs =>
      simp only [hc] at h
      cases hb : bytesOf cs with
      | none => simp only [hb] at h; cases h
      | some b =>
        simp only [hb] at h
        obtain rfl := Option.some.inj h
        generalize a.eval x = x' at hx
        cases hx with
        | slice _ _ _ _ _ _ L c hL hlo hl hcc hr =>
          obtain ⟨CS, hv, hlen, hcell, _⟩ := cellsAt_ok hR hc hL hlo
          have hload := run_loadCells_list (P := P) w (L.at off) CS hcell
          rw [hlen] at hload
          have hfold := fun f hf => bytes_fold (P := P) (w := w) hv f hf hb .empty
          simp only [convert, Sem.run_bind, run_under h1, run_under h2, Result.andThen_ok, run_under h3, Conv.bytesToString, hload]
          rw [← Array.forIn_toList]
          obtain ⟨r, h4, h5⟩ := hfold (fun c __s =>
                match c with
                | Value.int IntKind.u8 n => Pure.pure (ForInStep.yield (__s.push (UInt8.ofNat n.toNat)))
                | _ => do
                  stuck "bytesToString: byte expected"
                  Pure.pure (ForInStep.yield __s)) (fun n s w => rfl)
          refine ⟨.string r, ?_, .str _ _ (by simpa using h5)⟩
          exact (congrArg (fun (r : Result ByteArray) => r.andThen (fun a w' => Sem.run P (Pure.pure (Value.string a)) w')) h4).trans rfl
        | slice0 _ _ _ _ _ L a0 _ _ _ =>
          have hcs : cs = [] := cellsAt_zero hc
          subst hcs
          obtain rfl := Option.some.inj hb
          exact ⟨.string .empty, by simp [convert, run_under h1, run_under h2, run_under h3, Conv.bytesToString, loadCells, loadCellsFrom], .str _ _ rfl⟩
  · obtain rfl := Option.some.inj h
    generalize a.eval x = x' at hx
    cases hx
    exact ⟨.string .empty, by simp [convert, run_under h1, run_under h2, run_under h3, Conv.bytesToString], .str _ _ rfl⟩

set_option maxHeartbeats 4000000 in
/-- ALL OF THEM. -/
theorem pval_ok (hR : Rel B ρ s w) (hF : FrR N ρ fr a) (o : Oper) {op : AOp} (hc : compOp P o = some op) {v : AVal} (h : pval fr s op = some v) :
    ∃ v', (execOp a.eval o).run P w = .ok (.value v') w ∧ V ρ v v' := by
  have fin : ∀ {x : Sem Value} {n : Sem Next}, execOp a.eval o = (do Pure.pure (.value (← x))) → (∃ v', x.run P w = .ok v' w ∧ V ρ v v') → ∃ v', (execOp a.eval o).run P w = .ok (.value v') w ∧ V ρ v v' :=
    fun {x n} he ⟨v', h1, h2⟩ => ⟨v', by rw [he, Sem.run_bind, h1]; rfl, h2⟩
  obtain ⟨dst, oo, ty, pos, after, guard⟩ := o
  cases oo <;> simp only [compOp] at hc
  case move x => obtain rfl := Option.some.inj hc; obtain rfl := Option.some.inj h; exact ⟨_, rfl, hF.ev x⟩
  case assign x => obtain rfl := Option.some.inj hc; obtain rfl := Option.some.inj h; exact ⟨_, rfl, hF.ev x⟩
  case pick c x y =>
    obtain rfl := Option.some.inj hc
    simp only [pval] at h
    have hx := hF.ev c
    cases hq : fr.ev (compOpd c) <;> rw [hq] at h hx <;> try (cases h; done)
    rename_i t
    generalize he : a.eval c = c' at hx
    cases hx
    obtain rfl := Option.some.inj h
    cases t with
    | true => exact ⟨_, by simp [execOp, he, asBool], hF.ev x⟩
    | false => exact ⟨_, by simp [execOp, he, asBool], hF.ev y⟩
  case alloc e => cases hz : zeroT P e <;> simp [hz] at hc; subst hc; cases h
  case box e x => obtain rfl := Option.some.inj hc; cases h
  case build t ps =>
    split at hc
    · rename_i fs z hu hz
      split at hc
      · rename_i pl hpl
        cases hp : placesOf (fun x => pl[x]?) ps.toList with
        | none => rw [hp] at hc; cases hc
        | some r =>
          rw [hp] at hc
          obtain rfl := Option.some.inj hc
          exact fin (n := Pure.pure .skip) rfl (build_ok (s := s) hF hz (.inl ⟨fs, pl, hu, hpl, hp⟩) h)
      · cases hc
    · rename_i len e z hu hz
      split at hc
      · rename_i n hn
        cases hp : placesOf (fun i => some (i * n, n)) ps.toList with
        | none => rw [hp] at hc; cases hc
        | some r =>
          rw [hp] at hc
          obtain rfl := Option.some.inj hc
          exact fin (n := Pure.pure .skip) rfl (build_ok (s := s) hF hz (.inr ⟨len, e, n, hu, hn, hp⟩) h)
      · cases hc
    · cases hc
  case buildSlice t len ps =>
    split at hc
    · split at hc
      · split at hc
        · cases hp : placesOf (fun i => some (i * (_ + 1), _ + 1)) ps.toList <;> rw [hp] at hc
          · cases hc
          · obtain rfl := Option.some.inj hc; cases h
        · cases hc
      · cases hc
    · cases hc
  case insert t m k x =>
    split at hc
    · split at hc
      · obtain rfl := Option.some.inj hc; cases h
      · cases hc
    · cases hc
  case load t x =>
    split at hc
    · rename_i g n hg hn
      obtain rfl := Option.some.inj hc
      exact fin (n := Pure.pure .skip) rfl (load_ok hR hF hg hn h)
    · cases hc
  case store t x y => cases hn : sizeT P t <;> rw [hn] at hc; cases hc; obtain rfl := Option.some.inj hc; cases h
  case ready => cases hc
  case waits => cases hc
  case nilCheck x =>
    obtain rfl := Option.some.inj hc
    simp only [pval] at h
    have hx := hF.ev x
    cases hq : fr.ev (compOpd x) <;> rw [hq] at h hx <;> try (cases h; done)
    · obtain rfl := Option.some.inj h
      generalize he : a.eval x = x' at hx
      refine ⟨x', ?_, hx⟩
      cases hx
      simp [execOp, he]
    · obtain rfl := Option.some.inj h
      generalize he : a.eval x = x' at hx
      refine ⟨x', ?_, hx⟩
      cases hx
      simp [execOp, he]
  case binOp op t x y yt =>
    split at hc
    · rename_i hek
      split at hc
      · rename_i hcond
        obtain rfl := Option.some.inj hc
        refine fin (n := Pure.pure .skip) rfl (binop_ok hek h (hF.ev x) (hF.ev y) x y fun _ => ?_)
        cases x <;> cases y <;> simp [Region.isConst] at hcond ⊢
      · cases hc
    · rename_i ek hni hek
      obtain rfl := Option.some.inj hc
      exact fin (n := Pure.pure .skip) rfl (binop_ok hek h (hF.ev x) (hF.ev y) x y fun e => (hni e).elim)
    · cases hc
  case unOp op t x => obtain rfl := Option.some.inj hc; exact fin (n := Pure.pure .skip) rfl (unop_ok h (hF.ev x))
  case convert src dst x =>
    split at hc
    · rename_i h1 h2; obtain rfl := Option.some.inj hc; exact fin (n := Pure.pure .skip) rfl (conv_ok (s := s) hF h1 h2 h)
    · rename_i h1 h2; obtain rfl := Option.some.inj hc; exact fin (n := Pure.pure .skip) rfl (same_ok (s := s) hF h1 h2 h)
    · split at hc
      · obtain rfl := Option.some.inj hc; cases h
      · cases hc
    · rename_i h1 h2
      split at hc
      · rename_i h3; obtain rfl := Option.some.inj hc; exact fin (n := Pure.pure .skip) rfl (b2s_ok hR hF h1 h2 h3 h)
      · cases hc
    · cases hc
  case sliceToArrayPointer => cases hc
  case makeInterface t x =>
    split at hc
    · cases hc
    · rename_i d hni hu
      obtain rfl := Option.some.inj hc
      obtain rfl := Option.some.inj h
      refine fin (n := Pure.pure .skip) rfl ⟨.iface t (a.eval x), ?_, .iface _ _ _ (hF.ev x)⟩
      cases d <;> first | exact absurd rfl (hni _) | simp [Instr.makeInterface, run_under hu]
    · cases hc
  case makeFunc fn first cap =>
    cases fn <;> simp only at hc <;> try (cases hc; done)
    obtain rfl := Option.some.inj hc
    obtain rfl := Option.some.inj h
    refine fin (n := Pure.pure .skip) rfl ⟨_, rfl, ?_⟩
    rw [lmap_eq, lmap_eq]
    refine .func' ?_ ?_
    · rw [Array.toList_map]; exact hF.evs _
    · rw [Array.toList_map]; exact hF.evs _
  case makeMap t r => cases r <;> simp only at hc <;> try (cases hc; done)
                      obtain rfl := Option.some.inj hc; cases h
  case makeChan => cases hc
  case makeSlice t l c =>
    repeat' (split at hc <;> try (cases hc; done))
    all_goals (obtain rfl := Option.some.inj hc; cases h)
  case slice t x lo hi mx =>
    split at hc
    · rename_i e hu
      split at hc
      · rename_i n hn
        obtain rfl := Option.some.inj hc
        exact fin (n := Pure.pure .skip) rfl (slice_ok (s := s) hF hu hn h)
      · cases hc
    · rename_i hu
      split at hc
      · rename_i hmx
        obtain rfl := Option.some.inj hc
        cases mx with
        | some _ => simp at hmx
        | none => exact fin (n := Pure.pure .skip) rfl (sub_ok (s := s) hF hu h)
      · cases hc
    · cases hc
  case fieldAddr t x f =>
    split at hc
    · rename_i fs hu
      cases hf : fs[f]? with
      | none => rw [hf] at hc; cases hc
      | some fd =>
        rw [hf] at hc
        simp only [Option.bind_some] at hc
        split at hc
        · rename_i n hn
          obtain rfl := Option.some.inj hc
          exact fin (n := Pure.pure .skip) rfl (fla_ok (s := s) hF hu hf hn h)
        · cases hc
    · cases hc
  case field t x f =>
    split at hc
    · rename_i fs hu
      cases hf : fs[f]? with
      | none => rw [hf] at hc; cases hc
      | some fd =>
        rw [hf] at hc
        simp only [Option.bind_some] at hc
        split at hc
        · rename_i g n hg hn
          obtain rfl := Option.some.inj hc
          exact fin (n := Pure.pure .skip) rfl (fld_ok (s := s) hF hu hf hg hn h)
        · cases hc
    · cases hc
  case indexAddr t x i =>
    split at hc
    · rename_i e hu
      cases hn : sizeT P e <;> rw [hn] at hc
      · cases hc
      · obtain rfl := Option.some.inj hc
        exact fin (n := Pure.pure .skip) rfl (ixa_ok (s := s) hF hu hn h)
    · rename_i len e hu
      cases hn : sizeT P e <;> rw [hn] at hc
      · cases hc
      · obtain rfl := Option.some.inj hc
        exact fin (n := Pure.pure .skip) rfl (ixp_ok (s := s) hF hu hn h)
    · cases hc
  case index t x i =>
    split at hc
    · rename_i hu
      obtain rfl := Option.some.inj hc
      exact fin (n := Pure.pure .skip) rfl (ixs_ok (s := s) hF hu h)
    · rename_i len e hu
      split at hc
      · rename_i g n hg hn
        split at hc
        · rename_i hgn
          obtain rfl := Option.some.inj hc
          exact fin (n := Pure.pure .skip) rfl (ixg_ok (s := s) hF hu hg hn hgn h)
        · cases hc
      · cases hc
    · cases hc
  case lookup t x i ok =>
    split at hc
    · rename_i k e hu
      split at hc
      · rename_i ek z hk hz
        obtain rfl := Option.some.inj hc
        exact fin (n := Pure.pure .skip) rfl (look_ok hR hF hu hk hz h)
      · cases hc
    · cases hc
  case mapUpdate t m k x =>
    split at hc
    · split at hc
      · obtain rfl := Option.some.inj hc; cases h
      · cases hc
    · cases hc
  case mapEntry => cases hc
  case entryStore => cases hc
  case range => cases hc
  case next => cases hc
  case entry => cases hc
  case typeAssert x xt T ok =>
    split at hc
    · cases hc
    · rename_i d z hni hu hz
      obtain rfl := Option.some.inj hc
      exact fin (n := Pure.pure .skip) rfl (tas_ok (s := s) hF hu (fun ms e => hni ms e) hz h)
    · cases hc
  case extract x i => obtain rfl := Option.some.inj hc; exact fin (n := Pure.pure .skip) rfl (ext_ok (s := s) hF h)
  case call c =>
    obtain ⟨callee, args, ats⟩ := c
    cases callee with
    | value f => simp only [compCall] at hc; obtain rfl := Option.some.inj hc; cases h
    | invoke r m => simp only [compCall] at hc; cases hc
    | builtin b =>
      have hex : execOp a.eval { dst := dst, op := .call { callee := .builtin b, args := args, argTypes := ats }, type := ty, pos := pos, after := after, guard := guard } = builtin b ats ty (args.map fun | .const _ => true | _ => false) (args.map a.eval) := rfl
      cases b <;> simp only [compCall] at hc <;> try (cases hc; done)
      case append =>
        repeat' (split at hc <;> try (cases hc; done))
        all_goals (obtain rfl := Option.some.inj hc; cases h)
      case copy =>
        repeat' (split at hc <;> try (cases hc; done))
        all_goals (obtain rfl := Option.some.inj hc; cases h)
      case clear =>
        repeat' (split at hc <;> try (cases hc; done))
        all_goals (obtain rfl := Option.some.inj hc; cases h)
      case recover => obtain rfl := Option.some.inj hc; cases h
      case len =>
        have key : ∀ (t : TypeId) (x : Operand) (ek : EK), ats[0]? = some t → args.toList = [x] → ((ek = .kstr ∧ P.underlying t = some .string) ∨ (ek = .slice ∧ ∃ e, P.underlying t = some (.slice e)) ∨ (ek = .map ∧ ∃ k e, P.underlying t = some (.map k e))) →
            pval fr s (.len ek (compOpd x)) = some v → ∃ v', (builtin .len ats ty (args.map fun | .const _ => true | _ => false) (args.map a.eval)).run P w = .ok (.value v') w ∧ V ρ v v' := by
          intro t x ek h1 h2 h3 h4
          obtain ⟨v', h5, h6⟩ := len_ok (T := ty) hR hF h3 h4
          have ha : args = #[x] := by
            obtain ⟨l⟩ := args
            simp only at h2
            rw [h2]
          subst ha
          refine ⟨v', ?_, h6⟩
          have h7 : (Builtin.len_ ats ty #[a.eval x]).run P w = .ok v' w := by
            simp only [Builtin.len_, h1] at h5 ⊢
            exact h5
          simp only [builtin, Sem.run_bind]
          rw [show Array.map a.eval #[x] = #[a.eval x] by simp, h7]; rfl
        cases h0 : ats[0]? with
        | none => rw [h0] at hc; simp at hc
        | some t =>
          rw [h0] at hc
          simp only [Option.bind_some] at hc
          split at hc
          · rename_i x hu hx
            obtain rfl := Option.some.inj hc
            obtain ⟨y, hy1, hy2⟩ : ∃ y, args.toList = [y] ∧ compOpd y = x := by
              cases hl : args.toList with
              | nil => rw [hl] at hx; simp at hx
              | cons y l => rw [hl] at hx; cases l with
                | nil => exact ⟨y, rfl, by simpa using hx⟩
                | cons => simp at hx
            subst hy2
            rw [hex]; exact key t y _ h0 hy1 (.inl ⟨rfl, hu⟩) h
          · rename_i e x hu hx
            obtain rfl := Option.some.inj hc
            obtain ⟨y, hy1, hy2⟩ : ∃ y, args.toList = [y] ∧ compOpd y = x := by
              cases hl : args.toList with
              | nil => rw [hl] at hx; simp at hx
              | cons y l => rw [hl] at hx; cases l with
                | nil => exact ⟨y, rfl, by simpa using hx⟩
                | cons => simp at hx
            subst hy2
            rw [hex]; exact key t y _ h0 hy1 (.inr (.inl ⟨rfl, e, hu⟩)) h
          · rename_i k e x hu hx
            obtain rfl := Option.some.inj hc
            obtain ⟨y, hy1, hy2⟩ : ∃ y, args.toList = [y] ∧ compOpd y = x := by
              cases hl : args.toList with
              | nil => rw [hl] at hx; simp at hx
              | cons y l => rw [hl] at hx; cases l with
                | nil => exact ⟨y, rfl, by simpa using hx⟩
                | cons => simp at hx
            subst hy2
            rw [hex]; exact key t y _ h0 hy1 (.inr (.inr ⟨rfl, k, e, hu⟩)) h
          · cases hc
      case max =>
        split at hc
        · rename_i x y hx
          obtain rfl := Option.some.inj hc
          obtain ⟨x1, y1, h1, rfl, rfl⟩ : ∃ x1 y1, args = #[x1, y1] ∧ compOpd x1 = x ∧ compOpd y1 = y := by
            obtain ⟨l⟩ := args
            simp only at hx
            cases l with
            | nil => simp at hx
            | cons p l => cases l with
              | nil => simp at hx
              | cons q l => cases l with
                | nil => simp at hx; exact ⟨p, q, rfl, hx.1, hx.2⟩
                | cons => simp at hx
          subst h1
          obtain ⟨v', h5, h6⟩ := max_ok (P := P) (w := w) (s := s) hF h ats ty
          refine ⟨v', ?_, h6⟩
          rw [hex]
          simp only [builtin, Sem.run_bind]
          rw [show Array.map a.eval #[x1, y1] = #[a.eval x1, a.eval y1] by simp, h5]; rfl
        · cases hc
  case go => cases hc
  case defer c => split at hc <;> first | (cases hc; done) | (obtain rfl := Option.some.inj hc; cases h)
  case panic x => obtain rfl := Option.some.inj hc; cases h
  case send => cases hc
  case recv => cases hc
  case select => cases hc
end
end Go.Avm
