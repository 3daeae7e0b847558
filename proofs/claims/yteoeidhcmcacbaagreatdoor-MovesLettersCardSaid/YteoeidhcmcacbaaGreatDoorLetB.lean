/-
  MovesLetters in the abstract machine: both sides list the same moves; declarations that are handed over.
-/
import Derived.Test.YteoeidhcmcacbaaGreatDoorLetA
import GoSem.ClaimJoined
import Derived.Deep.Slices
import Derived.ChangeSlices
import Derived.ChangeArms
set_option maxRecDepth 100000
set_option maxHeartbeats 2000000
set_option linter.unusedVariables false
set_option linter.unusedSimpArgs false
/-
  Declarations in the order of their names.
-/
namespace Go.Proofs.YteoeidhcmcacbaaGreatDoor.movesLetters
open Go Go.Avm

/-! ### ref04.sorted -/
def b21 : AC := bodyOf T.a21
def l21 : AC := inn (inn (tl (hd (aft 2 b21))))
def m21 : AC := inn (hd (tl l21))
def k21 : AC := inn (inn (tl (tl m21)))
theorem ok21 : (AC.loop l21).ok = true := by decide +kernel
theorem ok21k : (AC.loop k21).ok = true := by decide +kernel
theorem ok21i : (tl (tl l21)).ok = true := by decide +kernel
theorem ok21_3 : (aft 3 b21).ok = true := by decide +kernel
section
variable {D : DS} {x : AVal} {a : Nat → AVal} {s0 : AS}
theorem inner21 {Q : Ex → Fr → AS → Prop} (hQ : Lift1 Q) {y : AVal} {g n : Nat} (hn : n ≤ 4) (hg : Go.Proofs.YteoeidhcmcacbaaGreatDoor.movesLetters.rowOf y = some g) {i : Nat} : ∀ (k : Nat) (π : Nat → Nat) (s : AS), k < n → Mine s0 s 3 y n (fun j => D.cell a (π j)) →
    (∀ s, Mine s0 s 3 y n (fun j => D.cell a (bub D.lt π k j)) → ∀ fr : Fr, fr.df = [] → fr.get 0 = x → fr.get 3 = y → fr.get 4 = .int .i64 (.ofNat i) → Q .nrm fr s) →
    Wp T.tab (.loop k21) (mkF [(0, x), (3, y), (4, .int .i64 (.ofNat i)), (5, .int .i64 (.ofNat k))]) s (Out.of 2 Q) := by
  have hQ2 : Lift1 (Out.of 2 Q) := Lift1.out hQ 2
  intro k
  induction k with
  | zero =>
    intro π s hk H hend
    refine aw_loop_step ?_
    show Wp T.tab (.seq (.seq (.reg (ops (hd (hd k21)))) (tl (hd k21))) (tl k21)) _ _ _
    refine aw_seq (aw_seq (aw_reg (ow_loud rfl rfl rfl (ow_loud (gtr_nat (n := 0) (m := 0) rfl rfl rfl) rfl rfl (ow_loud rfl rfl rfl ?_)))))
    refine ow_skip rfl (ow_skip rfl (ow_skip rfl (ow_skip rfl (ow_skip rfl (ow_skip rfl (ow_skip rfl (ow_skip rfl (ow_skip rfl (ow_skip rfl (ow_skip rfl (ow_skip rfl (ow_loud (v := .bool false) rfl rfl rfl (ow_nil ?_)))))))))))))
    refine aw_false rfl (aw_exit ?_)
    exact hend s H _ rfl rfl rfl rfl
  | succ k ih =>
    intro π s hk H hend
    have hS := H.own.sl
    refine aw_loop_step ?_
    show Wp T.tab (.seq (.seq (.reg (ops (hd (hd k21)))) (tl (hd k21))) (.seq (.block 3 (.reg (ops (inn (hd (tl k21)))))) (.reg (ops (tl (tl k21)))))) _ _ _
    refine aw_seq (aw_seq (aw_reg (ow_loud rfl rfl rfl (ow_loud (gtr_nat (n := k + 1) (m := 0) rfl rfl (decide_eq_true (by omega))) rfl rfl (ow_loud rfl rfl rfl (ow_loud rfl rfl rfl (ow_loud rfl rfl rfl (ow_loud (sub_nat (n := k) rfl (by omega)) rfl rfl ?_))))))))
    refine ow_ex (hS.at (i := k) (fun _ => rfl) (by omega) rfl rfl) rfl (fun _ => rfl) fun p1 hp1 => ?_
    refine ow_ex (hp1.field (j := 0) (y := .str (D.nm (π k))) rfl rfl rfl) rfl (fun _ => rfl) fun p2 hp2 => ?_
    refine ow_loud (hp2.one rfl) rfl rfl (ow_loud rfl rfl rfl (ow_loud rfl rfl rfl ?_))
    refine ow_ex (hS.at (i := k + 1) (fun _ => rfl) (by omega) rfl rfl) rfl (fun _ => rfl) fun p3 hp3 => ?_
    refine ow_ex (hp3.field (j := 0) (y := .str (D.nm (π (k + 1)))) rfl rfl rfl) rfl (fun _ => rfl) fun p4 hp4 => ?_
    refine ow_loud (hp4.one rfl) rfl rfl ?_
    cases hlt : D.lt (π (k + 1)) (π k) with
    | false =>
      refine ow_loud (gtr_str (a := D.nm (π k)) (b := D.nm (π (k + 1))) rfl rfl hlt) rfl rfl (ow_loud (v := .bool false) rfl rfl rfl (ow_nil ?_))
      refine aw_false rfl (aw_exit ?_)
      refine hend s ?_ _ rfl rfl rfl rfl
      rw [show bub D.lt π (k + 1) = π by show (if D.lt (π (k + 1)) (π k) then bub D.lt (sw π k) k else π) = π; rw [hlt]; rfl]
      exact H
    | true =>
      refine ow_loud (gtr_str (a := D.nm (π k)) (b := D.nm (π (k + 1))) rfl rfl hlt) rfl rfl (ow_loud (v := .bool true) rfl rfl rfl (ow_nil ?_))
      refine aw_true rfl (aw_skip (aw_seq (aw_block (aw_reg (ow_loud rfl rfl rfl (ow_loud rfl rfl rfl (ow_loud (sub_nat (n := k) rfl (by omega)) rfl rfl (ow_loud rfl rfl rfl (ow_loud rfl rfl rfl (ow_loud rfl rfl rfl (ow_loud rfl rfl rfl ?_)))))))))))
      refine ow_ex (hS.at (i := k + 1) (fun _ => rfl) (by omega) rfl rfl) rfl (fun _ => rfl) fun p5 hp5 => ?_
      refine ow_loud (hp5.load rfl) rfl rfl (ow_loud rfl rfl rfl (ow_loud rfl rfl rfl (ow_loud (sub_nat (n := k) rfl (by omega)) rfl rfl ?_)))
      refine ow_ex (hS.at (i := k) (fun _ => rfl) (by omega) rfl rfl) rfl (fun _ => rfl) fun p6 hp6 => ?_
      refine ow_loud (hp6.load rfl) rfl rfl ?_
      refine ow_addr rfl rfl rfl H.own hg (i := k) (by omega) rfl rfl fun v1 hb1 => ?_
      refine ow_puts rfl rfl rfl hb1 H.own (cs := D.cell a (π (k + 1))) rfl rfl rfl (H.own.one (k + 1) (by omega)) (H.own.sol (k + 1) (by omega)) fun s2 H2 hget2 => ?_
      refine ow_addr rfl rfl rfl H2 hg (i := k + 1) (by omega) rfl rfl fun v2 hb2 => ?_
      refine ow_puts rfl rfl rfl hb2 H2 (cs := D.cell a (π k)) rfl rfl rfl (H.own.one k (by omega)) (H.own.sol k (by omega)) fun s3 H3 hget3 => ow_nil ?_
      refine aw_reg (ow_loud rfl rfl rfl (ow_loud (sub_nat (n := k) rfl (by omega)) rfl rfl (ow_loud rfl rfl rfl (ow_nil ?_))))
      rw [swap_eq'] at H3
      have M3 : Mine s0 s3 3 y n (fun j => D.cell a (sw π k j)) := (H.puts hg H2 hget2).puts hg H3 hget3
      refine aw_lose T.tabR ok21k hQ2 (l := [(0, x), (3, y), (4, .int .i64 (.ofNat i)), (5, .int .i64 (.ofNat k))]) ⟨Vr.refl _, Vr.refl _, Vr.refl _, Vr.refl _, trivial⟩ rfl (ih (sw π k) s3 (by omega) M3 fun s4 H4 => hend s4 ?_)
      rw [show bub D.lt π (k + 1) = bub D.lt (sw π k) k by show (if D.lt (π (k + 1)) (π k) then bub D.lt (sw π k) k else π) = _; rw [hlt]; rfl]
      exact H4
theorem loop21 (hD : Decls s0 x D a) (hn : D.n ≤ 4) : ∀ (k i : Nat) (s : AS) (y : AVal), i + k = D.n → Mine s0 s 3 y i (fun j => D.cell a (srt D.lt i j)) →
    Wp T.tab (.loop l21) (mkF [(0, x), (3, y), (4, .int .i64 (.ofNat i))]) s (Out.of 0 (Then T.tab (aft 3 b21) (Res.of [.tmp 2] (fun r s => Mine s0 s 3 r D.n (fun j => D.cell a (srt D.lt D.n j)))))) := by
  have hQ : Lift1 (Out.of 0 (Then T.tab (aft 3 b21) (Res.of [.tmp 2] (fun r s => Mine s0 s 3 r D.n (fun j => D.cell a (srt D.lt D.n j)))))) := Lift1.out (Lift1.andThen T.tabR ok21_3 (Lift1.res Mine.lift _)) 0
  intro k
  induction k with
  | zero =>
    intro i s y hi H
    obtain rfl : i = D.n := by omega
    have hD' := hD.keeps H.keep
    refine aw_loop_step ?_
    show Wp T.tab (.seq (.seq (.reg (ops (hd (hd l21)))) (tl (hd l21))) (tl l21)) _ _ _
    refine aw_seq (aw_seq (aw_reg (ow_loud rfl rfl rfl (ow_loud rfl rfl rfl (ow_loud (hD'.row.len rfl) rfl rfl (ow_loud (lss_nat (n := D.n) (m := D.n) rfl rfl (decide_eq_false (by omega))) rfl rfl (ow_nil ?_)))))))
    refine aw_false rfl (aw_exit ?_)
    show Wp T.tab (.seq (.reg (ops (hd (aft 3 b21)))) .ret) _ _ _
    refine aw_seq (aw_reg (ow_loud rfl rfl rfl (ow_loud rfl rfl rfl (ow_nil (aw_ret ?_)))))
    exact ⟨rfl, y, rfl, H⟩
  | succ k ih =>
    intro i s y hi H
    have hD' := hD.keeps H.keep
    have hin : i < D.n := by omega
    refine aw_loop_step ?_
    show Wp T.tab (.seq (.seq (.reg (ops (hd (hd l21)))) (tl (hd l21))) (.seq (.block 1 (.seq (.reg (ops (hd m21))) (.seq (.reg (ops (hd (tl m21)))) (.block 2 (.loop k21))))) (.reg (ops (tl (tl l21)))))) _ _ _
    refine aw_seq (aw_seq (aw_reg (ow_loud rfl rfl rfl (ow_loud rfl rfl rfl (ow_loud (hD'.row.len rfl) rfl rfl (ow_loud (lss_nat (n := i) (m := D.n) rfl rfl (decide_eq_true hin)) rfl rfl (ow_nil ?_)))))))
    refine aw_true rfl (aw_skip (aw_seq (aw_block (aw_seq (aw_reg (ow_loud rfl rfl rfl (ow_loud rfl rfl rfl (ow_loud rfl rfl rfl ?_))))))))
    refine ow_ex (hD'.row.at (i := i) (fun _ => rfl) hin rfl rfl) rfl (fun _ => rfl) fun p1 hp1 => ?_
    refine ow_loud (hp1.load rfl) rfl rfl ?_
    refine ow_more (n := i) (x := y) (f := fun j => D.cell a (srt D.lt i j)) (m := D.cell a i) rfl rfl rfl rfl rfl rfl rfl rfl rfl (hD.ones hin) (hD.solidCell hin) rfl (fun _ => rfl) H (by omega) (by omega) (by omega) fun v2 y' s2 H2 _ => ?_
    have H2 := H2.congr (h := fun j => D.cell a (srt D.lt i j)) (fun _ => rfl) fun j hj => by
      unfold appF
      split
      · rfl
      · obtain rfl : j = i := by omega
        show D.cell a j = D.cell a (srt D.lt j j)
        rw [srt_above D.lt j j (Nat.le_refl _)]
    obtain ⟨g, hg, _⟩ := H2.place
    refine ow_loud rfl rfl rfl (ow_nil (aw_seq (aw_reg (ow_loud rfl rfl rfl (ow_loud (H2.own.sl.len rfl) rfl rfl (ow_loud (sub_nat (n := i) rfl (by omega)) rfl rfl (ow_loud rfl rfl rfl (ow_nil (aw_block ?_)))))))))
    have hQ1 : Lift1 (Out.of 1 (Then T.tab (.reg (ops (tl (tl l21)))) (Then T.tab (.loop l21) (Out.of 0 (Then T.tab (aft 3 b21) (Res.of [.tmp 2] (fun r s => Mine s0 s 3 r D.n (fun j => D.cell a (srt D.lt D.n j))))))))) := Lift1.out (Lift1.andThen T.tabR ok21i (Lift1.andThen T.tabR ok21 hQ)) 1
    refine aw_lose T.tabR ok21k (Lift1.out hQ1 2) (l := [(0, x), (3, y'), (4, .int .i64 (.ofNat i)), (5, .int .i64 (.ofNat i))]) ⟨Vr.refl _, Vr.refl _, Vr.refl _, Vr.refl _, trivial⟩ rfl (inner21 hQ1 (n := i + 1) (by omega) hg i (srt D.lt i) s2 (by omega) H2 fun s3 H3 fr hd h0 h3 h4 => ?_)
    show Wp T.tab (.reg (ops (tl (tl l21)))) fr s3 _
    refine aw_lose T.tabR ok21i (Lift1.andThen T.tabR ok21 hQ) (l := [(0, x), (3, y'), (4, .int .i64 (.ofNat i))]) ⟨by rw [h0]; exact Vr.refl _, by rw [h3]; exact Vr.refl _, by rw [h4]; exact Vr.refl _, trivial⟩ hd ?_
    show Wp T.tab (.reg (ops (tl (tl l21)))) _ _ _
    refine aw_reg (ow_loud rfl rfl rfl (ow_loud (add_nat (n := i) (k := 1) rfl rfl (by omega)) rfl rfl (ow_loud rfl rfl rfl (ow_nil ?_))))
    exact aw_lose T.tabR ok21 hQ (l := [(0, x), (3, y'), (4, .int .i64 (.ofNat (i + 1)))]) ⟨Vr.refl _, Vr.refl _, Vr.refl _, trivial⟩ rfl (ih (i + 1) s3 y' (by omega) H3)
theorem sorted21 (hD : Decls s0 x D a) (hn : D.n ≤ 4) : Cw T.tab 21 [x] s0 (fun r s => Mine s0 s 3 r D.n (fun j => D.cell a (srt D.lt D.n j))) := by
  have hQ : Lift1 (Out.of 0 (Then T.tab (aft 3 b21) (Res.of [.tmp 2] (fun r s => Mine s0 s 3 r D.n (fun j => D.cell a (srt D.lt D.n j)))))) := Lift1.out (Lift1.andThen T.tabR ok21_3 (Lift1.res Mine.lift _)) 0
  refine cw_of (body := b21) (rs := [.tmp 2]) rfl ?_
  show Wp T.tab (.seq (.reg (ops (hd b21))) (.seq (.reg (ops (hd (aft 1 b21)))) (.seq (.seq (.reg (ops (hd (hd (aft 2 b21))))) (.block 0 (.loop l21))) (aft 3 b21)))) _ _ _
  refine aw_seq (aw_reg (ow_loud rfl rfl rfl (ow_nil (aw_seq (aw_reg ?_)))))
  refine ow_lit0 (f := D.cell a) rfl rfl rfl (fun _ => rfl) fun s1 _ H1 => ow_loud rfl rfl rfl (ow_nil (aw_seq (aw_seq (aw_reg (ow_loud rfl rfl rfl (ow_nil (aw_block ?_)))))))
  exact aw_lose T.tabR ok21 hQ (l := [(0, x), (3, .slice s0.nx 0 0 3 0 (some 0)), (4, .int .i64 (.ofNat 0))]) ⟨Vr.refl _, Vr.refl _, Vr.refl _, trivial⟩ rfl (loop21 hD hn D.n 0 s1 _ (by omega) H1)
end

/-! ### lang.ordered -/
theorem cmp116 {D : DS} {a : Nat → AVal} (ha : ∀ j, j < D.n → (a j).one = true ∧ (a j).solid 5 = true) : Cmps (.func 116 [] []) D.n (D.cell a) D.lt := by
  refine ⟨116, [], [], rfl, fun i j hi hj s => ?_⟩
  refine cw_of (body := bodyOf T.a116) (rs := [.tmp 4]) rfl ?_
  show Wp T.tab (.seq (.reg (ops (hd (bodyOf T.a116)))) (.seq (.block 0 (.seq (.reg (ops (hd (inn (hd (tl (bodyOf T.a116))))))) (.cond (.t 5) (.seq (.reg [⟨some 4,(.mov (.c (.int .i64 (-1)))),none,[],[]⟩]) .ret) (.seq (.reg [⟨some 12,(.fla 0 (.t 2)),none,[],[]⟩,⟨some 13,(.load false 1 (.t 12)),none,[],[]⟩,⟨some 14,(.fla 0 (.t 3)),none,[],[]⟩,⟨some 15,(.load false 1 (.t 14)),none,[],[]⟩,⟨some 16,(.bin .gtr (.prim) (.t 13) (.t 15)),none,[],[]⟩,⟨some 11,(.mov (.t 16)),none,[],[]⟩]) (.cond (.t 11) (.seq (.reg [⟨some 4,(.mov (.c (.int .i64 (1)))),none,[],[]⟩]) .ret) .skip))))) (.seq (.reg [⟨some 4,(.mov (.c (.int .i64 (0)))),none,[],[]⟩]) .ret))) _ _ _
  refine aw_seq (aw_reg (ow_box (cs := D.cell a i) rfl rfl rfl rfl (DS.cell_ones (ha i hi).1) fun s1 hk1 _ _ hp1 => ow_box (cs := D.cell a j) rfl rfl rfl rfl (DS.cell_ones (ha j hj).1) fun s2 hk2 _ _ hp2 => ow_loud rfl rfl rfl (ow_nil (aw_seq (aw_block (aw_seq (aw_reg ?_)))))))
  have hp1' := hp1.keeps (DS.cell_solid (ha i hi).2) hk2
  have hk := hk1.trans hk2
  refine ow_ex (hp1'.field (j := 0) (y := .str (D.nm i)) rfl rfl rfl) rfl (fun _ => rfl) fun p1 hq1 => ?_
  refine ow_loud (hq1.one rfl) rfl rfl ?_
  refine ow_ex (hp2.field (j := 0) (y := .str (D.nm j)) rfl rfl rfl) rfl (fun _ => rfl) fun p2 hq2 => ?_
  refine ow_loud (hq2.one rfl) rfl rfl ?_
  cases h1 : D.lt i j with
  | true =>
    refine ow_loud (lss_str (a := D.nm i) (b := D.nm j) rfl rfl h1) rfl rfl (ow_loud rfl rfl rfl (ow_nil (aw_true rfl (aw_seq (aw_reg (ow_loud rfl rfl rfl (ow_nil (aw_ret ?_))))))))
    exact ⟨rfl, .int .i64 (-1), rfl, ⟨_, rfl, rfl⟩, hk⟩
  | false =>
    refine ow_loud (lss_str (a := D.nm i) (b := D.nm j) rfl rfl h1) rfl rfl (ow_loud rfl rfl rfl (ow_nil (aw_false rfl (aw_seq (aw_reg ?_)))))
    refine ow_ex (hp1'.field (j := 0) (y := .str (D.nm i)) rfl rfl rfl) rfl (fun _ => rfl) fun p3 hq3 => ?_
    refine ow_loud (hq3.one rfl) rfl rfl ?_
    refine ow_ex (hp2.field (j := 0) (y := .str (D.nm j)) rfl rfl rfl) rfl (fun _ => rfl) fun p4 hq4 => ?_
    refine ow_loud (hq4.one rfl) rfl rfl ?_
    cases h2 : bytesLt (D.nm j) (D.nm i) with
    | true =>
      refine ow_loud (gtr_str (a := D.nm i) (b := D.nm j) rfl rfl h2) rfl rfl (ow_loud rfl rfl rfl (ow_nil (aw_true rfl (aw_seq (aw_reg (ow_loud rfl rfl rfl (ow_nil (aw_ret ?_))))))))
      exact ⟨rfl, .int .i64 1, rfl, ⟨_, rfl, rfl⟩, hk⟩
    | false =>
      refine ow_loud (gtr_str (a := D.nm i) (b := D.nm j) rfl rfl h2) rfl rfl (ow_loud rfl rfl rfl (ow_nil (aw_false rfl (aw_skip (aw_seq (aw_reg (ow_loud rfl rfl rfl (ow_nil (aw_ret ?_)))))))))
      exact ⟨rfl, .int .i64 0, rfl, ⟨_, rfl, rfl⟩, hk⟩
end Go.Proofs.YteoeidhcmcacbaaGreatDoor.movesLetters
/-
  lang.ordered
-/
namespace Go.Proofs.YteoeidhcmcacbaaGreatDoor.movesLetters
open Go Go.Avm

theorem splice_W1 {f : Nat → List AVal} {w : Nat} (hf : ∀ j, (f j).length = w) {k c : Nat} {z : AVal} (hc : c < w) : ∀ {n : Nat}, k < n → splice (cellsW f n) (k * w + c) [z] = cellsW (updW f k ((f k).set c z)) n
  | n + 1, h => by
    have hl := cellsW_length hf n
    have hsl : (splice (cellsW f (n + 1)) (k * w + c) [z]) = (cellsW f (n + 1)).take (k * w + c) ++ (z :: (cellsW f (n + 1)).drop (k * w + c + 1)) := by
      unfold splice
      simp only [lapp_eq, ltake_eq, ldrop_eq, llen_eq]
      rfl
    rw [hsl, cellsW, cellsW]
    by_cases e : k = n
    · subst e
      rw [List.take_append, List.take_of_length_le (by omega), List.drop_append, List.drop_of_length_le (by omega), hl]
      rw [show k * w + c - k * w = c by omega, show k * w + c + 1 - k * w = c + 1 by omega]
      rw [cellsW_congr (f := updW f k ((f k).set c z)) (g := f) fun j hj => by unfold updW; rw [if_neg (by omega)]]
      rw [show updW f k ((f k).set c z) k = (f k).set c z by unfold updW; rw [if_pos rfl]]
      rw [List.set_eq_take_append_cons_drop, if_pos (by rw [hf]; exact hc)]
      simp
    · have ih := splice_W1 hf (z := z) hc (n := n) (k := k) (by omega)
      have hsl2 : (splice (cellsW f n) (k * w + c) [z]) = (cellsW f n).take (k * w + c) ++ (z :: (cellsW f n).drop (k * w + c + 1)) := by
        unfold splice
        simp only [lapp_eq, ltake_eq, ldrop_eq, llen_eq]
        rfl
      rw [hsl2] at ih
      have h2 : k * w + w ≤ n * w := by
        have := Nat.mul_le_mul_right w (show k + 1 ≤ n by omega)
        rw [Nat.succ_mul] at this; exact this
      rw [← ih, List.take_append_of_le_length (by omega), List.drop_append_of_le_length (by omega)]
      rw [show updW f k ((f k).set c z) n = f n by unfold updW; rw [if_neg (by omega)]]
      simp
section
variable {tab : Nat → Option AFn} {Q : Ex → Fr → AS → Prop} {fr : Fr} {s s0 : AS}
theorem store_put {w g x v : Nat} {p q : Opd} {cs : List AVal} {s' : AS} (hp : fr.ev p = .ptr g x v) (hq : (fr.ev q).cells = cs) (hl : cs.length = w) (hone : ones cs = true) (hput : putAt s g x v cs = some s') : loud fr s (.store w p q) = some (.junk, s') := by
  show (match fr.ev p with
    | .ptr g x w' => bif Nat.beq (llen (fr.ev q).cells) w && ones (fr.ev q).cells then
        match putAt s g x w' (fr.ev q).cells with
        | some s => some (AVal.junk, s)
        | none => none
      else none
    | _ => none) = _
  rw [hp, hq]
  show (bif Nat.beq (llen cs) w && ones cs then match putAt s g x v cs with | some s => some (AVal.junk, s) | none => none else none) = _
  rw [hone, llen_eq, hl, beqN_iff.2 rfl, hput]
  rfl
/-- A field of a thing in a row of ours is written: its place, the field's, the store. -/
theorem ow_field {o1 o2 o3 : AOper} {rest : List AOper} {w n i c d1 d2 : Nat} {x z : AVal} {f : Nat → List AVal} {a b q : Opd} (h1 : o1.op = .ixa w a b) (h2 : o2.op = .fla c (.t d1)) (h3 : o3.op = .store 1 (.t d2) q) (hd1 : o1.dst = some d1) (hd2 : o2.dst = some d2) (hd3 : o3.dst = none)
    (hg1 : o1.guard = none) (hg2 : o2.guard = none) (hg3 : o3.guard = none) (hc1 : o1.chk = []) (hc2 : o2.chk = []) (hc3 : o3.chk = []) (H : Mine s0 s w x n f) (hi : i < n) (hc : c < w) (ha : fr.ev a = x) (hb : fr.ev b = .int .i64 (.ofNat i)) (hq : ∀ u v, ((fr.put (some d1) u).put (some d2) v).ev q = z) (hzc : z.cells = [z]) (hz : ones [z] = true) (hzs : solids [z] = true)
    (k : ∀ u v s', Mine s0 s' w x n (updW f i ((f i).set c z)) → (∀ k o, Go.Proofs.YteoeidhcmcacbaaGreatDoor.movesLetters.rowOf x ≠ some k → s.get k = some o → s'.get k = some o) → Ow tab rest ((fr.put (some d1) u).put (some d2) v) s' Q) : Ow tab (o1 :: o2 :: o3 :: rest) fr s Q := by
  obtain ⟨g, v, cp, ex, rfl, hget, hcp⟩ := H.own.row
  have hlt := AS.lt_of_get hget
  have h2w : i * w + w ≤ n * w := by
    have := Nat.mul_le_mul_right w (show i + 1 ≤ n from hi)
    rw [Nat.succ_mul] at this; exact this
  refine ow_loud (v := .ptr g (Nat.add 0 (Nat.mul i w)) v) (s' := s) (by
    rw [h1]
    show (match (match fr.ev a, fr.ev b with
      | .slice g off len sz' v _, .int _ i => bif Nat.beq w sz' then match idx i len with
          | some n => some (AVal.ptr g (Nat.add off (Nat.mul n w)) v)
          | none => none
        else none
      | _, _ => none) with | some v => some (v, s) | none => none) = _
    rw [ha, hb]
    simp only [show Nat.beq w w = true from Nat.beq_refl w, cond_true, idx]
    rw [blt_iff.2 hi]
    rfl) (by rw [hg1]; rfl) (by rw [hc1]; rfl) ?_
  rw [hd1]
  refine ow_loud (v := .ptr g (Nat.add (Nat.add 0 (Nat.mul i w)) c) v) (s' := s) (by
    rw [h2]
    show (match (match (fr.put (some d1) (.ptr g (Nat.add 0 (Nat.mul i w)) v)).get d1 with
      | .ptr g x v => some (AVal.ptr g (Nat.add x c) v)
      | _ => none) with | some v => some (v, s) | none => none) = _
    rw [Fr.get_put, if_pos rfl]) (by rw [hg2]; rfl) (by rw [hc2]; rfl) ?_
  rw [hd2]
  have hput : putAt s g (Nat.add (Nat.add 0 (Nat.mul i w)) c) v [z] = some (s.set g (.row (cellsW (updW f i ((f i).set c z)) n) v [n * w] false)) := by
    unfold putAt
    rw [hget]
    show (bif Nat.beq v v && !false && Nat.ble (Nat.add (Nat.add (Nat.add 0 (Nat.mul i w)) c) (llen [z])) (n * w) then some (s.set g (.row (splice (cellsW f n) (Nat.add (Nat.add 0 (Nat.mul i w)) c) [z]) v [n * w] false)) else none) = _
    rw [beqN_iff.2 rfl, ble_iff.2 (by show 0 + i * w + c + 1 ≤ n * w; omega), show Nat.add (Nat.add 0 (Nat.mul i w)) c = i * w + c by show 0 + i * w + c = _; omega, splice_W1 H.own.len hc hi]
    rfl
  have hln : ∀ j, (updW f i ((f i).set c z) j).length = w := fun j => by
    unfold updW; split
    · rw [List.length_set]; exact H.own.len i
    · exact H.own.len j
  refine ow_loud (v := .junk) (s' := s.set g (.row (cellsW (updW f i ((f i).set c z)) n) v [n * w] false)) (by
    rw [h3]
    exact store_put (by rw [Fr.ev_t, Fr.get_put, if_pos rfl]) (by rw [hq, hzc]) rfl hz hput) (by rw [hg3]; rfl) (by rw [hc3]; rfl) ?_
  rw [hd3]
  refine k _ _ _ (H.puts (g := g) rfl ⟨hln, fun j hj => ?_, fun j hj => ?_, g, v, cp, [], rfl, AS.get_set_same _ _ hlt, hcp⟩ fun k hk => AS.get_set_ne _ _ hk) fun k o hk e => ?_
  · unfold updW; split
    · have h0 := H.own.one i hi
      rw [ones_iff] at h0 hz ⊢
      intro y hy
      rcases List.mem_or_eq_of_mem_set hy with h | rfl
      · exact h0 y h
      · exact hz _ (by simp)
    · exact H.own.one j hj
  · unfold updW; split
    · have h0 := H.own.sol i hi
      unfold solids at h0 hzs ⊢
      rw [List.all_eq_true] at h0 hzs ⊢
      intro y hy
      rcases List.mem_or_eq_of_mem_set hy with h | rfl
      · exact h0 y h
      · exact hzs _ (by simp)
    · exact H.own.sol j hj
  · rw [AS.get_set_ne _ _ (fun h => hk (by rw [h]; rfl))]; exact e
end

def b59 : AC := bodyOf T.a59
def l59 : AC := inn (inn (tl (hd (aft 2 b59))))
theorem ok59 : (AC.loop l59).ok = true := by decide +kernel
theorem ok59_3 : (aft 3 b59).ok = true := by decide +kernel
/-- Nothing that was there is lost. -/
def Stays (s0 : AS) : AVal → AS → Prop := fun r s => (∃ g o n w v c, r = .slice g o n w v c) ∧ Keeps s0 s
theorem Stays.lift {s0 : AS} : LiftR (Stays s0) := fun _ _ _ _ h hv hS => by
  obtain ⟨⟨g, o, n, w, v, c, rfl⟩, h⟩ := h
  cases hv
  exact ⟨⟨_, _, _, _, _, _, rfl⟩, h.sr hS⟩
section
variable {D : DS} {x : AVal} {a : Nat → AVal} {s0 : AS}
/-- The copy; its arguments are copied up to i. -/
def Half (s0 s : AS) (D : DS) (a : Nat → AVal) (y : AVal) : Prop := ∃ a', Mine s0 s 3 y D.n (D.cell a') ∧ ∀ j, j < D.n → (a' j).one = true ∧ (a' j).solid 5 = true
theorem loop59 (hD : Decls s0 x D a) (hnil : ∀ j, j < D.n → a j ≠ .nilslice) (hn : D.n ≤ 4) (hal : ∀ j, j < D.n → D.al j ≤ 3) {y : AVal} : ∀ (k i : Nat) (s : AS) (a' : Nat → AVal), i + k = D.n → Mine s0 s 3 y D.n (D.cell a') → (∀ j, j < D.n → (a' j).one = true ∧ (a' j).solid 5 = true) → (∀ j, i ≤ j → a' j = a j) →
    Wp T.tab (.loop l59) (mkF [(3, y), (8, .int .i64 (.ofNat D.n)), (9, .int .i64 (.ofNat i))]) s (Out.of 0 (Then T.tab (aft 3 b59) (Res.of [.tmp 2] (Stays s0)))) := by
  have hQ : Lift1 (Out.of 0 (Then T.tab (aft 3 b59) (Res.of [.tmp 2] (Stays s0)))) := Lift1.out (Lift1.andThen T.tabR ok59_3 (Lift1.res Stays.lift _)) 0
  intro k
  induction k with
  | zero =>
    intro i s a' hi H ha' _
    obtain rfl : i = D.n := by omega
    obtain ⟨g, hg, _⟩ := H.place
    refine aw_loop_step ?_
    show Wp T.tab (.seq (.reg (ops (hd l59))) (tl l59)) _ _ _
    refine aw_seq (aw_reg (ow_loud (lss_nat (n := D.n) (m := D.n) rfl rfl (decide_eq_false (by omega))) rfl rfl (ow_nil (aw_seq (aw_false rfl (aw_exit ?_))))))
    show Wp T.tab (.seq (.reg (ops (hd (aft 3 b59)))) (.seq (.reg (ops (hd (aft 4 b59)))) .ret)) _ _ _
    refine aw_seq (aw_reg (ow_loud rfl rfl rfl ?_))
    refine ow_call rfl rfl rfl ((sort25 hg (cmp116 ha') hn H.own).mono fun v s1 hv => ⟨rfl, ow_nil (aw_seq (aw_reg (ow_loud rfl rfl rfl (ow_loud rfl rfl rfl (ow_nil (aw_ret ?_))))))⟩)
    obtain ⟨rfl, h2, h3⟩ := hv
    obtain ⟨gy, vy, cy, exy, hy, _, _⟩ := h2.row
    refine ⟨rfl, _, rfl, ⟨gy, 0, D.n, 3, vy, cy, hy⟩, fun j o e => ?_⟩
    obtain ⟨o1, e1, e2⟩ := H.keep j o e
    obtain ⟨g', hg', hl⟩ := H.place
    rw [hg] at hg'
    obtain rfl : g = g' := Option.some.inj hg'
    obtain ⟨o2, e3, e4⟩ := h3 j o1 (by have := AS.lt_of_get e; omega) e1
    exact ⟨o2, e3, e2.comp e4⟩
  | succ k ih =>
    intro i s a' hi H ha' hrest
    have hin : i < D.n := by omega
    have hD' := hD.keeps H.keep
    refine aw_loop_step ?_
    show Wp T.tab (.seq (.reg (ops (hd l59))) (.seq (hd (tl l59)) (.seq (.block 1 (.seq (.reg (ops (hd (inn (hd (tl (tl l59))))))) (.reg (ops (tl (inn (hd (tl (tl l59))))))))) (.reg (ops (tl (tl (tl l59)))))))) _ _ _
    refine aw_seq (aw_reg (ow_loud (lss_nat (n := i) (m := D.n) rfl rfl (decide_eq_true hin)) rfl rfl (ow_nil (aw_seq (aw_true rfl (aw_skip (aw_seq (aw_block (aw_seq (aw_reg (ow_loud rfl rfl rfl (ow_loud rfl rfl rfl (ow_nil (aw_reg (ow_loud rfl rfl rfl (ow_loud rfl rfl rfl (ow_loud rfl rfl rfl (ow_loud rfl rfl rfl ?_))))))))))))))))))
    refine ow_ex (H.own.sl.at (i := i) (fun _ => rfl) hin rfl rfl) rfl (fun _ => rfl) fun p16 hp16 => ?_
    refine ow_ex (hp16.field (j := 1) (y := a' i) rfl rfl rfl) rfl (fun _ => rfl) fun p17 hp17 => ?_
    refine ow_loud (hp17.one rfl) rfl rfl ?_
    have hai : a' i = a i := hrest i (Nat.le_refl _)
    refine ow_call rfl rfl rfl ((clone115 (n := D.al i) (f := argCell (D.ar i)) (s := s) (x := a' i) (by rw [hai]; exact hD'.args i hin) (by rw [hai]; exact hnil i hin) (fun _ => rfl) (fun _ _ => rfl) (fun _ _ => rfl) (by have := hal i hin; omega)).mono fun v s1 hv => ⟨rfl, ?_⟩)
    have hv : Mine s s1 1 v (D.al i) (argCell (D.ar i)) := hv
    have H1 := H.keeps hv.keep
    obtain ⟨gv, vv, cv, exv, rfl, _, _⟩ := hv.own.row
    refine ow_field (i := i) (c := 1) (z := .slice gv 0 (D.al i) 1 vv cv) rfl rfl rfl rfl rfl rfl rfl rfl rfl rfl rfl rfl H1 hin (by omega) rfl rfl (fun _ _ => rfl) rfl rfl rfl fun u1 u2 s2 H2 _ => ow_nil ?_
    refine aw_reg (ow_loud (add_nat (n := i) (k := 1) rfl rfl (by omega)) rfl rfl (ow_loud rfl rfl rfl (ow_nil ?_)))
    refine aw_lose T.tabR ok59 hQ (l := [(3, y), (8, .int .i64 (.ofNat D.n)), (9, .int .i64 (.ofNat (i + 1)))]) ⟨Vr.refl _, Vr.refl _, Vr.refl _, trivial⟩ rfl (ih (i + 1) s2 (fun j => if j = i then .slice gv 0 (D.al i) 1 vv cv else a' j) (by omega) (H2.congr (fun _ => rfl) fun j hj => ?_) (fun j hj => ?_) (fun j hj => ?_))
    · unfold updW
      by_cases h : j = i
      · subst h; rw [if_pos rfl]; unfold DS.cell; simp
      · rw [if_neg h]; unfold DS.cell; simp [h]
    · by_cases h : j = i
      · simp only [h, if_pos]; exact ⟨rfl, rfl⟩
      · simp only [h, if_false]; exact ha' j hj
    · show (if j = i then _ else a' j) = a j
      rw [if_neg (by omega)]; exact hrest j (by omega)
theorem ordered59 (hD : Decls s0 x D a) (hx : x ≠ .nilslice) (hnil : ∀ j, j < D.n → a j ≠ .nilslice) (hn : D.n ≤ 4) (hal : ∀ j, j < D.n → D.al j ≤ 3) : Cw T.tab 59 [x] s0 (Stays s0) := by
  have hQ : Lift1 (Out.of 0 (Then T.tab (aft 3 b59) (Res.of [.tmp 2] (Stays s0)))) := Lift1.out (Lift1.andThen T.tabR ok59_3 (Lift1.res Stays.lift _)) 0
  refine cw_of (body := b59) (rs := [.tmp 2]) rfl ?_
  show Wp T.tab (.seq (.reg (ops (hd b59))) (.seq (.reg (ops (hd (aft 1 b59)))) (.seq (.seq (.reg (ops (hd (hd (aft 2 b59))))) (.block 0 (.loop l59))) (aft 3 b59)))) _ _ _
  refine aw_seq (aw_reg (ow_loud rfl rfl rfl (ow_nil (aw_seq (aw_reg (ow_loud rfl rfl rfl ?_))))))
  have hs := fun j hj => Sl.solid (hD.args j hj)
  refine ow_call rfl rfl rfl ((clone24 hD.row hx (fun _ => rfl) (fun j hj => hD.ones hj) (fun j hj => hD.solidCell hj) (by omega)).mono fun y s1 hv => ⟨rfl, ?_⟩)
  have hv : Mine s0 s1 3 y D.n (D.cell a) := hv
  refine ow_loud rfl rfl rfl (ow_nil (aw_seq (aw_seq (aw_reg (ow_loud rfl rfl rfl (ow_loud (hv.own.sl.len rfl) rfl rfl (ow_loud rfl rfl rfl (ow_nil (aw_block ?_)))))))))
  exact aw_lose T.tabR ok59 hQ (l := [(3, y), (8, .int .i64 (.ofNat D.n)), (9, .int .i64 (.ofNat 0))]) ⟨Vr.refl _, Vr.refl _, Vr.refl _, trivial⟩ rfl (loop59 hD hnil hn hal D.n 0 s1 a (by omega) hv (fun j hj => ⟨(hs j hj).2, (hs j hj).1⟩) (fun _ _ => rfl))
end
end Go.Proofs.YteoeidhcmcacbaaGreatDoor.movesLetters
/-
  Closed calls in great memories.
-/
namespace Go.Proofs.YteoeidhcmcacbaaGreatDoor.movesLetters
open Go Go.Avm

/-- What a small memory's things stand for. -/
theorem sr_ms {P : List AObj} {ms : List Nat} {s : AS} (hl : P.length = ms.length) (hobj : ∀ (k : Nat) (o : AObj), P[k]? = some o → ∃ g o', ms[k]? = some g ∧ s.get g = some o' ∧ Or (sig ms s.nx) o o') (hn : ∀ i j x : Nat, ms[i]? = some x → ms[j]? = some x → i = j) : Sr (sig ms s.nx) (mkS P) s := by
  have hlt : ∀ (k g : Nat), ms[k]? = some g → g < s.nx := fun k g e => by
    have hk : k < P.length := by rw [hl]; exact (List.getElem?_eq_some_iff.1 e).1
    obtain ⟨g', o', e1, e2, _⟩ := hobj k P[k] (by simp [hk])
    rw [e] at e1; obtain rfl := Option.some.inj e1
    exact AS.lt_of_get e2
  refine ⟨?_, ?_, ?_⟩
  · intro a b e
    cases ha : ms[a]? with
    | some x =>
      rw [sig_some ha] at e
      cases hb : ms[b]? with
      | some y => rw [sig_some hb] at e; subst e; exact hn a b _ ha hb
      | none =>
        rw [sig_none (List.getElem?_eq_none_iff.1 hb)] at e
        have := hlt a x ha; omega
    | none =>
      rw [sig_none (List.getElem?_eq_none_iff.1 ha)] at e
      have ha' := List.getElem?_eq_none_iff.1 ha
      cases hb : ms[b]? with
      | some y =>
        rw [sig_some hb] at e
        have := hlt b y hb; omega
      | none =>
        rw [sig_none (List.getElem?_eq_none_iff.1 hb)] at e
        have hb' := List.getElem?_eq_none_iff.1 hb
        omega
  · intro g o e
    rw [mkS_get] at e
    obtain ⟨g', o', e1, e2, e3⟩ := hobj g o e
    exact ⟨o', by rw [sig_some e1]; exact e2, e3⟩
  · intro j
    show sig ms s.nx (llen P + j) = _
    rw [llen_eq, sig_none (by omega), hl]; omega
noncomputable def asRes : Option (Out × AS) → Option (Ex × Fr × AS)
  | some (.ret v, s) => some (.nrm, mkF [(0, v)], s)
  | _ => none
theorem mkF_one (v : AVal) : (mkF [(0, v)]).get 0 = v := rfl
/-- A call that was run in a small memory, told in a great one. -/
theorem cw_cut {tab : Nat → Option AFn} (hT : TabR tab) {f n : Nat} {args args' : List AVal} {P P' : List AObj} {m ms : List Nat} {v0 : AVal} {s : AS} (h : okCut (asRes (Fast.call tab n f args (mkS P))) [(0, v0)] P' m = true) (ha : Vrs (sig ms s.nx) args args') (hS : Sr (sig ms s.nx) (mkS P) s) :
    Cw tab f args' s (fun v s' => ∃ ρ, Vr ρ v0 v ∧ Sr ρ (mkS P') s' ∧ s.nx ≤ s'.nx ∧ (∀ g, g < s.nx → g ∉ ms → s'.get g = s.get g) ∧ ∀ k g, m[k]? = some g → ρ k = sig ms s.nx g) := by
  rw [Fast.call_eq] at h
  obtain ⟨fr, s1, σ, e1, _, e3, e4, e5⟩ := okCut_at h
  cases hc : call tab n f args (mkS P) with
  | none => rw [hc] at e1; cases e1
  | some r =>
    obtain ⟨out, s2⟩ := r
    rw [hc] at e1
    cases out with
    | pan v => cases e1
    | ret v =>
      have e1 := Option.some.inj e1
      injection e1 with _ e1
      injection e1 with q1 q2
      subst q1 q2
      have hv : Vr σ v0 v := by
        have := e5 (0, v0) (by simp)
        rwa [mkF_one] at this
      refine (cw_lift hT (cw_run (R := fun x y => x = v ∧ y = s2) hc ⟨rfl, rfl⟩) ha hS).mono fun v' s' hq => ?_
      obtain ⟨v1, s3, ⟨rfl, rfl⟩, h1, h2, h3⟩ := hq
      refine ⟨fun k => sig ms s.nx (σ k), hv.comp h1, e3.comp h2, h3.nx, fun g hg hm => h3.get g hg fun k e => ?_, fun k g hk => by show sig ms s.nx (σ k) = _; rw [e4 k g hk]⟩
      unfold sig at e
      split at e
      · rename_i x hx; subst e; exact hm (List.mem_of_getElem? hx)
      · omega
/-! ### what has no places in it -/
theorem vr_fix {ρ : Nat → Nat} {x y : AVal} (h : Vr ρ x y) (hu : x.under 0 9 = true) (hs : x.solid 5 = true) : y = x := Vr.eq_of 5 x y hs (Vr.congr (τ := fun k => k) (fun k hk => absurd hk (Nat.not_lt_zero k)) 9 x y hu h)
theorem vrs_fix {ρ : Nat → Nat} : ∀ {l m : List AVal}, Vrs ρ l m → l.all (AVal.under 0 9) = true → solids l = true → m = l
  | [], _, h, _, _ => by cases h; rfl
  | x :: l, _, h, hu, hs => by
    rw [List.all_cons, Bool.and_eq_true] at hu
    unfold solids at hs
    rw [List.all_cons, Bool.and_eq_true] at hs
    cases h with
    | cons hx t => rw [vr_fix hx hu.1 hs.1, vrs_fix t hu.2 hs.2]
theorem or_fix {ρ : Nat → Nat} {cs : List AVal} {v : Nat} {ex : List Nat} {o : AObj} (h : Or ρ (.row cs v ex false) o) (hu : cs.all (AVal.under 0 9) = true) (hs : solids cs = true) : o = .row cs v ex false := by
  cases h with
  | row hc _ _ hro => rw [vrs_fix hc hu hs, hro rfl]
theorem vrs_same {ρ : Nat → Nat} : ∀ {l : List AVal}, l.all (AVal.under 0 9) = true → Vrs ρ l l
  | [], _ => .nil
  | x :: l, hu => by
    rw [List.all_cons, Bool.and_eq_true] at hu
    exact .cons (Vr.congr (σ := fun k => k) (fun k hk => absurd hk (Nat.not_lt_zero k)) 9 x x hu.1 (Vr.refl x)) (vrs_same hu.2)
end Go.Proofs.YteoeidhcmcacbaaGreatDoor.movesLetters
/-
  The tree of one node, when the type is one.
-/
namespace Go.Proofs.YteoeidhcmcacbaaGreatDoor.movesLetters
open Go Go.Avm

def node (t : Int) : List AVal := [.int .i64 1, .int .i64 t, .str [], .int .i64 0, .nilslice, .int .i64 0, .nilslice]
def tree (t : Int) : List AVal := [.int .i64 1, .int .i64 t, .str [], .int .i64 0, .nilslice, .int .i64 0, .nilslice, .nilslice]
def P52 (t : Int) : List AObj := [.row [.slice 1 0 1 7 0 (some 1), .int .i64 0] 0 [2] false, .row (node t) 0 [7] false]
def Q52 (t : Int) : List AObj := [.row [.slice 1 0 1 7 0 (some 1), .int .i64 1] 0 [2] false, .row (node t) 0 [7] false, .row (tree t) 0 [8] false]
def P90 (t : Int) : List AObj := [.row (tree t) 0 [8] false]
theorem isT_or {t : Int} (h : isT t = true) : t = 0 ∨ t = 1 := by
  unfold isT at h
  simpa using h
theorem run52 {t : Int} (h : isT t = true) : okCut (asRes (Fast.call T.tab 2000 52 [.ptr 0 0 0] (mkS (P52 t)))) [(0, .ptr 2 0 0)] (Q52 t) [0, 1, 5] = true := by
  rcases isT_or h with rfl | rfl <;> decide +kernel
theorem run89 {t : Int} (h : isT t = true) : okCut (asRes (Fast.call T.tab 2000 89 [.junk, .ptr 0 0 0] (mkS (P90 t)))) [(0, .int .i64 0)] (P90 t) [0] = true := by
  rcases isT_or h with rfl | rfl <;> decide +kernel
theorem run90 {t : Int} (h : isT t = true) : okCut (asRes (Fast.call T.tab 2000 90 [.ptr 0 0 0] (mkS (P90 t)))) [(0, .ptr 1 0 0)] (P90 t ++ P90 t) [0, 1] = true := by
  rcases isT_or h with rfl | rfl <;> decide +kernel
theorem run91 {t : Int} (h : isT t = true) : okCut (asRes (Fast.call T.tab 2000 91 [.ptr 0 0 0] (mkS (P90 t)))) [(0, .int .i64 1)] (P90 t) [0] = true := by
  rcases isT_or h with rfl | rfl <;> decide +kernel
theorem run92 {t : Int} (h : isT t = true) : okCut (asRes (Fast.call T.tab 2000 92 [.ptr 0 0 0] (mkS (P90 t)))) [(0, .int .i64 1)] (P90 t) [0] = true := by
  rcases isT_or h with rfl | rfl <;> decide +kernel
theorem one_ms {a : Nat} : ∀ i j x : Nat, [a][i]? = some x → [a][j]? = some x → i = j := by
  intro i j x hi hj
  cases i with
  | zero => cases j with
    | zero => rfl
    | succ j => simp at hj
  | succ i => simp at hi
theorem two_ms {a b : Nat} (h : a ≠ b) : ∀ i j x : Nat, [a, b][i]? = some x → [a, b][j]? = some x → i = j := by
  intro i j x hi hj
  match i, j with
  | 0, 0 => rfl
  | 1, 1 => rfl
  | 0, 1 => simp at hi hj; omega
  | 1, 0 => simp at hi hj; omega
  | 0, j + 2 => simp at hj
  | 1, j + 2 => simp at hj
  | i + 2, _ => simp at hi
/-- The tree stands at a place. -/
def TreeAt (s : AS) (g : Nat) (t : Int) : Prop := s.get g = some (.row (tree t) 0 [8] false)
section
variable {s : AS} {t : Int} {g : Nat}
theorem TreeAt.keeps {s' : AS} (h : TreeAt s g t) (k : Keeps s s') : TreeAt s' g t := by
  obtain ⟨o, h1, h2⟩ := k g _ h
  rw [or_fix (ρ := fun k => k) h2 rfl rfl] at h1
  exact h1
theorem sr_tree (h : TreeAt s g t) : Sr (sig [g] s.nx) (mkS (P90 t)) s := sr_ms rfl (fun k o e => by
    cases k with
    | zero => obtain rfl := Option.some.inj e; exact ⟨g, _, rfl, h, .row (vrs_same rfl) _ _ fun e => e⟩
    | succ k => simp [P90] at e) one_ms
/-- What is kept by calls that leave the tree. -/
theorem keeps_one {s' : AS} (h : TreeAt s g t) (h' : TreeAt s' g t) (hf : ∀ k, k < s.nx → k ∉ [g] → s'.get k = s.get k) : Keeps s s' := fun k o e => by
  by_cases hk : k = g
  · subst hk
    have : o = .row (tree t) 0 [8] false := by have := e.symm.trans h; exact Option.some.inj this
    subst this
    exact ⟨_, h', Or.refl _⟩
  · exact ⟨o, by rw [hf k (AS.lt_of_get e) (by simpa using hk)]; exact e, Or.refl o⟩
theorem int_tree {f n : Nat} {i : Int} {args args' : List AVal} (hr : okCut (asRes (Fast.call T.tab n f args (mkS (P90 t)))) [(0, .int .i64 i)] (P90 t) [0] = true) (ha : Vrs (sig [g] s.nx) args args') (h : TreeAt s g t) : Cw T.tab f args' s (Gives s (.int .i64 i)) := by
  refine (cw_cut T.tabR hr ha (sr_tree h)).mono fun v s' hq => ?_
  obtain ⟨ρ, h1, h2, h3, h4, h5⟩ := hq
  obtain ⟨o, e1, e2⟩ := h2.obj 0 (.row (tree t) 0 [8] false) rfl
  rw [h5 0 0 rfl, or_fix e2 rfl rfl] at e1
  exact ⟨by cases h1; rfl, keeps_one h e1 h4⟩
theorem vr_tree : Vr (sig [g] s.nx) (.ptr 0 0 0) (.ptr g 0 0) := .ptr 0 0 0
theorem bind89 (ht : isT t = true) (h : TreeAt s g t) (b : AVal) : Cw T.tab 89 [b, .ptr g 0 0] s (Gives s (.int .i64 0)) := int_tree (run89 ht) (.cons (.junk b) (.cons vr_tree .nil)) h
theorem count91 (ht : isT t = true) (h : TreeAt s g t) : Cw T.tab 91 [.ptr g 0 0] s (Gives s (.int .i64 1)) := int_tree (run91 ht) (.cons vr_tree .nil) h
theorem levels92 (ht : isT t = true) (h : TreeAt s g t) : Cw T.tab 92 [.ptr g 0 0] s (Gives s (.int .i64 1)) := int_tree (run92 ht) (.cons vr_tree .nil) h
theorem rowed90 (ht : isT t = true) (h : TreeAt s g t) : Cw T.tab 90 [.ptr g 0 0] s (fun r s' => ∃ g', r = .ptr g' 0 0 ∧ TreeAt s' g' t ∧ Keeps s s') := by
  refine (cw_cut T.tabR (run90 ht) (.cons vr_tree .nil) (sr_tree h)).mono fun v s' hq => ?_
  obtain ⟨ρ, h1, h2, h3, h4, h5⟩ := hq
  obtain ⟨o, e1, e2⟩ := h2.obj 0 (.row (tree t) 0 [8] false) rfl
  rw [h5 0 0 rfl, or_fix e2 rfl rfl] at e1
  obtain ⟨o', e3, e4⟩ := h2.obj 1 (.row (tree t) 0 [8] false) rfl
  rw [or_fix e4 rfl rfl] at e3
  cases h1
  exact ⟨ρ 1, rfl, e3, keeps_one h e1 h4⟩
theorem tree52 (ht : isT t = true) {gl gn : Nat} (hne : gl ≠ gn) (hl : s.get gl = some (.row [.slice gn 0 1 7 0 (some 1), .int .i64 0] 0 [2] false)) (hn : s.get gn = some (.row (node t) 0 [7] false)) :
    Cw T.tab 52 [.ptr gl 0 0] s (fun r s' => ∃ g', r = .ptr g' 0 0 ∧ TreeAt s' g' t ∧ s'.get gl = some (.row [.slice gn 0 1 7 0 (some 1), .int .i64 1] 0 [2] false) ∧ ∀ k o, k ≠ gl → s.get k = some o → s'.get k = some o) := by
  have hS : Sr (sig [gl, gn] s.nx) (mkS (P52 t)) s := sr_ms rfl (fun k o e => by
    match k with
    | 0 => obtain rfl := Option.some.inj e; exact ⟨gl, _, rfl, hl, .row (.cons (.slice 1 0 1 7 0 (some 1)) (.cons (.int .i64 0) .nil)) _ _ fun e => e⟩
    | 1 => obtain rfl := Option.some.inj e; exact ⟨gn, _, rfl, hn, .row (vrs_same rfl) _ _ fun e => e⟩
    | k + 2 => simp [P52] at e) (two_ms hne)
  refine (cw_cut T.tabR (run52 ht) (.cons (.ptr 0 0 0) .nil) hS).mono fun v s' hq => ?_
  obtain ⟨ρ, h1, h2, h3, h4, h5⟩ := hq
  obtain ⟨o0, e1, e2⟩ := h2.obj 0 _ rfl
  rw [h5 0 0 rfl] at e1
  have e1 : s'.get gl = some o0 := e1
  obtain ⟨o1, e3, e4⟩ := h2.obj 1 _ rfl
  rw [h5 1 1 rfl, or_fix e4 rfl rfl] at e3
  have e3 : s'.get gn = some _ := e3
  obtain ⟨o2, e5, e6⟩ := h2.obj 2 _ rfl
  rw [or_fix e6 rfl rfl] at e5
  cases h1
  refine ⟨ρ 2, rfl, e5, ?_, fun k o hk e => ?_⟩
  · rw [e1]
    have hρ1 : ρ 1 = gn := h5 1 1 rfl
    cases e2 with
    | row hc _ _ hro =>
      cases hc with
      | cons hx t1 =>
        cases hx
        cases t1 with
        | cons hy t2 =>
          cases hy
          cases t2
          rw [hρ1, hro rfl]
  · by_cases h : k = gn
    · subst h
      rw [hn] at e
      rw [e3, ← e]
    · rw [h4 k (AS.lt_of_get e) (by simp; exact ⟨hk, h⟩)]; exact e
end
end Go.Proofs.YteoeidhcmcacbaaGreatDoor.movesLetters
/-
  No tree, when the type is none.
-/
namespace Go.Proofs.YteoeidhcmcacbaaGreatDoor.movesLetters
open Go Go.Avm

theorem neq_int {fr : Fr} {s : AS} {x y : Opd} {k : IntKind} {a b : Int} {q : Bool} (hx : fr.ev x = .int k a) (hy : fr.ev y = .int k b) (hq : (!decide (a = b)) = q) : loud fr s (.bin .neq .prim x y) = some (.bool q, s) := by
  show (match binop .neq .prim (fr.ev x) (fr.ev y) with | some v => some (v, s) | none => none) = _
  rw [hx, hy]
  show (match (match (bif beqK k k then some (beqI a b) else none) with | some b => some (AVal.bool (!b)) | none => none) with | some v => some (v, s) | none => none) = _
  rw [show beqK k k = true by cases k <;> rfl, beqI_eq, ← hq]
  rfl
section
variable {s : AS} {t : Int}
def c101 : AC := hd (aft 3 (bodyOf T.a101))
def e101 : AC := aft 4 (bodyOf T.a101)
theorem shape101 (ht : isT t = false) : Cw T.tab 101 [.agg (node t)] s (fun r s' => r = .iface 250 (.agg []) ∧ Keeps s s') := by
  refine cw_of (body := bodyOf T.a101) (rs := [.tmp 2]) rfl ?_
  show Wp T.tab (.seq (.reg (ops (hd (bodyOf T.a101)))) (.seq (.reg (ops (hd (aft 1 (bodyOf T.a101))))) (.seq (.reg (ops (hd (aft 2 (bodyOf T.a101))))) (.seq (.seq (.reg (ops (hd c101))) (.block 0 (.seq (.reg (ops (hd (inn (tl c101))))) (.cond (.t 9) (.reg [⟨some 11,(.build [.nilslice] []),none,[],[]⟩,⟨some 12,(.mkif 182 (.t 11)),none,[],[]⟩,⟨some 4,(.mov (.t 12)),none,[],[]⟩]) (.seq (.seq (.reg [⟨some 14,(.bin .eql (.prim) (.t 8) (.c (.int .i64 (1)))),none,[],[]⟩,⟨some 13,(.mov (.t 14)),none,[],[]⟩]) (.cond (.t 13) .skip (.reg [⟨some 15,(.bin .eql (.prim) (.t 8) (.c (.int .i64 (2)))),none,[],[]⟩,⟨some 13,(.mov (.t 15)),none,[],[]⟩]))) (.cond (.t 13) (.reg [⟨some 16,(.fla 1 (.t 1)),none,[],[]⟩,⟨some 17,(.load false 1 (.t 16)),none,[],[]⟩,⟨some 18,(.build [.nilslice] []),none,[],[]⟩,⟨some 19,(.mkif 182 (.t 18)),none,[],[]⟩,⟨some 3,(.mov (.t 17)),none,[],[]⟩,⟨some 4,(.mov (.t 19)),none,[],[]⟩]) _)))))) (.seq (.seq (.reg (ops (hd (hd e101)))) (.cond (.t 106) (.seq (.reg [⟨some 107,(.build [] []),none,[],[]⟩,⟨some 108,(.mkif 250 (.t 107)),none,[],[]⟩,⟨some 2,(.mov (.t 108)),none,[],[]⟩]) .ret) .skip)) (tl e101)))))) _ _ _
  refine aw_seq (aw_reg (ow_box (cs := node t) rfl rfl rfl rfl rfl fun s1 hk1 _ _ hp1 => ow_loud rfl rfl rfl (ow_nil ?_)))
  have hp1 : At s1 7 (.ptr s.nx 0 0) (node t) := hp1
  refine aw_seq (aw_reg (ow_loud rfl rfl rfl (ow_nil (aw_seq (aw_reg (ow_loud rfl rfl rfl (ow_loud rfl rfl rfl (ow_loud rfl rfl rfl (ow_nil (aw_seq (aw_seq (aw_reg ?_))))))))))))
  refine ow_ex (hp1.field (j := 0) (y := .int .i64 1) rfl rfl rfl) rfl (fun _ => rfl) fun p2 hp2 => ?_
  refine ow_loud (hp2.one rfl) rfl rfl (ow_nil (aw_block (aw_seq (aw_reg (ow_loud rfl rfl rfl (ow_loud rfl rfl rfl (ow_nil (aw_false rfl (aw_seq (aw_seq (aw_reg (ow_loud rfl rfl rfl (ow_loud rfl rfl rfl (ow_nil (aw_true rfl (aw_skip (aw_true rfl (aw_reg ?_))))))))))))))))) )
  refine ow_ex (hp1.field (j := 1) (y := .int .i64 t) rfl rfl rfl) rfl (fun _ => rfl) fun p3 hp3 => ?_
  refine ow_loud (hp3.one rfl) rfl rfl (ow_loud rfl rfl rfl (ow_loud rfl rfl rfl (ow_loud rfl rfl rfl (ow_loud rfl rfl rfl (ow_nil (aw_seq (aw_seq (aw_reg ?_))))))))
  refine ow_ex (hp1.field (j := 1) (y := .int .i64 t) rfl rfl rfl) rfl (fun _ => rfl) fun p4 hp4 => ?_
  refine ow_loud (hp4.one rfl) rfl rfl (ow_loud rfl rfl rfl (ow_loud (neq_int (a := t) (b := t) (q := false) rfl rfl (by simp)) rfl rfl (ow_loud rfl rfl rfl (ow_loud rfl rfl rfl ?_))))
  refine ow_call rfl rfl rfl ((isType97 t s1).mono fun v s2 hv => ⟨rfl, ?_⟩)
  obtain ⟨rfl, hk2⟩ := hv
  rw [ht]
  refine ow_loud (v := .bool true) rfl rfl rfl (ow_loud (v := .bool true) rfl rfl rfl (ow_nil (aw_true rfl (aw_seq (aw_reg (ow_loud rfl rfl rfl (ow_loud rfl rfl rfl (ow_loud rfl rfl rfl (ow_nil (aw_ret ?_))))))))))
  exact ⟨rfl, .iface 250 (.agg []), rfl, rfl, hk1.trans hk2⟩
def els : AC → AC
  | .cond _ _ b => b
  | _ => .skip
def thn : AC → AC
  | .cond _ a _ => a
  | _ => .skip
def b52 : AC := bodyOf T.a52
def x52 : AC := inn (tl (hd (aft 6 b52)))
def y52 : AC := els (tl x52)
def z52 : AC := els (tl y52)
def u52 : AC := els (tl z52)
def v52 : AC := els (tl u52)
def w52 : AC := els (tl v52)
theorem bad52 (ht : isT t = false) {gl gn : Nat} (hl : s.get gl = some (.row [.slice gn 0 1 7 0 (some 1), .int .i64 0] 0 [2] false)) (hn : s.get gn = some (.row (node t) 0 [7] false)) : Cw T.tab 52 [.ptr gl 0 0] s (fun r s' => r = .nilptr ∧ Only gl s s') := by
  have hA : At s 2 (.ptr gl 0 0) [.slice gn 0 1 7 0 (some 1), .int .i64 0] := ⟨gl, 0, 0, rfl, by unfold cellsAt; rw [hl]; rfl⟩
  have hN : At s 7 (.ptr gn (Nat.add 0 (Nat.mul 0 7)) 0) (node t) := ⟨gn, 0, 0, rfl, by unfold cellsAt; rw [hn]; rfl⟩
  refine cw_of (body := b52) (rs := [.tmp 2]) rfl ?_
  show Wp T.tab (.seq (.reg (ops (hd b52))) (.seq (.seq (.reg (ops (hd (hd (aft 1 b52))))) (.cond (.t 26) (thn (tl (hd (aft 1 b52)))) .skip)) (.seq (.reg (ops (hd (aft 2 b52)))) (.seq (.reg (ops (hd (aft 3 b52)))) (.seq (.reg (ops (hd (aft 4 b52)))) (.seq (.reg (ops (hd (aft 5 b52)))) (.seq (.seq (.reg (ops (hd (hd (aft 6 b52))))) (.block 0 (.seq (.reg (ops (hd x52))) (.cond (.t 47) (thn (tl x52)) (.seq (.reg (ops (hd y52))) (.cond (.t 52) (thn (tl y52)) (.seq (.reg (ops (hd z52))) (.cond (.t 57) (thn (tl z52)) (.seq (.reg (ops (hd u52))) (.cond (.t 63) (thn (tl u52)) (.seq (.reg (ops (hd v52))) (.cond (.t 67) (thn (tl v52)) (.seq (.reg (ops (hd w52))) (.seq (.reg (ops (hd (tl w52)))) .ret)))))))))))))) (aft 7 b52))))))))  _ _ _
  refine aw_seq (aw_reg (ow_loud rfl rfl rfl (ow_nil (aw_seq (aw_seq (aw_reg (ow_loud rfl rfl rfl (ow_loud rfl rfl rfl ?_))))))))
  refine ow_ex (hA.field (j := 1) (y := .int .i64 0) rfl rfl rfl) rfl (fun _ => rfl) fun p1 hp1 => ?_
  refine ow_loud (hp1.one rfl) rfl rfl (ow_loud rfl rfl rfl (ow_loud rfl rfl rfl ?_))
  refine ow_ex (hA.field (j := 0) (y := .slice gn 0 1 7 0 (some 1)) rfl rfl rfl) rfl (fun _ => rfl) fun p2 hp2 => ?_
  refine ow_loud (hp2.one rfl) rfl rfl (ow_loud rfl rfl rfl (ow_loud (v := .bool false) rfl rfl rfl (ow_nil (aw_false rfl (aw_skip (aw_seq (aw_reg (ow_loud rfl rfl rfl (ow_loud rfl rfl rfl ?_)))))))))
  refine ow_ex (hA.field (j := 0) (y := .slice gn 0 1 7 0 (some 1)) rfl rfl rfl) rfl (fun _ => rfl) fun p3 hp3 => ?_
  refine ow_loud (hp3.one rfl) rfl rfl (ow_loud rfl rfl rfl (ow_loud rfl rfl rfl ?_))
  refine ow_ex (hA.field (j := 1) (y := .int .i64 0) rfl rfl rfl) rfl (fun _ => rfl) fun p4 hp4 => ?_
  refine ow_loud (hp4.one rfl) rfl rfl (ow_loud (v := .ptr gn (Nat.add 0 (Nat.mul 0 7)) 0) rfl rfl rfl ?_)
  refine ow_loud (hN.load rfl) rfl rfl ?_
  refine ow_fresh (z := [.int .i64 0, .int .i64 0, .str [], .int .i64 0, .nilslice, .int .i64 0, .nilslice]) (cs := node t) (w := 7) rfl rfl rfl rfl rfl rfl rfl rfl rfl rfl rfl rfl rfl fun s1 hk1 hp5 _ => ow_nil ?_
  have hl1 := hA.keeps rfl hk1
  refine aw_seq (aw_reg (ow_loud rfl rfl rfl (ow_loud rfl rfl rfl ?_)))
  refine ow_ex (hl1.field (j := 1) (y := .int .i64 0) rfl rfl rfl) rfl (fun _ => rfl) fun p6 hp6 => ?_
  refine ow_loud (hp6.one rfl) rfl rfl (ow_loud (add_nat (n := 0) (k := 1) rfl rfl (by omega)) rfl rfl (ow_loud rfl rfl rfl (ow_loud (v := .ptr gl (Nat.add 0 1) 0) rfl rfl rfl ?_)))
  obtain ⟨o, e1, e2⟩ := hk1 gl _ hl
  have hlt := AS.lt_of_get hl
  have hgl : s1.get gl = some (.row [.slice gn 0 1 7 0 (some 1), .int .i64 0] 0 [2] false) := by
    cases e2 with
    | row hc _ _ hro => rw [e1, Vrs.solid (l := [.slice gn 0 1 7 0 (some 1), .int .i64 0]) rfl hc, hro rfl]
  refine ow_loud (v := .junk) (s' := s1.set gl (.row [.slice gn 0 1 7 0 (some 1), .int .i64 1] 0 [2] false)) (store_put (cs := [.int .i64 1]) rfl rfl rfl rfl (by unfold putAt; rw [hgl]; rfl)) rfl rfl (ow_nil ?_)
  have hO : Only gl s (s1.set gl (.row [.slice gn 0 1 7 0 (some 1), .int .i64 1] 0 [2] false)) := (Only.of hk1).trans fun k o hk e => ⟨o, by rw [AS.get_set_ne _ _ hk]; exact e, Or.refl o⟩
  have hp5' : At (s1.set gl (.row [.slice gn 0 1 7 0 (some 1), .int .i64 1] 0 [2] false)) 7 (.ptr s.nx 0 0) (node t) := by
    obtain ⟨g, x, v, h1, h2⟩ := hp5
    injection h1 with q1 q2 q3
    subst q1 q2 q3
    refine ⟨s.nx, 0, 0, rfl, ?_⟩
    unfold cellsAt at h2 ⊢
    rw [AS.get_set_ne _ _ (by omega)]
    exact h2
  refine aw_seq (aw_reg (ow_loud rfl rfl rfl (ow_nil (aw_seq (aw_reg (ow_loud rfl rfl rfl (ow_nil (aw_seq (aw_seq (aw_reg (ow_loud (hp5'.load rfl) rfl rfl ?_)))))))))) )
  refine ow_call rfl rfl rfl ((shape101 ht).mono fun v s2 hv => ⟨rfl, ow_nil ?_⟩)
  obtain ⟨rfl, hk2⟩ := hv
  refine aw_block (aw_seq (aw_reg (ow_loud rfl rfl rfl (ow_loud rfl rfl rfl (ow_loud rfl rfl rfl (ow_nil (aw_false rfl ?_)))))))
  refine aw_seq (aw_reg (ow_loud rfl rfl rfl (ow_loud rfl rfl rfl (ow_loud rfl rfl rfl (ow_nil (aw_false rfl ?_))))))
  refine aw_seq (aw_reg (ow_loud rfl rfl rfl (ow_loud rfl rfl rfl (ow_loud rfl rfl rfl (ow_nil (aw_false rfl ?_))))))
  refine aw_seq (aw_reg (ow_loud rfl rfl rfl (ow_loud rfl rfl rfl (ow_loud rfl rfl rfl (ow_nil (aw_false rfl ?_))))))
  refine aw_seq (aw_reg (ow_loud rfl rfl rfl (ow_loud rfl rfl rfl (ow_loud rfl rfl rfl (ow_nil (aw_false rfl ?_))))))
  refine aw_seq (aw_reg (ow_loud rfl rfl rfl (ow_nil (aw_seq (aw_reg (ow_loud rfl rfl rfl (ow_nil (aw_ret ?_))))))))
  exact ⟨rfl, .nilptr, rfl, rfl, hO.trans (.of hk2)⟩
end
end Go.Proofs.YteoeidhcmcacbaaGreatDoor.movesLetters
/-
  lang.made, lang.Build.
-/
namespace Go.Proofs.YteoeidhcmcacbaaGreatDoor.movesLetters
open Go Go.Avm

/-- The names that are in scope, some at most. -/
def Sc (s0 s : AS) (sc : AVal) (i : Nat) : Prop := Keeps s0 s ∧ (sc = .nilslice ∨ ∃ n f, n ≤ i ∧ Mine s0 s 5 sc n f)
def BinderAt (s : AS) (g : Nat) (sc : AVal) : Prop := s.get g = some (.row [sc, .bool false] 0 [2] false)
theorem BinderAt.at {s : AS} {g : Nat} {sc : AVal} (h : BinderAt s g sc) : At s 2 (.ptr g 0 0) [sc, .bool false] := ⟨g, 0, 0, rfl, by unfold cellsAt; rw [h]; rfl⟩
theorem Sc.solid {s0 s : AS} {sc : AVal} {i : Nat} (h : Sc s0 s sc i) : sc.solid 5 = true ∧ sc.cells = [sc] ∧ sc.one = true := by
  rcases h.2 with rfl | ⟨n, f, _, h⟩
  · exact ⟨rfl, rfl, rfl⟩
  · obtain ⟨g, v, c, ex, rfl, _, _⟩ := h.own.row
    exact ⟨rfl, rfl, rfl⟩
theorem Sc.keeps {s0 s s' : AS} {sc : AVal} {i : Nat} (h : Sc s0 s sc i) (k : Keeps s s') : Sc s0 s' sc i := by
  refine ⟨h.1.trans k, ?_⟩
  rcases h.2 with h2 | ⟨n, f, h2, h3⟩
  · exact .inl h2
  · exact .inr ⟨n, f, h2, h3.keeps k⟩
theorem BinderAt.keeps {s s' : AS} {g : Nat} {sc : AVal} (h : BinderAt s g sc) (hs : sc.solid 5 = true) (k : Keeps s s') : BinderAt s' g sc := by
  obtain ⟨o', h1, h2⟩ := k g _ h
  unfold BinderAt
  rw [h1]
  cases h2 with
  | row hc _ _ hro =>
    rw [Vrs.solid (l := [sc, .bool false]) (by unfold solids; simp only [List.all_cons, List.all_nil, hs]; rfl) hc, hro rfl]
section
variable {tab : Nat → Option AFn} {Q : Ex → Fr → AS → Prop} {fr : Fr} {s s0 : AS}
theorem ow_scope {o1 o2 : AOper} {rest : List AOper} {m z : List AVal} {d i gb : Nat} {a y : Opd} {sc : AVal} (h1 : o1.op = .lit 1 5 z [(0, 5, y)]) (h2 : o2.op = .app 5 a (.t d)) (hd1 : o1.dst = some d) (hg1 : o1.guard = none) (hg2 : o2.guard = none) (hc1 : o1.chk = []) (hc2 : o2.chk = [])
    (hz : z.length = 5) (hm : m.length = 5) (hone : ones m = true) (hsol : solids m = true) (hy : fr.ev y = .agg m) (ha : ∀ v, (fr.put (some d) v).ev a = sc) (H : Sc s0 s sc i) (hi : i < 1000) (hB : BinderAt s gb sc) (hgb : s0.nx ≤ gb)
    (k : ∀ v sc' s', Sc s0 s' sc' (i + 1) → BinderAt s' gb sc → Go.Proofs.YteoeidhcmcacbaaGreatDoor.movesLetters.rowOf sc' ≠ some gb → Ow tab rest ((fr.put (some d) v).put o2.dst sc') s' Q) : Ow tab (o1 :: o2 :: rest) fr s Q := by
  refine ow_loud (v := .slice s.nx 0 1 5 0 (some 1)) (s' := s.new (oneRow m)) (by rw [h1]; exact lit_one hz (by rw [hy]; rfl) (by rw [hy]; rfl) hm hone) (by rw [hg1]; rfl) (by rw [hc1]; rfl) ?_
  rw [hd1]
  have hk1 : Keeps s (s.new (oneRow m)) := .new s _
  have hbl := AS.lt_of_get hB
  have hcells : cellsAt (s.new (oneRow m)) s.nx 0 0 (1 * 5) = some m := by
    unfold cellsAt
    rw [AS.get_new, if_pos rfl]
    show (bif Nat.ble (Nat.add 0 (1 * 5)) (llen m) then some (ltake (ldrop m 0) (1 * 5)) else none) = _
    rw [llen_eq, hm]
    show some (ltake (ldrop m 0) 5) = _
    rw [ltake_eq, ldrop_eq, List.drop_zero, List.take_of_length_le (by rw [hm]; exact Nat.le_refl _)]
  have hy1 : Sl (s.new (oneRow m)) 5 (.slice s.nx 0 1 5 0 (some 1)) 1 (fun _ => m) :=
    .inr ⟨s.nx, 0, 0, some 1, rfl, by rw [hcells]; rfl, fun k hk => by injection hk with hk; omega⟩
  have hB1 : BinderAt (s.new (oneRow m)) gb sc := by unfold BinderAt; rw [AS.get_new, if_neg (by omega)]; exact hB
  rcases H.2 with rfl | ⟨n, f, hn, hM⟩
  · have hget : ((s.new (oneRow m)).new (oneRow m)).get (s.nx + 1) = some (.row m 0 [5] false) := by
      rw [AS.get_new, if_pos (show s.nx + 1 = (s.new (oneRow m)).nx from rfl)]; unfold oneRow; rw [llen_eq, hm]
    refine ow_loud (v := .slice (s.nx + 1) 0 1 5 0 none) (s' := (s.new (oneRow m)).new (oneRow m)) (by
      rw [h2]
      show (match (fr.put (some d) (.slice s.nx 0 1 5 0 (some 1))).get d with
        | .nilslice => append (s.new (oneRow m)) 5 5 ((fr.put (some d) (.slice s.nx 0 1 5 0 (some 1))).ev a) []
        | .slice g off len sz' v _ => bif Nat.beq 5 sz' then match cellsAt (s.new (oneRow m)) g off v (Nat.mul len 5) with
            | some vs => append (s.new (oneRow m)) 5 5 ((fr.put (some d) (.slice s.nx 0 1 5 0 (some 1))).ev a) vs
            | none => none
          else none
        | .str b => bif Nat.beq 5 1 then append (s.new (oneRow m)) 5 5 ((fr.put (some d) (.slice s.nx 0 1 5 0 (some 1))).ev a) (lmap (fun (n : Nat) => AVal.int .u8 (.ofNat n)) b) else none
        | _ => none) = _
      rw [Fr.get_put, if_pos rfl, ha]
      show (match cellsAt (s.new (oneRow m)) s.nx 0 0 (1 * 5) with
            | some vs => append (s.new (oneRow m)) 5 5 .nilslice vs
            | none => none) = _
      rw [hcells]
      show (bif Nat.beq (Nat.div (llen m) 5) 0 then some (AVal.nilslice, s.new (oneRow m)) else
        bif fits 5 (some 0) 5 (Nat.div (llen m) 5) then some (.slice (s.new (oneRow m)).nx 0 (Nat.div (llen m) 5) 5 0 none, (s.new (oneRow m)).new (oneRow m)) else none) = _
      rw [llen_eq, hm]
      rfl) (by rw [hg2]; rfl) (by rw [hc2]; rfl) ?_
    have hk2 : Keeps s ((s.new (oneRow m)).new (oneRow m)) := hk1.trans (.new _ _)
    have hle : s0.nx ≤ s.nx := by omega
    refine k _ _ _ ⟨H.1.trans hk2, .inr ⟨1, fun _ => m, by omega, ⟨⟨fun _ => hm, fun _ _ => hone, fun _ _ => hsol, s.nx + 1, 0, none, [], rfl, ?_, .inl rfl⟩, H.1.trans hk2, s.nx + 1, rfl, by omega⟩⟩⟩ ?_ ?_
    · rw [hget, cellsW, cellsW]; rfl
    · unfold BinderAt; rw [AS.get_new, if_neg (by show gb ≠ s.nx + 1; omega)]; exact hB1
    · intro h; injection h with h; omega
  · have hM1 := hM.keeps hk1
    obtain ⟨x', s', e1, e2, e3, e4, e5⟩ := hM1.own.app (fr := fr.put (some d) (.slice s.nx 0 1 5 0 (some 1))) (a := a) (b := .t d) hy1 (fun _ => hm) (fun _ _ => hone) (fun _ _ => hsol) (by omega) (by omega) (.inl (by omega)) (ha _) (by rw [Fr.ev_t, Fr.get_put, if_pos rfl])
    obtain ⟨x2, s2, f1, f2, f3⟩ := hM1.app (fr := fr.put (some d) (.slice s.nx 0 1 5 0 (some 1))) (a := a) (b := .t d) hy1 (fun _ => hm) (fun _ _ => hone) (fun _ _ => hsol) (by omega) (by omega) (.inl (by omega)) (ha _) (by rw [Fr.ev_t, Fr.get_put, if_pos rfl])
    rw [e1] at f1
    have f1 := Option.some.inj f1
    injection f1 with q1 q2
    subst q1 q2
    obtain ⟨g, v, c, ex, hx, hg, _⟩ := hM1.own.row
    obtain ⟨g', v', c', hx', hgg⟩ := e5 g v c hx
    have hne : gb ≠ g := fun h => by
      subst h
      have hc := hB1.symm.trans hg
      have hc := Option.some.inj hc
      injection hc with hc _ _ _
      have := congrArg List.length hc
      rw [cellsW_length hM1.own.len] at this
      have : 2 = n * 5 := this
      omega
    refine ow_loud (v := x') (s' := s') (by rw [h2]; exact e1) (by rw [hg2]; rfl) (by rw [hc2]; rfl) (k _ x' s' ⟨f2.keep, .inr ⟨n + 1, _, by omega, f2⟩⟩ (e4 g v c hx gb _ hne hB1) ?_)
    rw [hx']
    intro h
    have h : g' = gb := Option.some.inj h
    rcases hgg with h2 | h2
    · omega
    · have : s.nx + 1 ≤ g' := h2
      omega
/-- lang.scope.push -/
theorem push88 {m : List AVal} {i gb : Nat} {sc : AVal} (hm : m.length = 5) (hone : ones m = true) (hsol : solids m = true) (H : Sc s0 s sc i) (hi : i < 1000) (hB : BinderAt s gb sc) (hgb : s0.nx ≤ gb) :
    Cw T.tab 88 [.ptr gb 0 0, .agg m] s (fun _ s' => ∃ sc', Sc s0 s' sc' (i + 1) ∧ BinderAt s' gb sc') := by
  refine cw_of (body := bodyOf T.a88) (rs := []) rfl ?_
  show Wp T.tab (.seq (.reg (ops (hd (bodyOf T.a88)))) (.reg (ops (tl (bodyOf T.a88))))) _ _ _
  refine aw_seq (aw_reg (ow_box (cs := m) rfl rfl rfl rfl hone fun s1 hk1 _ _ hp3 => ow_nil (aw_reg (ow_loud rfl rfl rfl (ow_loud rfl rfl rfl (ow_loud rfl rfl rfl ?_))))))
  rw [hm] at hp3
  have hs := H.solid
  have H1 := H.keeps hk1
  have hB1 := hB.keeps hs.1 hk1
  refine ow_ex (hB1.at.field (j := 0) (y := sc) rfl rfl rfl) rfl (fun _ => rfl) fun p7 hp7 => ?_
  refine ow_loud (hp7.one rfl) rfl rfl (ow_loud (hp3.load rfl) rfl rfl ?_)
  refine ow_scope (m := m) rfl rfl rfl rfl rfl rfl rfl rfl hm hone hsol rfl (fun _ => rfl) H1 hi hB1 hgb fun v sc' s2 H2 hB2 hne => ?_
  have hs' := H2.solid
  refine ow_loud rfl rfl rfl (ow_loud (v := .ptr gb (Nat.add 0 0) 0) rfl rfl rfl ?_)
  have hlt := AS.lt_of_get hB2
  refine ow_loud (v := .junk) (s' := s2.set gb (.row [sc', .bool false] 0 [2] false)) (store_put (cs := [sc']) rfl hs'.2.1 rfl (by show (sc'.one && true) = true; rw [hs'.2.2]; rfl) (by unfold putAt; rw [hB2]; rfl)) rfl rfl (ow_nil ?_)
  have hget : (s2.set gb (.row [sc', .bool false] 0 [2] false)).get gb = some (.row [sc', .bool false] 0 [2] false) := AS.get_set_same _ _ hlt
  have hkeep : Keeps s0 (s2.set gb (.row [sc', .bool false] 0 [2] false)) := fun j o e => by
    have := AS.lt_of_get e
    rw [AS.get_set_ne _ _ (by omega)]
    exact H2.1 j o e
  refine ⟨rfl, .tuple [], rfl, sc', ⟨hkeep, ?_⟩, hget⟩
  rcases H2.2 with h | ⟨n, f, h1, h2⟩
  · exact .inl h
  · refine .inr ⟨n, f, h1, h2.own.ofGet fun g hg => AS.get_set_ne _ _ (fun h => hne (by rw [← h]; exact hg)), hkeep, h2.place⟩
end
end Go.Proofs.YteoeidhcmcacbaaGreatDoor.movesLetters
/-
  lang.made, lang.Build.
-/
namespace Go.Proofs.YteoeidhcmcacbaaGreatDoor.movesLetters
open Go Go.Avm

/-- What Build comes to, as far as one looks. -/
def Built (s0 : AS) (e : Int) : AVal → AS → Prop := fun r s => (∃ p, r = .tuple [p, .int .i64 e]) ∧ Keeps s0 s
theorem Built.lift {s0 : AS} {e : Int} : LiftR (Built s0 e) := fun _ _ _ _ h hv hS => by
  obtain ⟨⟨p, rfl⟩, h⟩ := h
  refine ⟨?_, h.sr hS⟩
  cases hv with
  | tuple h =>
    cases h with
    | cons hx t => cases t with
      | cons hy t => cases hy; cases t; exact ⟨_, rfl⟩
theorem gtr_lit {fr : Fr} {s : AS} {x : Opd} {m : Int} {b : Bool} {n : Int} (hx : fr.ev x = .int .i64 n) (hb : bltI m n = b) : loud fr s (.bin .gtr .prim x (.c (.int .i64 m))) = some (.bool b, s) := by
  show (match binop .gtr .prim (fr.ev x) (.int .i64 m) with | some v => some (v, s) | none => none) = _
  rw [hx]
  show some (AVal.bool (bltI m n), s) = _
  rw [hb]
def b46 : AC := bodyOf T.a46
def l46 : AC := inn (inn (tl (hd (aft 2 b46))))
def r46 : AC := inn (hd (tl (tl l46)))
theorem ok46 : (AC.loop l46).ok = true := by decide +kernel
theorem ok46_3 : (aft 3 b46).ok = true := by decide +kernel
section
variable {D : DS} {x : AVal} {a : Nat → AVal} {s0 : AS} {t : Int} {gt : Nat}
theorem loop46 (hD : Decls s0 x D a) (hx : x ≠ .nilslice) (hnil : ∀ j, j < D.n → a j ≠ .nilslice) (hn : D.n ≤ 4) (hal : ∀ j, j < D.n → D.al j ≤ 3) (ht : isT t = true) (hT : TreeAt s0 gt t) {gb : Nat} (hgb : s0.nx ≤ gb) : ∀ (k i : Nat) (s : AS) (sc : AVal), i + k = D.n → Sc s0 s sc i → BinderAt s gb sc →
    Wp T.tab (.loop l46) (mkF [(0, x), (1, .int .i64 t), (2, .ptr gt 0 0), (10, .ptr gb 0 0), (16, x), (17, .int .i64 (.ofNat D.n)), (18, .int .i64 (.ofNat i))]) s (Out.of 0 (Then T.tab (aft 3 b46) (Res.of [.tmp 8, .tmp 9] (Built s0 0)))) := by
  have hQ : Lift1 (Out.of 0 (Then T.tab (aft 3 b46) (Res.of [.tmp 8, .tmp 9] (Built s0 0)))) := Lift1.out (Lift1.andThen T.tabR ok46_3 (Lift1.res Built.lift _)) 0
  intro k
  induction k with
  | zero =>
    intro i s sc hi H hB
    obtain rfl : i = D.n := by omega
    refine aw_loop_step ?_
    show Wp T.tab (.seq (.reg (ops (hd l46))) (tl l46)) _ _ _
    refine aw_seq (aw_reg (ow_loud (lss_nat (n := D.n) (m := D.n) rfl rfl (decide_eq_false (by omega))) rfl rfl (ow_nil (aw_seq (aw_false rfl (aw_exit ?_))))))
    show Wp T.tab (.seq (.seq (.reg (ops (hd (hd (aft 3 b46))))) (.seq (.reg (ops (hd (tl (hd (aft 3 b46)))))) (.cond (.t 35) (thn (tl (tl (hd (aft 3 b46))))) .skip))) (.seq (.reg (ops (hd (aft 4 b46)))) (.seq (.seq (.reg (ops (hd (hd (aft 5 b46))))) (.cond (.t 46) (thn (tl (hd (aft 5 b46)))) .skip)) (.seq (.reg (ops (hd (aft 6 b46)))) .ret)))) _ _ _
    have hT1 := hT.keeps H.1
    refine aw_seq (aw_seq (aw_reg (ow_loud rfl rfl rfl ?_)))
    refine ow_call rfl rfl rfl ((bind89 ht hT1 (.ptr gb 0 0)).mono fun v s1 hv => ⟨rfl, ?_⟩)
    obtain ⟨rfl, hk1⟩ := hv
    refine ow_loud rfl rfl rfl (ow_nil (aw_seq (aw_reg (ow_loud rfl rfl rfl (ow_loud (v := .bool false) rfl rfl rfl (ow_nil (aw_false rfl (aw_skip (aw_seq (aw_reg (ow_loud rfl rfl rfl ?_)))))))))))
    refine ow_call rfl rfl rfl ((rowed90 ht (hT1.keeps hk1)).mono fun v s2 hv => ⟨rfl, ?_⟩)
    obtain ⟨g2, rfl, hT2, hk2⟩ := hv
    refine ow_loud rfl rfl rfl (ow_nil (aw_seq (aw_seq (aw_reg (ow_loud rfl rfl rfl ?_)))))
    refine ow_call rfl rfl rfl ((count91 ht hT2).mono fun v s3 hv => ⟨rfl, ?_⟩)
    obtain ⟨rfl, hk3⟩ := hv
    refine ow_loud (gtr_lit (n := 1) (b := false) rfl rfl) rfl rfl (ow_loud rfl rfl rfl (ow_loud rfl rfl rfl ?_))
    refine ow_call rfl rfl rfl ((levels92 ht (hT2.keeps hk3)).mono fun v s4 hv => ⟨rfl, ?_⟩)
    obtain ⟨rfl, hk4⟩ := hv
    refine ow_loud (gtr_lit (n := 1) (b := false) rfl rfl) rfl rfl (ow_loud rfl rfl rfl (ow_nil (aw_false rfl (aw_skip (aw_seq (aw_reg (ow_loud rfl rfl rfl ?_)))))))
    have hK : Keeps s0 s4 := (((H.1.trans hk1).trans hk2).trans hk3).trans hk4
    refine ow_call rfl rfl rfl ((ordered59 (hD.keeps hK) hx hnil hn hal).mono fun v s5 hv => ⟨rfl, ?_⟩)
    obtain ⟨⟨g, o, n, w, v, c, rfl⟩, hk5⟩ := hv
    refine ow_loud rfl rfl rfl (ow_loud rfl rfl rfl (ow_loud rfl rfl rfl ?_))
    refine ow_box (cs := [.slice g o n w v c, .int .i64 t, .ptr g2 0 0]) rfl rfl rfl rfl rfl fun s6 hk6 _ _ _ => ow_loud rfl rfl rfl (ow_loud rfl rfl rfl (ow_nil (aw_ret ?_)))
    exact ⟨rfl, _, rfl, ⟨_, rfl⟩, (hK.trans hk5).trans hk6⟩
  | succ k ih =>
    intro i s sc hi H hB
    have hin : i < D.n := by omega
    have hD' := hD.keeps H.1
    refine aw_loop_step ?_
    show Wp T.tab (.seq (.reg (ops (hd l46))) (.seq (hd (tl l46)) (.seq (.block 1 (.seq (.reg (ops (hd r46))) (.reg (ops (tl r46))))) (.reg (ops (tl (tl (tl l46)))))))) _ _ _
    refine aw_seq (aw_reg (ow_loud (lss_nat (n := i) (m := D.n) rfl rfl (decide_eq_true hin)) rfl rfl (ow_nil (aw_seq (aw_true rfl (aw_skip (aw_seq (aw_block (aw_seq (aw_reg ?_))))))))))
    refine ow_ex (hD'.row.at (i := i) (fun _ => rfl) hin rfl rfl) rfl (fun _ => rfl) fun p1 hp1 => ?_
    refine ow_loud (hp1.load rfl) rfl rfl ?_
    refine ow_fresh (z := [.str [], .nilslice, .int .i64 0]) (cs := D.cell a i) (w := 3) rfl rfl rfl rfl rfl rfl rfl rfl rfl rfl (hD.ones hin) rfl rfl fun s1 hk1 hp2 _ => ow_nil ?_
    have hs := H.solid
    have hsa := Sl.solid (hD.args i hin)
    refine aw_reg (ow_loud (v := .ptr gb (Nat.add 0 0) 0) rfl rfl rfl ?_)
    refine ow_ex (hp2.field (j := 0) (y := .str (D.nm i)) rfl rfl rfl) rfl (fun _ => rfl) fun p3 hp3 => ?_
    refine ow_loud (hp3.one rfl) rfl rfl ?_
    refine ow_ex (hp2.field (j := 1) (y := a i) rfl rfl rfl) rfl (fun _ => rfl) fun p4 hp4 => ?_
    refine ow_loud (hp4.one rfl) rfl rfl ?_
    refine ow_ex (hp2.field (j := 2) (y := .int .i64 (D.rs i)) rfl rfl rfl) rfl (fun _ => rfl) fun p5 hp5 => ?_
    refine ow_loud (hp5.one rfl) rfl rfl ?_
    obtain ⟨ga, oa, va, ca, hai⟩ : ∃ g o v c, a i = .slice g o (D.al i) 1 v c := by
      rcases hD.args i hin with ⟨h, _⟩ | ⟨g, o, v, c, h, _, _⟩
      · exact absurd h (hnil i hin)
      · exact ⟨g, o, v, c, h⟩
    rw [hai]
    refine ow_loud (v := .agg [.str (D.nm i), .bool false, .bool false, .slice ga oa (D.al i) 1 va ca, .int .i64 (D.rs i)]) (s' := s1) rfl rfl rfl ?_
    refine ow_call rfl rfl rfl ((push88 (s0 := s0) (sc := sc) (i := i) (gb := gb) rfl rfl rfl (H.keeps hk1) (by omega) (hB.keeps hs.1 hk1) hgb).mono fun v s2 hv => ⟨rfl, ow_nil ?_⟩)
    obtain ⟨sc', H2, hB2⟩ := hv
    refine aw_reg (ow_loud (add_nat (n := i) (k := 1) rfl rfl (by omega)) rfl rfl (ow_loud rfl rfl rfl (ow_nil ?_)))
    exact aw_lose T.tabR ok46 hQ (l := [(0, x), (1, .int .i64 t), (2, .ptr gt 0 0), (10, .ptr gb 0 0), (16, x), (17, .int .i64 (.ofNat D.n)), (18, .int .i64 (.ofNat (i + 1)))]) ⟨Vr.refl _, Vr.refl _, Vr.refl _, Vr.refl _, Vr.refl _, Vr.refl _, Vr.refl _, trivial⟩ rfl (ih (i + 1) s2 sc' (by omega) H2 hB2)
theorem made46 (hD : Decls s0 x D a) (hx : x ≠ .nilslice) (hnil : ∀ j, j < D.n → a j ≠ .nilslice) (hn : D.n ≤ 4) (hal : ∀ j, j < D.n → D.al j ≤ 3) (ht : isT t = true) (hT : TreeAt s0 gt t) : Cw T.tab 46 [x, .int .i64 t, .ptr gt 0 0, .bool false] s0 (Built s0 0) := by
  have hQ : Lift1 (Out.of 0 (Then T.tab (aft 3 b46) (Res.of [.tmp 8, .tmp 9] (Built s0 0)))) := Lift1.out (Lift1.andThen T.tabR ok46_3 (Lift1.res Built.lift _)) 0
  refine cw_of (body := b46) (rs := [.tmp 8, .tmp 9]) rfl ?_
  show Wp T.tab (.seq (.reg (ops (hd b46))) (.seq (.reg (ops (hd (aft 1 b46)))) (.seq (.seq (.reg (ops (hd (hd (aft 2 b46))))) (.block 0 (.loop l46))) (aft 3 b46)))) _ _ _
  refine aw_seq (aw_reg (ow_loud rfl rfl rfl (ow_loud rfl rfl rfl (ow_nil (aw_seq (aw_reg (ow_loud rfl rfl rfl (ow_loud rfl rfl rfl ?_))))))))
  refine ow_new (z := [.nilslice, .bool false]) rfl rfl rfl rfl ?_
  refine ow_fill (z := [.nilslice, .bool false]) (cs := [.nilslice, .bool false]) (w := 2) (g := s0.nx) (sB := s0) rfl rfl rfl rfl rfl rfl (by rw [AS.get_new, if_pos rfl]; rfl) rfl rfl rfl (.new s0 _) (Nat.le_refl _) fun s1 hk1 hget _ _ => ow_nil ?_
  refine aw_seq (aw_seq (aw_reg (ow_loud rfl rfl rfl (ow_loud ((hD.keeps hk1).row.len rfl) rfl rfl (ow_loud rfl rfl rfl (ow_nil (aw_block ?_)))))))
  exact aw_lose T.tabR ok46 hQ (l := [(0, x), (1, .int .i64 t), (2, .ptr gt 0 0), (10, .ptr s0.nx 0 0), (16, x), (17, .int .i64 (.ofNat D.n)), (18, .int .i64 (.ofNat 0))]) ⟨Vr.refl _, Vr.refl _, Vr.refl _, Vr.refl _, Vr.refl _, Vr.refl _, Vr.refl _, trivial⟩ rfl (loop46 hD hx hnil hn hal ht hT (Nat.le_refl _) D.n 0 s1 .nilslice (by omega) ⟨hk1, .inl rfl⟩ hget)
end
end Go.Proofs.YteoeidhcmcacbaaGreatDoor.movesLetters
/-
  lang.Build.
-/
namespace Go.Proofs.YteoeidhcmcacbaaGreatDoor.movesLetters
open Go Go.Avm

theorem valid_n {D : DS} (h : valid D = true) : D.n ≤ 4 := by
  unfold valid at h
  rw [Bool.and_eq_true] at h
  exact of_decide_eq_true h.1
theorem valid_ok {D : DS} (h : valid D = true) {j : Nat} (hj : j < D.n) : dOk D j = true := by
  unfold valid at h
  rw [Bool.and_eq_true, List.all_eq_true] at h
  exact h.2 j (List.mem_range.2 hj)
theorem valid_al {D : DS} (h : valid D = true) {j : Nat} (hj : j < D.n) : D.al j ≤ 3 := by
  have := valid_ok h hj
  unfold dOk at this
  simp only [Bool.and_eq_true] at this
  exact of_decide_eq_true this.2.1
def NodeAt (s : AS) (g : Nat) (t : Int) : Prop := s.get g = some (.row (node t) 0 [7] false)
theorem NodeAt.keeps {s s' : AS} {g : Nat} {t : Int} (h : NodeAt s g t) (k : Keeps s s') : NodeAt s' g t := by
  obtain ⟨o, h1, h2⟩ := k g _ h
  rw [or_fix (ρ := fun k => k) h2 rfl rfl] at h1
  exact h1
def b23 : AC := bodyOf T.a23
section
variable {D : DS} {x : AVal} {a : Nat → AVal} {s0 : AS} {t : Int} {gn : Nat}
theorem build23 (hb : ∀ j, ∀ c ∈ D.nm j, c < 256) (hD : Decls s0 x D a) (hx : x ≠ .nilslice) (hnil : ∀ j, j < D.n → a j ≠ .nilslice) (hN : NodeAt s0 gn t) : Cw T.tab 23 [x, .int .i64 t, .slice gn 0 1 7 0 (some 1)] s0 (Built s0 (if valid D && isT t then 0 else 1)) := by
  refine cw_of (body := b23) (rs := [.tmp 6, .tmp 7]) rfl ?_
  show Wp T.tab (.seq (.reg (ops (hd b23))) (.seq (.seq (.reg (ops (hd (hd (aft 1 b23))))) (.cond (.t 12) (.seq (.reg [⟨some 6,(.mov (.c .nilptr)),none,[],[]⟩,⟨some 7,(.mov (.c (.int .i64 (1)))),none,[],[]⟩]) .ret) .skip)) (.seq (.reg (ops (hd (aft 2 b23)))) (.seq (.reg (ops (hd (aft 3 b23)))) (.seq (.seq (.reg (ops (hd (hd (aft 4 b23))))) (.cond (.t 33) (.seq (.reg [⟨some 6,(.mov (.c .nilptr)),none,[],[]⟩,⟨some 7,(.mov (.c (.int .i64 (1)))),none,[],[]⟩]) .ret) .skip)) (.seq (.reg (ops (hd (aft 5 b23)))) .ret)))))) _ _ _
  refine aw_seq (aw_reg (ow_loud rfl rfl rfl (ow_loud rfl rfl rfl (ow_nil (aw_seq (aw_seq (aw_reg (ow_loud rfl rfl rfl ?_))))))))
  refine ow_call rfl rfl rfl ((areDecls51 hb hD).mono fun v s1 hv => ⟨rfl, ?_⟩)
  obtain ⟨rfl, hk1⟩ := hv
  cases hv : valid D with
  | false =>
    refine ow_loud (v := .bool true) rfl rfl rfl (ow_nil (aw_true rfl (aw_seq (aw_reg (ow_loud rfl rfl rfl (ow_loud rfl rfl rfl (ow_nil (aw_ret ?_))))))))
    exact ⟨rfl, _, rfl, ⟨.nilptr, rfl⟩, hk1⟩
  | true =>
    refine ow_loud (v := .bool false) rfl rfl rfl (ow_nil (aw_false rfl (aw_skip (aw_seq (aw_reg (ow_loud rfl rfl rfl (ow_loud rfl rfl rfl ?_)))))))
    refine ow_new (z := [.nilslice, .int .i64 0]) rfl rfl rfl rfl ?_
    have hN1 := hN.keeps hk1
    have hgn := AS.lt_of_get hN1
    refine ow_fill (z := [.nilslice, .int .i64 0]) (cs := [.slice gn 0 1 7 0 (some 1), .int .i64 0]) (w := 2) (g := s1.nx) (sB := s1) rfl rfl rfl rfl rfl rfl (by rw [AS.get_new, if_pos rfl]; rfl) rfl rfl rfl (.new s1 _) (Nat.le_refl _) fun s2 hk2 hget _ _ => ow_nil ?_
    have hN2 := hN1.keeps hk2
    have hfree : s1.get s1.nx = none := Keeps.fresh (.refl s1)
    refine aw_seq (aw_reg ?_)
    cases ht : isT t with
    | false =>
      refine ow_call rfl rfl rfl ((bad52 ht hget hN2).mono fun v s3 hv => ⟨rfl, ?_⟩)
      obtain ⟨rfl, hO⟩ := hv
      have hK : Keeps s0 s3 := hk1.trans (Keeps.only hk2 hfree hO)
      refine ow_loud rfl rfl rfl (ow_nil (aw_seq (aw_seq (aw_reg (ow_loud rfl rfl rfl (ow_loud (v := .bool true) rfl rfl rfl (ow_loud rfl rfl rfl ?_))))))) 
      refine ow_skip rfl (ow_skip rfl (ow_skip rfl (ow_skip rfl (ow_skip rfl (ow_loud (v := .bool true) rfl rfl rfl (ow_loud rfl rfl rfl ?_))))))
      refine ow_skip rfl (ow_skip rfl (ow_skip rfl (ow_skip rfl (ow_skip rfl (ow_skip rfl (ow_skip rfl (ow_loud (v := .bool true) rfl rfl rfl (ow_nil ?_))))))))
      refine aw_true rfl (aw_seq (aw_reg (ow_loud rfl rfl rfl (ow_loud rfl rfl rfl (ow_nil (aw_ret ?_))))))
      exact ⟨rfl, _, rfl, ⟨.nilptr, rfl⟩, hK⟩
    | true =>
      refine ow_call rfl rfl rfl ((tree52 ht (by omega) hget hN2).mono fun v s3 hv => ⟨rfl, ?_⟩)
      obtain ⟨g', rfl, hT, hgl, hO⟩ := hv
      have hK : Keeps s0 s3 := hk1.trans (Keeps.only hk2 hfree fun k o hk e => ⟨o, hO k o hk e, Or.refl o⟩)
      have hA : At s3 1 (.ptr s1.nx (Nat.add 0 1) 0) [.int .i64 1] := ⟨_, _, _, rfl, by unfold cellsAt; rw [hgl]; rfl⟩
      have hA2 : At s3 1 (.ptr g' (Nat.add (Nat.add 0 0) 1) 0) [.int .i64 t] := ⟨_, _, _, rfl, by unfold cellsAt; rw [hT]; rfl⟩
      refine ow_loud rfl rfl rfl (ow_nil (aw_seq (aw_seq (aw_reg (ow_loud rfl rfl rfl (ow_loud (v := .bool false) rfl rfl rfl (ow_loud rfl rfl rfl ?_))))))) 
      refine ow_loud (v := .ptr s1.nx (Nat.add 0 1) 0) rfl rfl rfl (ow_loud (hA.one rfl) rfl rfl (ow_loud rfl rfl rfl (ow_loud rfl rfl rfl (ow_loud (neq_int (k := .i64) (a := 1) (b := 1) (q := false) rfl rfl rfl) rfl rfl (ow_loud (v := .bool false) rfl rfl rfl (ow_loud rfl rfl rfl ?_))))))
      refine ow_loud rfl rfl rfl (ow_loud rfl rfl rfl (ow_loud rfl rfl rfl (ow_loud (v := .ptr g' (Nat.add (Nat.add 0 0) 1) 0) rfl rfl rfl (ow_loud (hA2.one rfl) rfl rfl (ow_loud rfl rfl rfl (ow_loud (neq_int (k := .i64) (a := t) (b := t) (q := false) rfl rfl (by simp)) rfl rfl (ow_loud (v := .bool false) rfl rfl rfl (ow_nil ?_))))))))
      refine aw_false rfl (aw_skip (aw_seq (aw_reg (ow_loud rfl rfl rfl (ow_loud rfl rfl rfl (ow_loud rfl rfl rfl ?_))))))
      refine ow_call rfl rfl rfl ((made46 (hD.keeps hK) hx hnil (valid_n hv) (fun j hj => valid_al hv hj) ht hT).mono fun v s4 hv => ⟨rfl, ?_⟩)
      obtain ⟨⟨p, rfl⟩, hk4⟩ := hv
      refine ow_loud rfl rfl rfl (ow_loud rfl rfl rfl (ow_loud rfl rfl rfl (ow_loud rfl rfl rfl (ow_nil (aw_ret ?_)))))
      exact ⟨rfl, _, rfl, ⟨p, rfl⟩, hK.trans hk4⟩
end
end Go.Proofs.YteoeidhcmcacbaaGreatDoor.movesLetters
/-
  The moves, as a list.
-/
namespace Go.Proofs.YteoeidhcmcacbaaGreatDoor.movesLetters
open Go Go.Avm

/-! ### the list -/
def ask (nm : List Nat) (k v : Nat) : List AVal := [.str nm, .int .i64 (.ofNat k), .bool false, .int .i64 (.ofNat v), .bool false]
def asks (nm : List Nat) (k c : Nat) : List (List AVal) := (List.range c).map (ask nm k)
theorem asks_succ (nm : List Nat) (k c : Nat) : asks nm k (c + 1) = asks nm k c ++ [ask nm k c] := by unfold asks; rw [List.range_succ, List.map_append]; rfl
def part (nm : List Nat) (k c : Nat) (ty : Int) : List (List AVal) := asks nm k c ++ answers (ask nm k 0) (vals ty)
def partK (D : DS) (j : Nat) : Nat → List (List AVal)
  | 0 => part (D.nm j) 0 (rowsN (D.ar j) (D.al j)) (D.rs j)
  | k + 1 => if D.ar j k = 2 then [] else part (D.nm j) (k + 1) 1 (D.ar j k)
def partsTo (D : DS) (j : Nat) : Nat → List (List AVal)
  | 0 => []
  | k + 1 => partsTo D j k ++ partK D j k
def declsTo (D : DS) (π : Nat → Nat) : Nat → List (List AVal)
  | 0 => []
  | i + 1 => declsTo D π i ++ partsTo D (π i) (D.al (π i) + 1)
def mDone : List AVal := [.str [], .int .i64 0, .bool false, .int .i64 0, .bool true]
def heads (t : Int) : List (List AVal) := [mB] ++ answers mB (vals t) ++ [mDone]
noncomputable def letters (D : DS) (t : Int) : List (List AVal) := heads t ++ declsTo D (srt D.lt D.n) D.n

/-! ### how long it is -/
theorem vals_le (t : Int) : vals t ≤ 4 := by unfold vals; split <;> omega
theorem answers_length (m : List AVal) (k : Nat) : (answers m k).length = k := by unfold answers; simp
theorem asks_length (nm : List Nat) (k c : Nat) : (asks nm k c).length = c := by unfold asks; simp
theorem partK_length {D : DS} {j : Nat} (h : D.al j ≤ 3) (k : Nat) : (partK D j k).length ≤ 68 := by
  have hp : ∀ (nm : List Nat) (k c : Nat) (ty : Int), (part nm k c ty).length ≤ c + 4 := fun nm k c ty => by
    unfold part
    rw [List.length_append, asks_length, answers_length]
    have := vals_le ty; omega
  cases k with
  | zero =>
    have := hp (D.nm j) 0 (rowsN (D.ar j) (D.al j)) (D.rs j)
    have := rowsN_64 (D.ar j) h
    show (part _ _ _ _).length ≤ 68
    omega
  | succ k =>
    show (if D.ar j k = 2 then [] else part (D.nm j) (k + 1) 1 (D.ar j k)).length ≤ 68
    split
    · simp
    · have := hp (D.nm j) (k + 1) 1 (D.ar j k); omega
theorem partsTo_length {D : DS} {j : Nat} (h : D.al j ≤ 3) : ∀ k, (partsTo D j k).length ≤ 68 * k
  | 0 => by simp [partsTo]
  | k + 1 => by
    have := partsTo_length h k
    have := partK_length h k
    rw [partsTo, List.length_append]; omega
theorem declsTo_length {D : DS} {π : Nat → Nat} : ∀ i, (∀ j, j < i → D.al (π j) ≤ 3) → (declsTo D π i).length ≤ 272 * i
  | 0, _ => by simp [declsTo]
  | i + 1, h => by
    have := declsTo_length (D := D) (π := π) i fun j hj => h j (by omega)
    have h3 := h i (by omega)
    have := partsTo_length h3 (D.al (π i) + 1)
    rw [declsTo, List.length_append]; omega
theorem heads_length (t : Int) : (heads t).length ≤ 6 := by
  unfold heads
  rw [List.length_append, List.length_append, answers_length]
  have := vals_le t
  simp; omega

/-! ### moves -/
theorem mv_of (nm : List Nat) (k : Int) (b : Bool) (v : Int) (e : Bool) : Mv [.str nm, .int .i64 k, .bool b, .int .i64 v, .bool e] := ⟨rfl, rfl, rfl⟩
theorem mvs_asks (nm : List Nat) (k c : Nat) : Mvs (asks nm k c) := fun m hm => by
  unfold asks at hm
  obtain ⟨v, _, rfl⟩ := List.mem_map.1 hm
  exact mv_of _ _ _ _ _

/-! ### a row of moves of ours -/
def MineL (s0 s : AS) (x : AVal) (l : List (List AVal)) : Prop := Mvs l ∧ Mine s0 s 5 x l.length (lf l)
section
variable {s0 s s' : AS} {x : AVal} {l : List (List AVal)}
theorem MineL.keeps (h : MineL s0 s x l) (k : Keeps s s') : MineL s0 s' x l := ⟨h.1, h.2.keeps k⟩
theorem MineL.ownL (h : MineL s0 s x l) : OwnL s x l := ⟨h.1, h.2.own⟩
theorem MineL.grows (h : MineL s0 s x l) {g : Nat} (hg : Go.Proofs.YteoeidhcmcacbaaGreatDoor.movesLetters.rowOf x = some g) {l' : List (List AVal)} {r : AVal} (k : Grows s g l' r s') : MineL s0 s' r l' := by
  obtain ⟨⟨h1, h2⟩, G⟩ := k
  obtain ⟨g', hg', hl⟩ := h.2.place
  rw [hg] at hg'
  obtain rfl : g = g' := Option.some.inj hg'
  refine ⟨h1, h2, fun j o e => ?_, ?_⟩
  · obtain ⟨o1, e1, e2⟩ := h.2.keep j o e
    obtain ⟨o2, e3, e4⟩ := G.keep j o1 (by have := AS.lt_of_get e; omega) e1
    exact ⟨o2, e3, e2.comp e4⟩
  · obtain ⟨g2, h3, h4⟩ := G.place
    have := h.2.le
    exact ⟨g2, h3, by omega⟩
theorem MineL.lift : LiftR (fun r s => MineL s0 s r l) := fun v s v' s' h hv hS => ⟨h.1, Mine.lift v s v' s' h.2 hv hS⟩
end
section
variable {tab : Nat → Option AFn} {Q : Ex → Fr → AS → Prop} {fr : Fr} {s s0 : AS}
/-- One move more. -/
theorem ow_move {o1 o2 : AOper} {rest : List AOper} {m : List AVal} {d : Nat} {a y : Opd} {x : AVal} {l : List (List AVal)} (h1 : o1.op = .lit 1 5 mB [(0, 5, y)]) (h2 : o2.op = .app 5 a (.t d)) (hd1 : o1.dst = some d) (hg1 : o1.guard = none) (hg2 : o2.guard = none) (hc1 : o1.chk = []) (hc2 : o2.chk = [])
    (hm : Mv m) (hy : fr.ev y = .agg m) (ha : ∀ v, (fr.put (some d) v).ev a = x) (H : MineL s0 s x l) (hN : l.length < 4000000000)
    (k : ∀ v x' s', MineL s0 s' x' (l ++ [m]) → KeepsC s s' → Ow tab rest ((fr.put (some d) v).put o2.dst x') s' Q) : Ow tab (o1 :: o2 :: rest) fr s Q := by
  refine ow_more h1 h2 hd1 hg1 hg2 hc1 hc2 rfl hm.len hm.one hm.sol hy ha H.2 (by omega) (by omega) (by omega) fun v x' s' H' hK => k v x' s' ⟨H.1.append (.one hm), ?_⟩ hK
  rw [show (l ++ [m]).length = l.length + 1 by simp]
  refine H'.congr (lf_len (H.1.append (.one hm))) fun j hj => ?_
  unfold appF lf
  by_cases e : j < l.length
  · rw [if_pos e, List.getElem?_append_left e]
  · rw [if_neg e, List.getElem?_append_right (by omega), show j - l.length = 0 by omega]; rfl
/-- The first move. -/
theorem ow_first {o1 : AOper} {rest : List AOper} {m : List AVal} {y : Opd} (h1 : o1.op = .lit 1 5 mB [(0, 5, y)]) (hg1 : o1.guard = none) (hc1 : o1.chk = []) (hm : Mv m) (hy : fr.ev y = .agg m)
    (k : ∀ s', MineL s s' (.slice s.nx 0 1 5 0 (some 1)) [m] → Ow tab rest (fr.put o1.dst (.slice s.nx 0 1 5 0 (some 1))) s' Q) : Ow tab (o1 :: rest) fr s Q := by
  refine ow_loud (v := .slice s.nx 0 1 5 0 (some 1)) (s' := s.new (oneRow m)) (by rw [h1]; exact lit_one rfl (by rw [hy]; rfl) (by rw [hy]; rfl) hm.len hm.one) (by rw [hg1]; rfl) (by rw [hc1]; rfl) (k _ ⟨.one hm, ⟨lf_len (.one hm), fun j hj => ?_, fun j hj => ?_, s.nx, 0, some 1, [], rfl, ?_, .inr rfl⟩, .new s _, s.nx, rfl, Nat.le_refl _⟩)
  · have : j < 1 := hj
    obtain rfl : j = 0 := by omega
    exact hm.one
  · have : j < 1 := hj
    obtain rfl : j = 0 := by omega
    exact hm.sol
  · rw [AS.get_new, if_pos rfl]
    unfold oneRow
    rw [llen_eq, hm.len]
    rfl
end
end Go.Proofs.YteoeidhcmcacbaaGreatDoor.movesLetters
/-
  ref04.Letters.
-/
namespace Go.Proofs.YteoeidhcmcacbaaGreatDoor.movesLetters
open Go Go.Avm

theorem leq_nat {fr : Fr} {s : AS} {x y : Opd} {n m : Nat} {b : Bool} (hx : fr.ev x = .int .i64 (.ofNat n)) (hy : fr.ev y = .int .i64 (.ofNat m)) (hb : decide (n ≤ m) = b) : loud fr s (.bin .leq .prim x y) = some (.bool b, s) := by
  show (match binop .leq .prim (fr.ev x) (fr.ev y) with | some v => some (v, s) | none => none) = _
  rw [hx, hy]
  show some (AVal.bool (!bltI (.ofNat m) (.ofNat n)), s) = _
  rw [ltI, ← hb]
  congr 3
  by_cases h : n ≤ m
  · rw [decide_eq_true h, decide_eq_false (by omega)]; rfl
  · rw [decide_eq_false h, decide_eq_true (by omega)]; rfl
def b8 : AC := bodyOf T.a8
def m8_0 : AC := inn (inn (tl (hd (aft 3 b8))))
def m8_2 : AC := inn (inn (tl (hd (aft 6 b8))))
def m8_3 : AC := inn (hd (tl m8_2))
def m8_4 : AC := inn (inn (tl m8_3))
def m8_5 : AC := inn (hd (tl m8_4))
def m8_6 : AC := inn (inn (tl (hd (aft 4 m8_5))))
def m8_8 : AC := inn (inn (tl (aft 5 m8_5)))
theorem ok8_0 : (AC.loop m8_0).ok = true := by decide +kernel
theorem ok8_2 : (AC.loop m8_2).ok = true := by decide +kernel
theorem ok8_4 : (AC.loop m8_4).ok = true := by decide +kernel
theorem ok8_6 : (AC.loop m8_6).ok = true := by decide +kernel
theorem ok8_8 : (AC.loop m8_8).ok = true := by decide +kernel
theorem ok8_a : (aft 4 b8).ok = true := by decide +kernel
theorem ok8_b : (aft 7 b8).ok = true := by decide +kernel
theorem ok8_c : (tl (tl m8_2)).ok = true := by decide +kernel
theorem ok8_d : (tl (tl m8_4)).ok = true := by decide +kernel
theorem ok8_e : (aft 5 m8_5).ok = true := by decide +kernel
theorem ok8_f : (aft 3 m8_5).ok = true := by decide +kernel
section
variable {D : DS} {x y : AVal} {a : Nat → AVal} {s0 : AS} {π : Nat → Nat} {i : Nat} {Q : Ex → Fr → AS → Prop}
/-- The sorted row. -/
def Srt (s : AS) (y : AVal) (D : DS) (a : Nat → AVal) (π : Nat → Nat) : Prop := Sl s 3 y D.n (fun j => D.cell a (π j))
section
theorem Srt.keeps (hs : ∀ j, j < D.n → solids (D.cell a (π j)) = true) {s s' : AS} (h : Srt s y D a π) (k : Keeps s s') : Srt s' y D a π := Sl.keeps h hs k
theorem Srt.keepsC (hs : ∀ j, j < D.n → solids (D.cell a (π j)) = true) {s s' : AS} (h : Srt s y D a π) (k : KeepsC s s') : Srt s' y D a π := Sl.keepsC h (fun _ => rfl) hs k
theorem loop8_6 (hs : ∀ j, j < D.n → solids (D.cell a (π j)) = true) (hi : i < D.n) (hQ : Lift1 Q) {k c : Nat} {ty : Int} {l : List (List AVal)} (hl : l.length + c < 3000000000) (hend : ∀ s r, MineL s0 s r (l ++ asks (D.nm (π i)) k c) → Srt s y D a π → ∀ fr : Fr, fr.df = [] → fr.get 5 = r → fr.get 7 = y → fr.get 8 = .int .i64 (.ofNat i) → fr.get 9 = .int .i64 (.ofNat k) → fr.get 10 = .int .i64 ty → Q .nrm fr s) : ∀ (m v : Nat) (s : AS) (r : AVal), v + m = c → MineL s0 s r (l ++ asks (D.nm (π i)) k v) → Srt s y D a π →
    Wp T.tab (.loop m8_6) (mkF [(5, r), (7, y), (8, .int .i64 (.ofNat i)), (9, .int .i64 (.ofNat k)), (10, .int .i64 ty), (11, .int .i64 (.ofNat c)), (12, .int .i64 (.ofNat v))]) s (Out.of 6 Q) := by
  intro m
  induction m with
  | zero =>
    intro v s r hv H hS
    obtain rfl : v = c := by omega
    refine aw_loop_step ?_
    show Wp T.tab (.seq (.seq (.reg (ops (hd (hd m8_6)))) (tl (hd m8_6))) (tl m8_6)) _ _ _
    refine aw_seq (aw_seq (aw_reg (ow_loud rfl rfl rfl (ow_loud rfl rfl rfl (ow_loud (lss_nat (n := v) (m := v) rfl rfl (decide_eq_false (by omega))) rfl rfl (ow_nil (aw_false rfl (aw_exit ?_))))))))
    exact hend s r H hS _ rfl rfl rfl rfl rfl rfl
  | succ m ih =>
    intro v s r hv H hS
    refine aw_loop_step ?_
    show Wp T.tab (.seq (.seq (.reg (ops (hd (hd m8_6)))) (tl (hd m8_6))) (.seq (.block 7 (.reg (ops (inn (hd (tl m8_6)))))) (.reg (ops (tl (tl m8_6)))))) _ _ _
    refine aw_seq (aw_seq (aw_reg (ow_loud rfl rfl rfl (ow_loud rfl rfl rfl (ow_loud (lss_nat (n := v) (m := c) rfl rfl (decide_eq_true (by omega))) rfl rfl (ow_nil (aw_true rfl (aw_skip ?_))))))))
    refine aw_seq (aw_block (aw_reg (ow_loud rfl rfl rfl (ow_loud rfl rfl rfl (ow_loud rfl rfl rfl ?_)))))
    refine ow_ex (Sl.at hS (i := i) (fun _ => rfl) hi rfl rfl) rfl (fun _ => rfl) fun p1 hp1 => ?_
    refine ow_ex (hp1.field (j := 0) (y := .str (D.nm (π i))) rfl rfl rfl) rfl (fun _ => rfl) fun p2 hp2 => ?_
    refine ow_loud (hp2.one rfl) rfl rfl (ow_loud rfl rfl rfl (ow_loud rfl rfl rfl (ow_loud (v := .agg (ask (D.nm (π i)) k v)) rfl rfl rfl ?_)))
    refine ow_move (m := ask (D.nm (π i)) k v) rfl rfl rfl rfl rfl rfl rfl (mv_of _ _ _ _ _) rfl (fun _ => rfl) H (by rw [List.length_append, asks_length]; omega) fun u r' s' H' hK => ?_
    rw [List.append_assoc, ← asks_succ] at H'
    refine ow_loud rfl rfl rfl (ow_nil (aw_reg (ow_loud rfl rfl rfl (ow_loud (add_nat (n := v) (k := 1) rfl rfl (by omega)) rfl rfl (ow_loud rfl rfl rfl (ow_nil ?_))))))
    exact aw_lose T.tabR ok8_6 (Lift1.out hQ 6) (l := [(5, r'), (7, y), (8, .int .i64 (.ofNat i)), (9, .int .i64 (.ofNat k)), (10, .int .i64 ty), (11, .int .i64 (.ofNat c)), (12, .int .i64 (.ofNat (v + 1)))]) ⟨Vr.refl _, Vr.refl _, Vr.refl _, Vr.refl _, Vr.refl _, Vr.refl _, Vr.refl _, trivial⟩ rfl (ih (v + 1) s' r' (by omega) H' (Srt.keepsC hs hS hK))
theorem loop8_8 (hs : ∀ j, j < D.n → solids (D.cell a (π j)) = true) (hi : i < D.n) (hQ : Lift1 Q) {k : Nat} {ty : Int} {l : List (List AVal)} (hl : l.length < 3000000000) (hend : ∀ s r, MineL s0 s r (l ++ answers (ask (D.nm (π i)) k 0) (vals ty)) → Srt s y D a π → ∀ fr : Fr, fr.df = [] → fr.get 5 = r → fr.get 7 = y → fr.get 8 = .int .i64 (.ofNat i) → fr.get 9 = .int .i64 (.ofNat k) → Q .nrm fr s) : ∀ (m v : Nat) (s : AS) (r : AVal), v + m = vals ty → MineL s0 s r (l ++ answers (ask (D.nm (π i)) k 0) v) → Srt s y D a π →
    Wp T.tab (.loop m8_8) (mkF [(5, r), (7, y), (8, .int .i64 (.ofNat i)), (9, .int .i64 (.ofNat k)), (10, .int .i64 ty), (13, .int .i64 (.ofNat v))]) s (Out.of 8 Q) := by
  intro m
  induction m with
  | zero =>
    intro v s r hv H hS
    obtain rfl : v = vals ty := by omega
    refine aw_loop_step ?_
    show Wp T.tab (.seq (.seq (.reg (ops (hd (hd m8_8)))) (tl (hd m8_8))) (tl m8_8)) _ _ _
    refine aw_seq (aw_seq (aw_reg (ow_loud rfl rfl rfl (ow_loud rfl rfl rfl ?_))))
    refine ow_call rfl rfl rfl ((values20 ty s).mono fun v s1 hv => ⟨rfl, ?_⟩)
    obtain ⟨rfl, hk⟩ := hv
    refine ow_loud (lss_nat (n := vals ty) (m := vals ty) rfl rfl (decide_eq_false (by omega))) rfl rfl (ow_nil (aw_false rfl (aw_exit ?_)))
    exact hend s1 r (H.keeps hk) (Srt.keeps hs hS hk) _ rfl rfl rfl rfl rfl
  | succ m ih =>
    intro v s r hv H hS
    have hv4 := vals_le ty
    refine aw_loop_step ?_
    show Wp T.tab (.seq (.seq (.reg (ops (hd (hd m8_8)))) (tl (hd m8_8))) (.seq (.block 9 (.reg (ops (inn (hd (tl m8_8)))))) (.reg (ops (tl (tl m8_8)))))) _ _ _
    refine aw_seq (aw_seq (aw_reg (ow_loud rfl rfl rfl (ow_loud rfl rfl rfl ?_))))
    refine ow_call rfl rfl rfl ((values20 ty s).mono fun v s1 hv => ⟨rfl, ?_⟩)
    obtain ⟨rfl, hk⟩ := hv
    have H1 := H.keeps hk
    have hS1 := Srt.keeps hs hS hk
    refine ow_loud (lss_nat (n := v) (m := vals ty) rfl rfl (decide_eq_true (by omega))) rfl rfl (ow_nil (aw_true rfl (aw_skip ?_)))
    refine aw_seq (aw_block (aw_reg (ow_loud rfl rfl rfl (ow_loud rfl rfl rfl (ow_loud rfl rfl rfl ?_)))))
    refine ow_ex (Sl.at hS1 (i := i) (fun _ => rfl) hi rfl rfl) rfl (fun _ => rfl) fun p1 hp1 => ?_
    refine ow_ex (hp1.field (j := 0) (y := .str (D.nm (π i))) rfl rfl rfl) rfl (fun _ => rfl) fun p2 hp2 => ?_
    refine ow_loud (hp2.one rfl) rfl rfl (ow_loud rfl rfl rfl (ow_loud rfl rfl rfl (ow_loud (v := .agg (ans (ask (D.nm (π i)) k 0) v)) rfl rfl rfl ?_)))
    refine ow_move (m := ans (ask (D.nm (π i)) k 0) v) rfl rfl rfl rfl rfl rfl rfl (mv_of _ _ _ _ _) rfl (fun _ => rfl) H1 (by rw [List.length_append, answers_length]; omega) fun u r' s' H' hK => ?_
    rw [List.append_assoc, ← answers_succ] at H'
    refine ow_loud rfl rfl rfl (ow_nil (aw_reg (ow_loud rfl rfl rfl (ow_loud (add_nat (n := v) (k := 1) rfl rfl (by omega)) rfl rfl (ow_loud rfl rfl rfl (ow_nil ?_))))))
    exact aw_lose T.tabR ok8_8 (Lift1.out hQ 8) (l := [(5, r'), (7, y), (8, .int .i64 (.ofNat i)), (9, .int .i64 (.ofNat k)), (10, .int .i64 ty), (13, .int .i64 (.ofNat (v + 1)))]) ⟨Vr.refl _, Vr.refl _, Vr.refl _, Vr.refl _, Vr.refl _, Vr.refl _, trivial⟩ rfl (ih (v + 1) s' r' (by omega) H' (Srt.keepsC hs hS1 hK))
/-- What is put for an argument, or for the result: from the look whether it is a command's. -/
theorem tail8 (hs : ∀ j, j < D.n → solids (D.cell a (π j)) = true) (hi : i < D.n) (hQ : Lift1 Q) {k c : Nat} {ty : Int} {l : List (List AVal)} (hl : l.length + c < 2000000000) (hty : ty ≠ 2) {s : AS} {r : AVal} (H : MineL s0 s r l) (hS : Srt s y D a π)
    (hend : ∀ s r, MineL s0 s r (l ++ part (D.nm (π i)) k c ty) → Srt s y D a π → ∀ fr : Fr, fr.df = [] → fr.get 5 = r → fr.get 7 = y → fr.get 8 = .int .i64 (.ofNat i) → fr.get 9 = .int .i64 (.ofNat k) → Q .nrm fr s) :
    Wp T.tab (aft 3 m8_5) (mkF [(5, r), (7, y), (8, .int .i64 (.ofNat i)), (9, .int .i64 (.ofNat k)), (10, .int .i64 ty), (11, .int .i64 (.ofNat c))]) s Q := by
  show Wp T.tab (.seq (.seq (.reg (ops (hd (hd (aft 3 m8_5))))) (.cond (.t 83) (.exit 5) .skip)) (.seq (.seq (.reg (ops (hd (hd (aft 4 m8_5))))) (.block 6 (.loop m8_6))) (aft 5 m8_5))) _ _ _
  refine aw_seq (aw_seq (aw_reg (ow_loud rfl rfl rfl (ow_loud (eql_int (k := .i64) (a := ty) (b := 2) rfl rfl (decide_eq_false hty)) rfl rfl (ow_nil (aw_false rfl (aw_skip (aw_seq (aw_seq (aw_reg (ow_loud rfl rfl rfl (ow_nil (aw_block ?_)))))))))))) )
  have hQ5 : Lift1 (Then T.tab (aft 5 m8_5) Q) := Lift1.andThen T.tabR ok8_e hQ
  refine aw_lose T.tabR ok8_6 (Lift1.out hQ5 6) (l := [(5, r), (7, y), (8, .int .i64 (.ofNat i)), (9, .int .i64 (.ofNat k)), (10, .int .i64 ty), (11, .int .i64 (.ofNat c)), (12, .int .i64 (.ofNat 0))]) ⟨Vr.refl _, Vr.refl _, Vr.refl _, Vr.refl _, Vr.refl _, Vr.refl _, Vr.refl _, trivial⟩ rfl
    (loop8_6 hs hi hQ5 (l := l) (by omega) (fun s1 r1 H1 hS1 fr hdf h5 h7 h8 h9 h10 => ?_) c 0 s r (by omega) (by rw [show l ++ asks (D.nm (π i)) k 0 = l by simp [asks]]; exact H) hS)
  show Wp T.tab (aft 5 m8_5) fr s1 Q
  refine aw_lose T.tabR ok8_e hQ (l := [(5, r1), (7, y), (8, .int .i64 (.ofNat i)), (9, .int .i64 (.ofNat k)), (10, .int .i64 ty)]) ⟨by rw [h5]; exact Vr.refl _, by rw [h7]; exact Vr.refl _, by rw [h8]; exact Vr.refl _, by rw [h9]; exact Vr.refl _, by rw [h10]; exact Vr.refl _, trivial⟩ hdf ?_
  show Wp T.tab (.seq (.reg (ops (hd (aft 5 m8_5)))) (.block 8 (.loop m8_8))) _ _ _
  refine aw_seq (aw_reg (ow_loud rfl rfl rfl (ow_nil (aw_block ?_))))
  refine aw_lose T.tabR ok8_8 (Lift1.out hQ 8) (l := [(5, r1), (7, y), (8, .int .i64 (.ofNat i)), (9, .int .i64 (.ofNat k)), (10, .int .i64 ty), (13, .int .i64 (.ofNat 0))]) ⟨Vr.refl _, Vr.refl _, Vr.refl _, Vr.refl _, Vr.refl _, Vr.refl _, trivial⟩ rfl
    (loop8_8 hs hi hQ (l := l ++ asks (D.nm (π i)) k c) (by rw [List.length_append, asks_length]; omega) (fun s2 r2 H2 hS2 fr hdf h5 h7 h8 h9 => hend s2 r2 (by unfold part; rw [← List.append_assoc]; exact H2) hS2 fr hdf h5 h7 h8 h9) (vals ty) 0 s1 r1 (by omega) (by rw [show l ++ asks (D.nm (π i)) k c ++ answers (ask (D.nm (π i)) k 0) 0 = l ++ asks (D.nm (π i)) k c by simp [answers]]; exact H1) hS1)
end
end
end Go.Proofs.YteoeidhcmcacbaaGreatDoor.movesLetters
/-
  ref04.Letters.
-/
namespace Go.Proofs.YteoeidhcmcacbaaGreatDoor.movesLetters
open Go Go.Avm

section
variable {D : DS} {x y : AVal} {a : Nat → AVal} {s0 : AS} {π : Nat → Nat} {i : Nat} {Q : Ex → Fr → AS → Prop}
theorem loop8_4 (hs : ∀ j, j < D.n → solids (D.cell a (π j)) = true) (hi : i < D.n) (hQ : Lift1 Q) (hD : Decls s0 x D a) (hπ : π i < D.n) (hal : D.al (π i) ≤ 3) (hrs : D.rs (π i) ≠ 2) {l : List (List AVal)} (hl : l.length < 1000000000)
    (hend : ∀ s r, MineL s0 s r (l ++ partsTo D (π i) (D.al (π i) + 1)) → Srt s y D a π → ∀ fr : Fr, fr.df = [] → fr.get 5 = r → fr.get 7 = y → fr.get 8 = .int .i64 (.ofNat i) → Q .nrm fr s) : ∀ (m k : Nat) (s : AS) (r : AVal), k + m = D.al (π i) + 1 → MineL s0 s r (l ++ partsTo D (π i) k) → Srt s y D a π →
    Wp T.tab (.loop m8_4) (mkF [(5, r), (7, y), (8, .int .i64 (.ofNat i)), (9, .int .i64 (.ofNat k))]) s (Out.of 4 Q) := by
  have hQ4 : Lift1 (Out.of 4 Q) := Lift1.out hQ 4
  have hQ4' : Lift1 (Then T.tab (.loop m8_4) (Out.of 4 Q)) := Lift1.andThen T.tabR ok8_4 hQ4
  have hQ5 : Lift1 (Out.of 5 (Then T.tab (tl (tl m8_4)) (Then T.tab (.loop m8_4) (Out.of 4 Q)))) := Lift1.out (Lift1.andThen T.tabR ok8_d hQ4') 5
  intro m
  induction m with
  | zero =>
    intro k s r hk H hS
    have hA := (hD.keeps H.2.keep).args (π i) hπ
    obtain rfl : k = D.al (π i) + 1 := by omega
    refine aw_loop_step ?_
    show Wp T.tab (.seq (.seq (.reg (ops (hd (hd m8_4)))) (tl (hd m8_4))) (tl m8_4)) _ _ _
    refine aw_seq (aw_seq (aw_reg (ow_loud rfl rfl rfl (ow_loud rfl rfl rfl (ow_loud rfl rfl rfl ?_)))))
    refine ow_ex (Sl.at hS (i := i) (fun _ => rfl) hi rfl rfl) rfl (fun _ => rfl) fun p1 hp1 => ?_
    refine ow_ex (hp1.field (j := 1) (y := a (π i)) rfl rfl rfl) rfl (fun _ => rfl) fun p2 hp2 => ?_
    refine ow_loud (hp2.one rfl) rfl rfl (ow_loud (hA.len rfl) rfl rfl ?_)
    refine ow_loud (leq_nat (n := D.al (π i) + 1) (m := D.al (π i)) rfl rfl (decide_eq_false (by omega))) rfl rfl (ow_nil (aw_false rfl (aw_exit ?_)))
    exact hend s r H hS _ rfl rfl rfl rfl
  | succ m ih =>
    intro k s r hk H hS
    have hA := (hD.keeps H.2.keep).args (π i) hπ
    have hnext : ∀ s r, MineL s0 s r (l ++ partsTo D (π i) (k + 1)) → Srt s y D a π → ∀ fr : Fr, fr.df = [] → fr.get 5 = r → fr.get 7 = y → fr.get 8 = .int .i64 (.ofNat i) → fr.get 9 = .int .i64 (.ofNat k) → Wp T.tab (tl (tl m8_4)) fr s (Then T.tab (.loop m8_4) (Out.of 4 Q)) := fun s1 r1 H1 hS1 fr hdf h5 h7 h8 h9 => by
      refine aw_lose T.tabR ok8_d hQ4' (l := [(5, r1), (7, y), (8, .int .i64 (.ofNat i)), (9, .int .i64 (.ofNat k))]) ⟨by rw [h5]; exact Vr.refl _, by rw [h7]; exact Vr.refl _, by rw [h8]; exact Vr.refl _, by rw [h9]; exact Vr.refl _, trivial⟩ hdf ?_
      show Wp T.tab (.reg (ops (tl (tl m8_4)))) _ _ _
      refine aw_reg (ow_loud rfl rfl rfl (ow_loud (add_nat (n := k) (k := 1) rfl rfl (by omega)) rfl rfl (ow_loud rfl rfl rfl (ow_nil ?_))))
      exact aw_lose T.tabR ok8_4 hQ4 (l := [(5, r1), (7, y), (8, .int .i64 (.ofNat i)), (9, .int .i64 (.ofNat (k + 1)))]) ⟨Vr.refl _, Vr.refl _, Vr.refl _, Vr.refl _, trivial⟩ rfl (ih (k + 1) s1 r1 (by omega) H1 hS1)
    have hlen := partsTo_length (D := D) hal k
    refine aw_loop_step ?_
    show Wp T.tab (.seq (.seq (.reg (ops (hd (hd m8_4)))) (tl (hd m8_4))) (.seq (.block 5 (.seq (.reg (ops (hd m8_5))) (.seq (.reg (ops (hd (aft 1 m8_5)))) (.seq (.seq (.reg (ops (hd (hd (aft 2 m8_5))))) (.cond (.t 72) (.seq (.reg (ops (hd (thn (tl (hd (aft 2 m8_5))))))) (.reg [⟨some 11,(.mov (.c (.int .i64 (1)))),none,[],[]⟩])) .skip)) (aft 3 m8_5))))) (tl (tl m8_4)))) _ _ _
    refine aw_seq (aw_seq (aw_reg (ow_loud rfl rfl rfl (ow_loud rfl rfl rfl (ow_loud rfl rfl rfl ?_)))))
    refine ow_ex (Sl.at hS (i := i) (fun _ => rfl) hi rfl rfl) rfl (fun _ => rfl) fun p1 hp1 => ?_
    refine ow_ex (hp1.field (j := 1) (y := a (π i)) rfl rfl rfl) rfl (fun _ => rfl) fun p2 hp2 => ?_
    refine ow_loud (hp2.one rfl) rfl rfl (ow_loud (hA.len rfl) rfl rfl ?_)
    refine ow_loud (leq_nat (n := k) (m := D.al (π i)) rfl rfl (decide_eq_true (by omega))) rfl rfl (ow_nil (aw_true rfl (aw_skip ?_)))
    refine aw_seq (aw_block (aw_seq (aw_reg (ow_loud rfl rfl rfl (ow_loud rfl rfl rfl ?_)))))
    refine ow_ex (Sl.at hS (i := i) (fun _ => rfl) hi rfl rfl) rfl (fun _ => rfl) fun p3 hp3 => ?_
    refine ow_ex (hp3.field (j := 2) (y := .int .i64 (D.rs (π i))) rfl rfl rfl) rfl (fun _ => rfl) fun p4 hp4 => ?_
    refine ow_loud (hp4.one rfl) rfl rfl (ow_loud rfl rfl rfl (ow_nil (aw_seq (aw_reg (ow_loud rfl rfl rfl (ow_loud rfl rfl rfl ?_))))))
    refine ow_ex (Sl.at hS (i := i) (fun _ => rfl) hi rfl rfl) rfl (fun _ => rfl) fun p5 hp5 => ?_
    refine ow_ex (hp5.field (j := 1) (y := a (π i)) rfl rfl rfl) rfl (fun _ => rfl) fun p6 hp6 => ?_
    refine ow_loud (hp6.one rfl) rfl rfl ?_
    refine ow_call rfl rfl rfl ((rows22 hA hal).mono fun v s1 hv => ⟨rfl, ?_⟩)
    obtain ⟨rfl, hk1⟩ := hv
    have H1 := H.keeps hk1
    have hS1 := Srt.keeps hs hS hk1
    have hA1 := (hD.keeps H1.2.keep).args (π i) hπ
    have hr64 := rowsN_64 (D.ar (π i)) hal
    refine ow_loud rfl rfl rfl (ow_nil (aw_seq (aw_seq (aw_reg (ow_loud rfl rfl rfl ?_)))))
    cases k with
    | zero =>
      refine ow_loud (gtr_nat (n := 0) (m := 0) rfl rfl rfl) rfl rfl (ow_nil (aw_false rfl (aw_skip ?_)))
      refine aw_lose T.tabR ok8_f hQ5 (l := [(5, r), (7, y), (8, .int .i64 (.ofNat i)), (9, .int .i64 (.ofNat 0)), (10, .int .i64 (D.rs (π i))), (11, .int .i64 (.ofNat (rowsN (D.ar (π i)) (D.al (π i)))))]) ⟨Vr.refl _, Vr.refl _, Vr.refl _, Vr.refl _, Vr.refl _, Vr.refl _, trivial⟩ rfl ?_
      refine tail8 hs hi hQ5 (l := l ++ partsTo D (π i) 0) (by rw [List.length_append]; omega) hrs H1 hS1 fun s2 r2 H2 hS2 fr hdf h5 h7 h8 h9 => ?_
      rw [List.append_assoc] at H2
      exact hnext s2 r2 H2 hS2 fr hdf h5 h7 h8 h9
    | succ k =>
      refine ow_loud (gtr_nat (n := k + 1) (m := 0) rfl rfl (decide_eq_true (by omega))) rfl rfl (ow_nil (aw_true rfl (aw_seq (aw_reg (ow_loud rfl rfl rfl (ow_loud rfl rfl rfl ?_))))))
      refine ow_ex (Sl.at hS1 (i := i) (fun _ => rfl) hi rfl rfl) rfl (fun _ => rfl) fun p7 hp7 => ?_
      refine ow_ex (hp7.field (j := 1) (y := a (π i)) rfl rfl rfl) rfl (fun _ => rfl) fun p8 hp8 => ?_
      refine ow_loud (hp8.one rfl) rfl rfl (ow_loud rfl rfl rfl (ow_loud (sub_nat (n := k) rfl (by omega)) rfl rfl ?_))
      refine ow_ex (hA1.at (i := k) (fun _ => rfl) (by omega) rfl rfl) rfl (fun _ => rfl) fun p9 hp9 => ?_
      refine ow_loud (hp9.one rfl) rfl rfl (ow_loud rfl rfl rfl (ow_nil (aw_reg (ow_loud rfl rfl rfl (ow_nil ?_)))))
      by_cases h2 : D.ar (π i) k = 2
      · show Wp T.tab (.seq (.seq (.reg (ops (hd (hd (aft 3 m8_5))))) (.cond (.t 83) (.exit 5) .skip)) (aft 4 m8_5)) _ _ _
        refine aw_seq (aw_seq (aw_reg (ow_loud rfl rfl rfl (ow_loud (eql_int (k := .i64) (a := D.ar (π i) k) (b := 2) rfl rfl (decide_eq_true h2)) rfl rfl (ow_nil (aw_true rfl (aw_exit ?_)))))))
        refine hnext s1 r ?_ hS1 _ rfl rfl rfl rfl rfl
        rw [show partsTo D (π i) (k + 1 + 1) = partsTo D (π i) (k + 1) by
          show partsTo D (π i) (k + 1) ++ partK D (π i) (k + 1) = _
          rw [show partK D (π i) (k + 1) = [] from if_pos h2, List.append_nil]]
        exact H1
      · refine aw_lose T.tabR ok8_f hQ5 (l := [(5, r), (7, y), (8, .int .i64 (.ofNat i)), (9, .int .i64 (.ofNat (k + 1))), (10, .int .i64 (D.ar (π i) k)), (11, .int .i64 (.ofNat 1))]) ⟨Vr.refl _, Vr.refl _, Vr.refl _, Vr.refl _, Vr.refl _, Vr.refl _, trivial⟩ rfl ?_
        refine tail8 hs hi hQ5 (l := l ++ partsTo D (π i) (k + 1)) (by rw [List.length_append]; omega) h2 H1 hS1 fun s2 r2 H2 hS2 fr hdf h5 h7 h8 h9 => ?_
        rw [List.append_assoc, show part (D.nm (π i)) (k + 1) 1 (D.ar (π i) k) = partK D (π i) (k + 1) from (if_neg h2).symm] at H2
        exact hnext s2 r2 H2 hS2 fr hdf h5 h7 h8 h9
theorem loop8_2 (hs : ∀ j, j < D.n → solids (D.cell a (π j)) = true) (hD : Decls s0 x D a) (hn : D.n ≤ 4) (hπ : ∀ j, j < D.n → π j < D.n) (hal : ∀ j, j < D.n → D.al j ≤ 3) (hrs : ∀ j, j < D.n → D.rs j ≠ 2) {l : List (List AVal)} (hl : l.length < 1000) {R : AVal → AS → Prop} (hR : LiftR R) (hend : ∀ r s, MineL s0 s r (l ++ declsTo D π D.n) → R r s) : ∀ (m i : Nat) (s : AS) (r : AVal), i + m = D.n → MineL s0 s r (l ++ declsTo D π i) → Srt s y D a π →
    Wp T.tab (.loop m8_2) (mkF [(5, r), (7, y), (8, .int .i64 (.ofNat i))]) s (Out.of 2 (Then T.tab (aft 7 b8) (Res.of [.tmp 4] R))) := by
  have hQ : Lift1 (Out.of 2 (Then T.tab (aft 7 b8) (Res.of [.tmp 4] R))) := Lift1.out (Lift1.andThen T.tabR ok8_b (Lift1.res hR _)) 2
  intro m
  induction m with
  | zero =>
    intro i s r hi H hS
    obtain rfl : i = D.n := by omega
    refine aw_loop_step ?_
    show Wp T.tab (.seq (.seq (.reg (ops (hd (hd m8_2)))) (tl (hd m8_2))) (tl m8_2)) _ _ _
    refine aw_seq (aw_seq (aw_reg (ow_loud rfl rfl rfl (ow_loud rfl rfl rfl (ow_loud (Sl.len hS rfl) rfl rfl (ow_loud (lss_nat (n := D.n) (m := D.n) rfl rfl (decide_eq_false (by omega))) rfl rfl (ow_nil (aw_false rfl (aw_exit ?_)))))))))
    show Wp T.tab (.seq (.reg (ops (hd (aft 7 b8)))) .ret) _ _ _
    refine aw_seq (aw_reg (ow_loud rfl rfl rfl (ow_loud rfl rfl rfl (ow_nil (aw_ret ?_)))))
    exact ⟨rfl, r, rfl, hend r s H⟩
  | succ m ih =>
    intro i s r hi H hS
    have hin : i < D.n := by omega
    have hlen := declsTo_length (D := D) (π := π) i fun j hj => hal _ (hπ j (by omega))
    have hQ3 : Lift1 (Out.of 3 (Then T.tab (tl (tl m8_2)) (Then T.tab (.loop m8_2) (Out.of 2 (Then T.tab (aft 7 b8) (Res.of [.tmp 4] R)))))) := Lift1.out (Lift1.andThen T.tabR ok8_c (Lift1.andThen T.tabR ok8_2 hQ)) 3
    refine aw_loop_step ?_
    show Wp T.tab (.seq (.seq (.reg (ops (hd (hd m8_2)))) (tl (hd m8_2))) (.seq (.block 3 (.seq (.reg (ops (hd m8_3))) (.block 4 (.loop m8_4)))) (tl (tl m8_2)))) _ _ _
    refine aw_seq (aw_seq (aw_reg (ow_loud rfl rfl rfl (ow_loud rfl rfl rfl (ow_loud (Sl.len hS rfl) rfl rfl (ow_loud (lss_nat (n := i) (m := D.n) rfl rfl (decide_eq_true hin)) rfl rfl (ow_nil (aw_true rfl (aw_skip ?_)))))))))
    refine aw_seq (aw_block (aw_seq (aw_reg (ow_loud rfl rfl rfl (ow_nil (aw_block ?_))))))
    refine aw_lose T.tabR ok8_4 (Lift1.out hQ3 4) (l := [(5, r), (7, y), (8, .int .i64 (.ofNat i)), (9, .int .i64 (.ofNat 0))]) ⟨Vr.refl _, Vr.refl _, Vr.refl _, Vr.refl _, trivial⟩ rfl ?_
    refine loop8_4 hs hin hQ3 hD (hπ i hin) (hal _ (hπ i hin)) (hrs _ (hπ i hin)) (l := l ++ declsTo D π i) (by rw [List.length_append]; omega) (fun s1 r1 H1 hS1 fr hdf h5 h7 h8 => ?_) (D.al (π i) + 1) 0 s r (by omega) (by rw [show l ++ declsTo D π i ++ partsTo D (π i) 0 = l ++ declsTo D π i by simp [partsTo]]; exact H) hS
    show Wp T.tab (tl (tl m8_2)) fr s1 _
    rw [List.append_assoc] at H1
    refine aw_lose T.tabR ok8_c (Lift1.andThen T.tabR ok8_2 hQ) (l := [(5, r1), (7, y), (8, .int .i64 (.ofNat i))]) ⟨by rw [h5]; exact Vr.refl _, by rw [h7]; exact Vr.refl _, by rw [h8]; exact Vr.refl _, trivial⟩ hdf ?_
    show Wp T.tab (.reg (ops (tl (tl m8_2)))) _ _ _
    refine aw_reg (ow_loud rfl rfl rfl (ow_loud (add_nat (n := i) (k := 1) rfl rfl (by omega)) rfl rfl (ow_loud rfl rfl rfl (ow_nil ?_))))
    exact aw_lose T.tabR ok8_2 hQ (l := [(5, r1), (7, y), (8, .int .i64 (.ofNat (i + 1)))]) ⟨Vr.refl _, Vr.refl _, Vr.refl _, trivial⟩ rfl (ih (i + 1) s1 r1 (by omega) H1 hS1)
end
end Go.Proofs.YteoeidhcmcacbaaGreatDoor.movesLetters
/-
  ref04.Letters.
-/
namespace Go.Proofs.YteoeidhcmcacbaaGreatDoor.movesLetters
open Go Go.Avm

/-- What both sides answer. -/
def Lets (s0 : AS) (D : DS) (t : Int) (r : AVal) (s : AS) : Prop := Keeps s0 s ∧ bif valid D && isT t then MineL s0 s r (letters D t) else r = .nilslice
theorem Lets.lift {s0 : AS} {D : DS} {t : Int} : LiftR (Lets s0 D t) := fun v s v' s' h hv hS => by
  obtain ⟨h1, h2⟩ := h
  refine ⟨h1.sr hS, ?_⟩
  cases hc : (valid D && isT t) with
  | true => rw [hc] at h2; exact MineL.lift v s v' s' h2 hv hS
  | false =>
    rw [hc] at h2
    have h2 : v = .nilslice := h2
    subst h2
    cases hv; rfl
theorem MineL.base {s0 s1 s : AS} {x : AVal} {l : List (List AVal)} (h : MineL s1 s x l) (k : Keeps s0 s1) (hn : s0.nx ≤ s1.nx) : MineL s0 s x l := by
  obtain ⟨g, hg, hl⟩ := h.2.place
  exact ⟨h.1, h.2.own, k.trans h.2.keep, g, hg, by omega⟩
theorem mv_mB : Mv mB := ⟨rfl, rfl, rfl⟩
theorem valid_rs {D : DS} (h : valid D = true) {j : Nat} (hj : j < D.n) : D.rs j ≠ 2 := by
  have := valid_ok h hj
  unfold dOk at this
  simp only [Bool.and_eq_true] at this
  rcases isT_or this.2.2.1 with h | h <;> rw [h] <;> decide
section
variable {D : DS} {x : AVal} {a : Nat → AVal} {s0 : AS} {t : Int}
theorem loop8_0 (hv : valid D = true) (ht : isT t = true) (hD : Decls s0 x D a) : ∀ (m v : Nat) (s : AS) (r : AVal), v + m = vals t → MineL s0 s r ([mB] ++ answers mB v) →
    Wp T.tab (.loop m8_0) (mkF [(0, x), (1, .int .i64 t), (5, r), (6, .int .i64 (.ofNat v))]) s (Out.of 0 (Then T.tab (aft 4 b8) (Res.of [.tmp 4] (Lets s0 D t)))) := by
  have hQ : Lift1 (Out.of 0 (Then T.tab (aft 4 b8) (Res.of [.tmp 4] (Lets s0 D t)))) := Lift1.out (Lift1.andThen T.tabR ok8_a (Lift1.res Lets.lift _)) 0
  have h4 := vals_le t
  have hn := valid_n hv
  have hc : (valid D && isT t) = true := by rw [hv, ht]; rfl
  intro m
  induction m with
  | zero =>
    intro v s r hm H
    obtain rfl : v = vals t := by omega
    refine aw_loop_step ?_
    show Wp T.tab (.seq (.seq (.reg (ops (hd (hd m8_0)))) (tl (hd m8_0))) (tl m8_0)) _ _ _
    refine aw_seq (aw_seq (aw_reg (ow_loud rfl rfl rfl (ow_loud rfl rfl rfl ?_))))
    refine ow_call rfl rfl rfl ((values20 t s).mono fun v s1 hv => ⟨rfl, ?_⟩)
    obtain ⟨rfl, hk⟩ := hv
    refine ow_loud (lss_nat (n := vals t) (m := vals t) rfl rfl (decide_eq_false (by omega))) rfl rfl (ow_nil (aw_false rfl (aw_exit ?_)))
    show Wp T.tab (.seq (.reg (ops (hd (aft 4 b8)))) (.seq (.reg (ops (hd (aft 5 b8)))) (.seq (.seq (.reg (ops (hd (hd (aft 6 b8))))) (.block 2 (.loop m8_2))) (aft 7 b8)))) _ _ _
    refine aw_seq (aw_reg (ow_loud rfl rfl rfl (ow_loud (v := .agg mDone) rfl rfl rfl ?_)))
    refine ow_move (m := mDone) rfl rfl rfl rfl rfl rfl rfl (mv_of _ _ _ _ _) rfl (fun _ => rfl) (H.keeps hk) (by rw [List.length_append, answers_length]; show 1 + _ < _; omega) fun u r' s2 H2 _ => ?_
    have H2 : MineL s0 s2 r' (heads t) := H2
    refine ow_loud rfl rfl rfl (ow_nil (aw_seq (aw_reg (ow_loud rfl rfl rfl ?_))))
    have hD2 := hD.keeps H2.2.keep
    refine ow_call rfl rfl rfl ((sorted21 hD2 hn).mono fun y s3 hy => ⟨rfl, ?_⟩)
    have hy : Mine s2 s3 3 y D.n (fun j => D.cell a (srt D.lt D.n j)) := hy
    have H3 := H2.keeps hy.keep
    refine ow_loud rfl rfl rfl (ow_nil (aw_seq (aw_seq (aw_reg (ow_loud rfl rfl rfl (ow_nil (aw_block ?_)))))))
    have hQ2 : Lift1 (Then T.tab (aft 7 b8) (Res.of [.tmp 4] (Lets s0 D t))) := Lift1.andThen T.tabR ok8_b (Lift1.res Lets.lift _)
    refine aw_lose T.tabR ok8_2 (Lift1.out hQ2 2) (l := [(5, r'), (7, y), (8, .int .i64 (.ofNat 0))]) ⟨Vr.refl _, Vr.refl _, Vr.refl _, trivial⟩ rfl ?_
    have hlt : ∀ j, j < D.n → srt D.lt D.n j < D.n := fun j hj => srt_lt D.lt D.n j hj
    exact loop8_2 (D := D) (y := y) (s0 := s0) (π := srt D.lt D.n) (fun j hj => hD.solidCell (hlt j hj)) hD hn hlt (fun j hj => valid_al hv hj) (fun j hj => valid_rs hv hj) (l := heads t) (by have := heads_length t; omega) Lets.lift (fun r s hm => ⟨hm.2.keep, by rw [hc]; exact hm⟩) D.n 0 s3 r' (by omega) (by rw [show heads t ++ declsTo D (srt D.lt D.n) 0 = heads t by simp [declsTo]]; exact H3) hy.own.sl
  | succ m ih =>
    intro v s r hm H
    refine aw_loop_step ?_
    show Wp T.tab (.seq (.seq (.reg (ops (hd (hd m8_0)))) (tl (hd m8_0))) (.seq (.block 1 (.reg (ops (inn (hd (tl m8_0)))))) (.reg (ops (tl (tl m8_0)))))) _ _ _
    refine aw_seq (aw_seq (aw_reg (ow_loud rfl rfl rfl (ow_loud rfl rfl rfl ?_))))
    refine ow_call rfl rfl rfl ((values20 t s).mono fun v s1 hv => ⟨rfl, ?_⟩)
    obtain ⟨rfl, hk⟩ := hv
    refine ow_loud (lss_nat (n := v) (m := vals t) rfl rfl (decide_eq_true (by omega))) rfl rfl (ow_nil (aw_true rfl (aw_skip ?_)))
    refine aw_seq (aw_block (aw_reg (ow_loud rfl rfl rfl (ow_loud rfl rfl rfl (ow_loud (v := .agg (ans mB v)) rfl rfl rfl ?_)))))
    refine ow_move (m := ans mB v) rfl rfl rfl rfl rfl rfl rfl (mv_of _ _ _ _ _) rfl (fun _ => rfl) (H.keeps hk) (by rw [List.length_append, answers_length]; show 1 + _ < _; omega) fun u r' s2 H2 _ => ?_
    rw [List.append_assoc, ← answers_succ] at H2
    refine ow_loud rfl rfl rfl (ow_nil (aw_reg (ow_loud rfl rfl rfl (ow_loud (add_nat (n := v) (k := 1) rfl rfl (by omega)) rfl rfl (ow_loud rfl rfl rfl (ow_nil ?_))))))
    exact aw_lose T.tabR ok8_0 hQ (l := [(0, x), (1, .int .i64 t), (5, r'), (6, .int .i64 (.ofNat (v + 1)))]) ⟨Vr.refl _, Vr.refl _, Vr.refl _, Vr.refl _, trivial⟩ rfl (ih (v + 1) s2 r' (by omega) H2)
theorem letters8 (hD : Decls s0 x D a) : Cw T.tab 8 [x, .int .i64 t] s0 (Lets s0 D t) := by
  refine cw_of (body := b8) (rs := [.tmp 4]) rfl ?_
  show Wp T.tab (.seq (.reg (ops (hd b8))) (.seq (.seq (.reg (ops (hd (hd (aft 1 b8))))) (.cond (.t 24) (.seq (.reg [⟨some 4,(.mov (.c .nilslice)),none,[],[]⟩]) .ret) .skip)) (.seq (.reg (ops (hd (aft 2 b8)))) (.seq (.seq (.reg (ops (hd (hd (aft 3 b8))))) (.block 0 (.loop m8_0))) (aft 4 b8))))) _ _ _
  refine aw_seq (aw_reg (ow_loud rfl rfl rfl (ow_nil (aw_seq (aw_seq (aw_reg (ow_loud rfl rfl rfl ?_)))))))
  refine ow_call rfl rfl rfl ((cw_nx T.tabR (declared19 hD)).mono fun v s1 hv => ⟨rfl, ?_⟩)
  obtain ⟨⟨rfl, hk1⟩, hnx⟩ := hv
  have hno : (valid D && isT t) = false → ∀ fr : Fr, fr.df = [] → fr.get 24 = .bool true → Wp T.tab (.cond (.t 24) (.seq (.reg [⟨some 4,(.mov (.c .nilslice)),none,[],[]⟩]) .ret) .skip) fr s1 (Then T.tab (.seq (.reg (ops (hd (aft 2 b8)))) (.seq (.seq (.reg (ops (hd (hd (aft 3 b8))))) (.block 0 (.loop m8_0))) (aft 4 b8))) (Res.of [.tmp 4] (Lets s0 D t))) := fun hc fr hdf h => by
    refine aw_true (by rw [Fr.ev_t]; exact h) (aw_seq (aw_reg (ow_loud (v := .nilslice) (s' := s1) rfl rfl rfl (ow_nil (aw_ret ?_)))))
    refine ⟨hdf, .nilslice, ?_, hk1, by rw [hc]; rfl⟩
    show (match some [(fr.put (some 4) .nilslice).get 4] with | some [v] => some v | some vs => some (.tuple vs) | none => none) = _
    rw [Fr.get_put, if_pos rfl]
  cases hv : valid D with
  | false =>
    refine ow_loud (v := .bool true) rfl rfl rfl (ow_loud rfl rfl rfl (ow_skip rfl (ow_skip rfl (ow_skip rfl (ow_skip rfl (ow_skip rfl (ow_skip rfl (ow_loud (v := .bool true) rfl rfl rfl (ow_nil ?_)))))))))
    exact hno (by rw [hv]; rfl) _ rfl rfl
  | true =>
    refine ow_loud (v := .bool false) rfl rfl rfl (ow_loud rfl rfl rfl (ow_loud rfl rfl rfl ?_))
    cases ht : isT t with
    | false =>
      have h0 : t ≠ 0 := fun h => by subst h; cases ht
      have h1 : t ≠ 1 := fun h => by subst h; cases ht
      refine ow_loud (neq_int (k := .i64) (a := t) (b := 0) (q := true) rfl rfl (by rw [decide_eq_false h0]; rfl)) rfl rfl (ow_loud rfl rfl rfl (ow_loud rfl rfl rfl (ow_loud (neq_int (k := .i64) (a := t) (b := 1) (q := true) rfl rfl (by rw [decide_eq_false h1]; rfl)) rfl rfl (ow_loud (v := .bool true) rfl rfl rfl (ow_loud (v := .bool true) rfl rfl rfl (ow_nil ?_))))))
      exact hno (by rw [hv, ht]; rfl) _ rfl rfl
    | true =>
      have hgo : ∀ fr : Fr, fr.df = [] → fr.get 24 = .bool false → fr.get 0 = x → fr.get 1 = .int .i64 t → Wp T.tab (.cond (.t 24) (.seq (.reg [⟨some 4,(.mov (.c .nilslice)),none,[],[]⟩]) .ret) .skip) fr s1 (Then T.tab (.seq (.reg (ops (hd (aft 2 b8)))) (.seq (.seq (.reg (ops (hd (hd (aft 3 b8))))) (.block 0 (.loop m8_0))) (aft 4 b8))) (Res.of [.tmp 4] (Lets s0 D t))) := fun fr hdf h h0 h1 => by
        refine aw_false (by rw [Fr.ev_t]; exact h) (aw_skip ?_)
        have hok : (AC.seq (.reg (ops (hd (aft 2 b8)))) (.seq (.seq (.reg (ops (hd (hd (aft 3 b8))))) (.block 0 (.loop m8_0))) (aft 4 b8))).ok = true := by decide +kernel
        refine aw_lose T.tabR hok (Lift1.res Lets.lift _) (l := [(0, x), (1, .int .i64 t)]) ⟨by rw [h0]; exact Vr.refl _, by rw [h1]; exact Vr.refl _, trivial⟩ hdf ?_
        refine aw_seq (aw_reg (ow_loud (v := .agg mB) rfl rfl rfl ?_))
        refine ow_first (m := mB) rfl rfl rfl mv_mB rfl fun s2 H2 => ow_loud rfl rfl rfl (ow_nil (aw_seq (aw_seq (aw_reg (ow_loud rfl rfl rfl (ow_nil (aw_block ?_)))))))
        have hD1 := hD.keeps hk1
        have hQ : Lift1 (Out.of 0 (Then T.tab (aft 4 b8) (Res.of [.tmp 4] (Lets s0 D t)))) := Lift1.out (Lift1.andThen T.tabR ok8_a (Lift1.res Lets.lift _)) 0
        have H2' : MineL s0 s2 (.slice s1.nx 0 1 5 0 (some 1)) ([mB] ++ answers mB 0) := by
          rw [show [mB] ++ answers mB 0 = [mB] by simp [answers]]
          exact H2.base hk1 hnx
        exact aw_lose T.tabR ok8_0 hQ (l := [(0, x), (1, .int .i64 t), (5, .slice s1.nx 0 1 5 0 (some 1)), (6, .int .i64 (.ofNat 0))]) ⟨Vr.refl _, Vr.refl _, Vr.refl _, Vr.refl _, trivial⟩ rfl (loop8_0 hv ht hD (vals t) 0 s2 _ (by omega) H2')
      rcases isT_or ht with rfl | rfl
      · refine ow_loud (v := .bool false) rfl rfl rfl (ow_loud rfl rfl rfl (ow_skip rfl (ow_skip rfl (ow_loud (v := .bool false) rfl rfl rfl (ow_loud (v := .bool false) rfl rfl rfl (ow_nil ?_))))))
        exact hgo _ rfl rfl rfl rfl
      · refine ow_loud (v := .bool true) rfl rfl rfl (ow_loud rfl rfl rfl (ow_loud rfl rfl rfl (ow_loud (v := .bool false) rfl rfl rfl (ow_loud (v := .bool false) rfl rfl rfl (ow_loud (v := .bool false) rfl rfl rfl (ow_nil ?_))))))
        exact hgo _ rfl rfl rfl rfl
end
end Go.Proofs.YteoeidhcmcacbaaGreatDoor.movesLetters
/-
  A round of the program's way: the move that is written anew for each argument.
-/
namespace Go.Proofs.YteoeidhcmcacbaaGreatDoor.movesLetters
open Go Go.Avm

theorem dr_refl : ∀ l, Dr (fun k => k) l l
  | [] => .nil
  | (f, a) :: l => .cons (Vr.refl f) (Vrs.refl a) (dr_refl l)
theorem loud_nx {fr : Fr} {s s' : AS} {op : AOp} {v : AVal} (ho : op.ok = true) (h : loud fr s op = some (v, s')) : s.nx ≤ s'.nx := by
  obtain ⟨v', s1, e, _, _, hf⟩ := loud_r (σ := fun k => k) (Sr.refl s) ⟨fun t => Vr.refl _, dr_refl _⟩ ho h
  rw [h] at e
  have e := Option.some.inj e
  injection e with _ e
  rw [e]; exact hf.nx
section
variable {tab : Nat → Option AFn} {Q : Ex → Fr → AS → Prop} {fr : Fr} {s s0 : AS} {g0 : Nat}
/-- A literal of one move. -/
theorem ow_lit5 {o : AOper} {rest : List AOper} {m : List AVal} {y : Opd} (h1 : o.op = .lit 1 5 mB [(0, 5, y)]) (hg1 : o.guard = none) (hc1 : o.chk = []) (hm : Mv m) (hy : fr.ev y = .agg m)
    (k : ∀ s', Keeps s s' → s.nx ≤ s'.nx → (∀ j o, s.get j = some o → s'.get j = some o) → Sl s' 5 (.slice s.nx 0 1 5 0 (some 1)) 1 (fun _ => m) → Ow tab rest (fr.put o.dst (.slice s.nx 0 1 5 0 (some 1))) s' Q) : Ow tab (o :: rest) fr s Q := by
  refine ow_loud (v := .slice s.nx 0 1 5 0 (some 1)) (s' := s.new (oneRow m)) (by rw [h1]; exact lit_one rfl (by rw [hy]; rfl) (by rw [hy]; rfl) hm.len hm.one) (by rw [hg1]; rfl) (by rw [hc1]; rfl) (k _ (.new s _) (Nat.le_succ _) (fun j o e => by rw [AS.get_new, if_neg (by have := AS.lt_of_get e; omega)]; exact e) (.inr ⟨s.nx, 0, 0, some 1, rfl, ?_, fun k hk => by injection hk with hk; omega⟩))
  unfold cellsAt
  rw [AS.get_new, if_pos rfl]
  show (bif Nat.ble (Nat.add 0 (1 * 5)) (llen m) then some (ltake (ldrop m 0) (1 * 5)) else none) = _
  rw [llen_eq, hm.len]
  show some (ltake (ldrop m 0) 5) = _
  rw [ltake_eq, ldrop_eq, List.drop_zero, List.take_of_length_le (by rw [hm.len]; exact Nat.le_refl _)]
  rfl
/-- It is put behind a row that grows. -/
theorem ow_app5 {o : AOper} {rest : List AOper} {m : List AVal} {a b : Opd} {x y : AVal} {l : List (List AVal)} (ho : o.op = .app 5 a b) (hok : o.op.ok = true) (hg2 : o.guard = none) (hm : Mv m) (hy : Sl s 5 y 1 (fun _ => m)) (ha : fr.ev a = x) (hb : fr.ev b = y) (H : OwnL s x l) (G : Grew s0 g0 s x) (hN : l.length < 4000000000)
    (hc2 : ∀ x' s', KeepsC s s' → looks (fr.put o.dst x') s' o.chk = true)
    (k : ∀ x' s', OwnL s' x' (l ++ [m]) → Grew s0 g0 s' x' → KeepsC s s' → (∀ k o, Go.Proofs.YteoeidhcmcacbaaGreatDoor.movesLetters.rowOf x ≠ some k → s.get k = some o → s'.get k = some o) → (∀ j, j < s.nx → Go.Proofs.YteoeidhcmcacbaaGreatDoor.movesLetters.rowOf x ≠ some j → Go.Proofs.YteoeidhcmcacbaaGreatDoor.movesLetters.rowOf x' ≠ some j) → Ow tab rest (fr.put o.dst x') s' Q) : Ow tab (o :: rest) fr s Q := by
  obtain ⟨hl, hO⟩ := H
  obtain ⟨x', s', e1, e2, e3, e4, e5⟩ := Own.app (fr := fr) (a := a) (b := b) hO hy (fun _ => hm.len) (fun _ _ => hm.one) (fun _ _ => hm.sol) (by omega) (by omega) (.inl (by omega)) ha hb
  obtain ⟨g, v, c, ex, hx, hg, _⟩ := hO.row
  obtain ⟨g', v', c', hx', hgg⟩ := e5 g v c hx
  obtain ⟨g1, hg1, hg0⟩ := G.place
  have hgg1 : g = g1 := by rw [hx] at hg1; exact Option.some.inj hg1
  subst hgg1
  have hobj : ∀ k o, Go.Proofs.YteoeidhcmcacbaaGreatDoor.movesLetters.rowOf x ≠ some k → s.get k = some o → s'.get k = some o := fun j o hk e => e4 g v c hx j o (fun h => hk (by rw [hx, h]; rfl)) e
  have hlt := AS.lt_of_get hg
  have hOL : OwnL s' x' (l ++ [m]) := by
    refine ⟨hl.append (.one hm), ?_⟩
    rw [show (l ++ [m]).length = l.length + 1 by simp]
    refine e2.congr (lf_len (hl.append (.one hm))) fun j hj => ?_
    unfold appF lf
    by_cases e : j < l.length
    · rw [if_pos e, List.getElem?_append_left e]
    · rw [if_neg e, List.getElem?_append_right (by omega), show j - l.length = 0 by omega]; rfl
  have hnx : s0.nx ≤ s'.nx := by
    obtain ⟨g2, hg2, hl2⟩ := e2.rowOf
    rw [hx'] at hg2
    exact Nat.le_trans G.nx (loud_nx (by rw [← ho]; exact hok) e1)
  refine ow_loud (v := x') (s' := s') (by rw [ho]; exact e1) (by rw [hg2]; rfl) (hc2 x' s' e3) (k x' s' hOL ⟨fun j o hj e => ?_, hnx, ⟨g', by rw [hx']; rfl, ?_⟩, G.cells.trans e3⟩ e3 hobj fun j hj hne => ?_)
  · obtain ⟨o1, q1, q2⟩ := G.keep j o hj e
    refine ⟨o1, e4 g v c hx j o1 (fun h => ?_) q1, q2⟩
    have := AS.lt_of_get e
    omega
  · have hG := G.nx
    rcases hgg with h | h
    · rw [h]; exact hg0
    · right; omega
  · intro h
    rw [hx'] at h
    have h := Option.some.inj h
    rcases hgg with h2 | h2
    · exact hne (by rw [hx, ← h, h2]; rfl)
    · omega
end
end Go.Proofs.YteoeidhcmcacbaaGreatDoor.movesLetters
/-
  A round of the program's way.
-/
namespace Go.Proofs.YteoeidhcmcacbaaGreatDoor.movesLetters
open Go Go.Avm

theorem Grew.trans {s0 s t : AS} {g0 g : Nat} {x y : AVal} (H : Grew s0 g0 s x) (hx : Go.Proofs.YteoeidhcmcacbaaGreatDoor.movesLetters.rowOf x = some g) (K : Grew s g t y) : Grew s0 g0 t y := by
  obtain ⟨g1, hg1, hp⟩ := H.place
  rw [hx] at hg1
  obtain rfl : g = g1 := Option.some.inj hg1
  refine ⟨fun k o hk e => ?_, Nat.le_trans H.nx K.nx, ?_, H.cells.trans K.cells⟩
  · obtain ⟨o1, e1, e2⟩ := H.keep k o hk e
    have := AS.lt_of_get e
    obtain ⟨o2, e3, e4⟩ := K.keep k o1 (by rcases hp with h | h <;> omega) e1
    exact ⟨o2, e3, e2.comp e4⟩
  · obtain ⟨g2, h1, h2⟩ := K.place
    have := H.nx
    exact ⟨g2, h1, by rcases h2 with h | h <;> rcases hp with h' | h' <;> omega⟩
/-- The state of a round: sB the memory ahead, g0 the row of moves there, g the place of the move that is written anew. -/
structure Rd (sB : AS) (g0 g : Nat) (nm : List Nat) (s : AS) (r : AVal) (l : List (List AVal)) (q : Nat) : Prop where
  own : OwnL s r l
  grew : Grew sB g0 s r
  new : sB.nx ≤ g
  ne : Go.Proofs.YteoeidhcmcacbaaGreatDoor.movesLetters.rowOf r ≠ some g
  get : s.get g = some (.row (ask nm q 0) 0 [5] false)
section
variable {sB s s' : AS} {g0 g : Nat} {nm : List Nat} {r r' : AVal} {l : List (List AVal)} {q : Nat}
theorem Rd.at (H : Rd sB g0 g nm s r l q) : At s 5 (.ptr g 0 0) (ask nm q 0) := ⟨g, 0, 0, rfl, by unfold cellsAt; rw [H.get]; rfl⟩
theorem Rd.push (H : Rd sB g0 g nm s r l q) {m : List AVal} (h1 : OwnL s' r' (l ++ [m])) (h2 : Grew sB g0 s' r') (h3 : ∀ k o, Go.Proofs.YteoeidhcmcacbaaGreatDoor.movesLetters.rowOf r ≠ some k → s.get k = some o → s'.get k = some o) (h4 : ∀ j, j < s.nx → Go.Proofs.YteoeidhcmcacbaaGreatDoor.movesLetters.rowOf r ≠ some j → Go.Proofs.YteoeidhcmcacbaaGreatDoor.movesLetters.rowOf r' ≠ some j) : Rd sB g0 g nm s' r' (l ++ [m]) q :=
  ⟨h1, h2, H.new, h4 g (AS.lt_of_get H.get) H.ne, h3 g _ H.ne H.get⟩
theorem Rd.answers (H : Rd sB g0 g nm s r l q) {gr : Nat} (hr : Go.Proofs.YteoeidhcmcacbaaGreatDoor.movesLetters.rowOf r = some gr) {l' : List (List AVal)} (K : Grows s gr l' r' s') : Rd sB g0 g nm s' r' l' q := by
  have hne : gr ≠ g := fun h => H.ne (by rw [hr, h])
  refine ⟨K.1, H.grew.trans hr K.2, H.new, fun h => ?_, ?_⟩
  · obtain ⟨g2, h1, h2⟩ := K.2.place
    rw [h] at h1
    have := Option.some.inj h1
    have := AS.lt_of_get H.get
    omega
  · obtain ⟨o, e1, e2⟩ := K.2.keep g _ (Ne.symm hne) H.get
    rw [or_fix (ρ := fun k => k) e2 rfl rfl] at e1
    exact e1
theorem Rd.put (H : Rd sB g0 g nm s r l q) (k : Nat) : Rd sB g0 g nm (s.set g (.row (ask nm k 0) 0 [5] false)) r l k := by
  have hlt := AS.lt_of_get H.get
  have hother : ∀ j, j ≠ g → (s.set g (.row (ask nm k 0) 0 [5] false)).get j = s.get j := fun j hj => AS.get_set_ne _ _ hj
  have hnew := H.new
  refine ⟨⟨H.own.1, H.own.2.ofGet fun g1 h1 => hother g1 (fun e => H.ne (by rw [h1, e]))⟩, ⟨fun j o hj e => ?_, H.grew.nx, H.grew.place, fun g1 x1 v1 n1 cs e hl1 hc1 => ?_⟩, H.new, H.ne, AS.get_set_same _ _ hlt⟩
  · have := AS.lt_of_get e
    rw [hother j (by omega)]; exact H.grew.keep j o hj e
  · have hg1 : g1 < sB.nx := by
      unfold cellsAt at e
      cases h : sB.get g1 with
      | none => rw [h] at e; cases e
      | some o => exact AS.lt_of_get h
    have h2 := H.grew.cells g1 x1 v1 n1 cs e hl1 hc1
    unfold cellsAt at h2 ⊢
    rw [hother g1 (by omega)]; exact h2
end
theorem At.loadA {s : AS} {w : Nat} {p : AVal} {cs : List AVal} (h : At s w p cs) {fr : Fr} {a : Opd} (ha : fr.ev a = p) : pval fr s (.load true w a) = some (.agg cs) := by
  obtain ⟨g, x, v, rfl, h⟩ := h
  show (match fr.ev a with
    | .ptr g x v => match cellsAt s g x v w with
      | some cs => bif true then some (AVal.agg cs) else single cs
      | none => none
    | _ => none) = _
  rw [ha]
  simp only
  rw [h]
  rfl
theorem same_ask (nm : List Nat) (k v : Nat) : sameVal (.agg (ask nm k v)) (.agg (ask nm k v)) = true := by
  show (beqL nm nm && ((beqK .i64 .i64 && beqI (.ofNat k) (.ofNat k)) && (true && ((beqK .i64 .i64 && beqI (.ofNat v) (.ofNat v)) && (true && true))))) = true
  rw [beqL_eq, beqI_eq, beqI_eq]
  simp
  rfl

def b9 : AC := bodyOf T.a9
def m9_0 : AC := inn (inn (tl (hd (aft 6 b9))))
def x9 : AC := inn (hd (tl (tl m9_0)))
def m9_2 : AC := inn (inn (tl (hd (aft 3 x9))))
def m9_4 : AC := inn (inn (tl (hd (aft 4 x9))))
def m9_6 : AC := inn (inn (tl (aft 6 x9)))
def y9 : AC := inn (hd (tl (tl m9_6)))
theorem ok9_0 : (AC.loop m9_0).ok = true := by decide +kernel
theorem ok9_2 : (AC.loop m9_2).ok = true := by decide +kernel
theorem ok9_4 : (AC.loop m9_4).ok = true := by decide +kernel
theorem ok9_6 : (AC.loop m9_6).ok = true := by decide +kernel
theorem ok9_a : (aft 7 b9).ok = true := by decide +kernel
theorem ok9_b : (tl (tl (tl m9_0))).ok = true := by decide +kernel
theorem ok9_c : (aft 4 x9).ok = true := by decide +kernel
theorem ok9_d : (aft 5 x9).ok = true := by decide +kernel
theorem ok9_e : (tl (tl (tl m9_6))).ok = true := by decide +kernel
section
variable {D : DS} {z p10 : AVal} {a : Nat → AVal} {sB : AS} {g0 g i j : Nat} {Q : Ex → Fr → AS → Prop} {N : Nat}
/-- What all pieces of a round leave. -/
def Fix (fr : Fr) (r p10 : AVal) (g : Nat) (z : AVal) (N i : Nat) : Prop := fr.df = [] ∧ fr.get 8 = r ∧ fr.get 10 = p10 ∧ fr.get 11 = .ptr g 0 0 ∧ fr.get 42 = z ∧ fr.get 43 = .int .i64 (.ofNat N) ∧ fr.get 44 = .int .i64 (.ofNat i)
/-- How many values the arguments have. -/
theorem loop9_2 (hQ : Lift1 Q) {A : AVal} {n : Nat} {q : Nat → Int} (hn : n ≤ 3) {r : AVal} {s : AS} (hA : Sl s 1 A n (argCell q)) (hend : ∀ fr : Fr, Fix fr r p10 g z N i → fr.get 12 = .int .i64 (.ofNat (rowsN q n)) → Q .nrm fr s) : ∀ (m k : Nat), k + m = n →
    Wp T.tab (.loop m9_2) (mkF [(8, r), (10, p10), (11, .ptr g 0 0), (12, .int .i64 (.ofNat (rowsN q k))), (42, z), (43, .int .i64 (.ofNat N)), (44, .int .i64 (.ofNat i)), (52, A), (53, .int .i64 (.ofNat n)), (54, .int .i64 (.ofNat k))]) s (Out.of 2 Q) := by
  intro m
  induction m with
  | zero =>
    intro k hk
    obtain rfl : k = n := by omega
    refine aw_loop_step ?_
    show Wp T.tab (.seq (.reg (ops (hd m9_2))) (.seq (hd (tl m9_2)) (tl (tl m9_2)))) _ _ _
    refine aw_seq (aw_reg (ow_loud (lss_nat (n := k) (m := k) rfl rfl (decide_eq_false (by omega))) rfl rfl (ow_nil (aw_seq (aw_false rfl (aw_exit ?_))))))
    exact hend _ ⟨rfl, rfl, rfl, rfl, rfl, rfl, rfl⟩ rfl
  | succ m ih =>
    intro k hk
    have hr := rowsN_64 q (n := k) (by omega)
    refine aw_loop_step ?_
    show Wp T.tab (.seq (.reg (ops (hd m9_2))) (.seq (hd (tl m9_2)) (.seq (.block 3 (.seq (.reg (ops (hd (inn (hd (tl (tl m9_2))))))) (.seq (.reg (ops (hd (aft 1 (inn (hd (tl (tl m9_2)))))))) (tl (aft 1 (inn (hd (tl (tl m9_2))))))))) (.reg (ops (tl (tl (tl m9_2)))))))) _ _ _
    refine aw_seq (aw_reg (ow_loud (lss_nat (n := k) (m := n) rfl rfl (decide_eq_true (by omega))) rfl rfl (ow_nil (aw_seq (aw_true rfl (aw_skip (aw_seq (aw_block (aw_seq (aw_reg ?_))))))))))
    refine ow_ex (hA.at (i := k) (fun _ => rfl) (by omega) rfl rfl) rfl (fun _ => rfl) fun p1 hp1 => ?_
    refine ow_loud (hp1.one rfl) rfl rfl (ow_loud rfl rfl rfl (ow_nil (aw_seq (aw_reg (ow_loud rfl rfl rfl ?_)))))
    have hih := ih (k + 1) (by omega)
    by_cases h : q k = 2
    · rw [show rowsN q (k + 1) = rowsN q k * 4 from if_pos h] at hih
      refine ow_loud (eql_int (k := .i64) (a := q k) (b := 2) rfl rfl (decide_eq_true h)) rfl rfl (ow_nil (aw_true rfl (aw_reg (ow_loud rfl rfl rfl (ow_loud (mul_nat (n := rowsN q k) (k := 4) rfl rfl (by omega)) rfl rfl (ow_loud rfl rfl rfl (ow_nil ?_)))))))
      refine aw_reg (ow_loud (add_nat (n := k) (k := 1) rfl rfl (by omega)) rfl rfl (ow_loud rfl rfl rfl (ow_nil ?_)))
      exact aw_lose T.tabR ok9_2 (Lift1.out hQ 2) (l := [(8, r), (10, p10), (11, .ptr g 0 0), (12, .int .i64 (.ofNat (rowsN q k * 4))), (42, z), (43, .int .i64 (.ofNat N)), (44, .int .i64 (.ofNat i)), (52, A), (53, .int .i64 (.ofNat n)), (54, .int .i64 (.ofNat (k + 1)))]) ⟨Vr.refl _, Vr.refl _, Vr.refl _, Vr.refl _, Vr.refl _, Vr.refl _, Vr.refl _, Vr.refl _, Vr.refl _, Vr.refl _, trivial⟩ rfl hih
    · rw [show rowsN q (k + 1) = rowsN q k from if_neg h] at hih
      refine ow_loud (eql_int (k := .i64) (a := q k) (b := 2) rfl rfl (decide_eq_false h)) rfl rfl (ow_nil (aw_false rfl (aw_skip ?_)))
      refine aw_reg (ow_loud (add_nat (n := k) (k := 1) rfl rfl (by omega)) rfl rfl (ow_loud rfl rfl rfl (ow_nil ?_)))
      exact aw_lose T.tabR ok9_2 (Lift1.out hQ 2) (l := [(8, r), (10, p10), (11, .ptr g 0 0), (12, .int .i64 (.ofNat (rowsN q k))), (42, z), (43, .int .i64 (.ofNat N)), (44, .int .i64 (.ofNat i)), (52, A), (53, .int .i64 (.ofNat n)), (54, .int .i64 (.ofNat (k + 1)))]) ⟨Vr.refl _, Vr.refl _, Vr.refl _, Vr.refl _, Vr.refl _, Vr.refl _, Vr.refl _, Vr.refl _, Vr.refl _, Vr.refl _, trivial⟩ rfl hih
/-- The questions. -/
theorem loop9_4 (hQ : Lift1 Q) {c : Nat} {l : List (List AVal)} (hl : l.length + c < 2000000000) (hp : At sB 3 p10 (D.cell a j)) (hsol : solids (D.cell a j) = true)
    (hend : ∀ s r, Rd sB g0 g (D.nm j) s r (l ++ asks (D.nm j) 0 c) 0 → ∀ fr : Fr, Fix fr r p10 g z N i → Q .nrm fr s) : ∀ (m v : Nat) (s : AS) (r : AVal), v + m = c → Rd sB g0 g (D.nm j) s r (l ++ asks (D.nm j) 0 v) 0 →
    Wp T.tab (.loop m9_4) (mkF [(8, r), (10, p10), (11, .ptr g 0 0), (42, z), (43, .int .i64 (.ofNat N)), (44, .int .i64 (.ofNat i)), (63, .int .i64 (.ofNat c)), (64, .int .i64 (.ofNat v))]) s (Out.of 4 Q) := by
  intro m
  induction m with
  | zero =>
    intro v s r hv H
    obtain rfl : v = c := by omega
    refine aw_loop_step ?_
    show Wp T.tab (.seq (.reg (ops (hd m9_4))) (.seq (hd (tl m9_4)) (tl (tl m9_4)))) _ _ _
    refine aw_seq (aw_reg (ow_loud (lss_nat (n := v) (m := v) rfl rfl (decide_eq_false (by omega))) rfl rfl (ow_nil (aw_seq (aw_false rfl (aw_exit ?_))))))
    exact hend s r H _ ⟨rfl, rfl, rfl, rfl, rfl, rfl, rfl⟩
  | succ m ih =>
    intro v s r hv H
    have hp' := At.keepsC hp rfl hsol H.grew.cells
    refine aw_loop_step ?_
    show Wp T.tab (.seq (.reg (ops (hd m9_4))) (.seq (hd (tl m9_4)) (.seq (.block 5 (.seq (.reg (ops (hd (inn (hd (tl (tl m9_4))))))) (.reg (ops (tl (inn (hd (tl (tl m9_4))))))))) (.reg (ops (tl (tl (tl m9_4)))))))) _ _ _
    refine aw_seq (aw_reg (ow_loud (lss_nat (n := v) (m := c) rfl rfl (decide_eq_true (by omega))) rfl rfl (ow_nil (aw_seq (aw_true rfl (aw_skip (aw_seq (aw_block (aw_seq (aw_reg (ow_loud rfl rfl rfl (ow_loud rfl rfl rfl (ow_nil (aw_reg (ow_loud rfl rfl rfl ?_)))))))))))))))
    refine ow_ex (hp'.field (j := 0) (y := .str (D.nm j)) rfl rfl rfl) rfl (fun _ => rfl) fun p2 hp2 => ?_
    refine ow_loud (hp2.one rfl) rfl rfl (ow_loud rfl rfl rfl (ow_loud (v := .agg (ask (D.nm j) 0 v)) rfl rfl rfl ?_))
    refine ow_push (m := ask (D.nm j) 0 v) (x := r) rfl rfl rfl rfl rfl rfl (mv_of _ _ _ _ _) rfl (fun _ => rfl) H.own H.grew (by rw [List.length_append, asks_length]; omega) (fun _ _ _ => rfl) fun r' s' h1 h2 h3 h4 h5 => ?_
    have H' := H.push h1 h2 h4 h5
    rw [List.append_assoc, ← asks_succ] at H'
    refine ow_loud rfl rfl rfl (ow_nil (aw_reg (ow_loud (add_nat (n := v) (k := 1) rfl rfl (by omega)) rfl rfl (ow_loud rfl rfl rfl (ow_nil ?_)))))
    exact aw_lose T.tabR ok9_4 (Lift1.out hQ 4) (l := [(8, r'), (10, p10), (11, .ptr g 0 0), (42, z), (43, .int .i64 (.ofNat N)), (44, .int .i64 (.ofNat i)), (63, .int .i64 (.ofNat c)), (64, .int .i64 (.ofNat (v + 1)))]) ⟨Vr.refl _, Vr.refl _, Vr.refl _, Vr.refl _, Vr.refl _, Vr.refl _, Vr.refl _, Vr.refl _, trivial⟩ rfl (ih (v + 1) s' r' (by omega) H')
end
end Go.Proofs.YteoeidhcmcacbaaGreatDoor.movesLetters
/-
  A round of the program's way; the program's way.
-/
namespace Go.Proofs.YteoeidhcmcacbaaGreatDoor.movesLetters
open Go Go.Avm

theorem Rd.row {sB s : AS} {g0 g : Nat} {nm : List Nat} {r : AVal} {l : List (List AVal)} {q : Nat} (H : Rd sB g0 g nm s r l q) : ∃ gr, Go.Proofs.YteoeidhcmcacbaaGreatDoor.movesLetters.rowOf r = some gr := by
  obtain ⟨gr, h, _⟩ := H.grew.place
  exact ⟨gr, h⟩
section
variable {D : DS} {z p10 : AVal} {a : Nat → AVal} {sB : AS} {g0 g i j : Nat} {Q : Ex → Fr → AS → Prop} {N : Nat}
/-- The arguments. -/
theorem loop9_6 (hQ : Lift1 Q) {A : AVal} {l : List (List AVal)} (hl : l.length < 1000000000) (hal : D.al j ≤ 3) (hA : Sl sB 1 A (D.al j) (argCell (D.ar j)))
    (hend : ∀ s r q, Rd sB g0 g (D.nm j) s r (l ++ partsTo D j (D.al j + 1)) q → ∀ fr : Fr, Fix fr r p10 g z N i → Q .nrm fr s) : ∀ (m k : Nat) (s : AS) (r : AVal) (q : Nat), k + m = D.al j → Rd sB g0 g (D.nm j) s r (l ++ partsTo D j (k + 1)) q →
    Wp T.tab (.loop m9_6) (mkF [(8, r), (10, p10), (11, .ptr g 0 0), (42, z), (43, .int .i64 (.ofNat N)), (44, .int .i64 (.ofNat i)), (81, A), (82, .int .i64 (.ofNat (D.al j))), (83, .int .i64 (.ofNat k))]) s (Out.of 6 Q) := by
  have hQ6 := Lift1.out hQ 6
  intro m
  induction m with
  | zero =>
    intro k s r q hk H
    obtain rfl : k = D.al j := by omega
    refine aw_loop_step ?_
    show Wp T.tab (.seq (.reg (ops (hd m9_6))) (.seq (hd (tl m9_6)) (tl (tl m9_6)))) _ _ _
    refine aw_seq (aw_reg (ow_loud (lss_nat (n := D.al j) (m := D.al j) rfl rfl (decide_eq_false (by omega))) rfl rfl (ow_nil (aw_seq (aw_false rfl (aw_exit ?_))))))
    exact hend s r q H _ ⟨rfl, rfl, rfl, rfl, rfl, rfl, rfl⟩
  | succ m ih =>
    intro k s r q hk H
    have hA' := Sl.keepsC hA (fun _ => rfl) (fun _ _ => rfl) H.grew.cells
    have hlen := partsTo_length (D := D) (j := j) hal (k + 1)
    have hQ7 : Lift1 (Then T.tab (tl (tl (tl m9_6))) (Then T.tab (.loop m9_6) (Out.of 6 Q))) := Lift1.andThen T.tabR ok9_e (Lift1.andThen T.tabR ok9_6 hQ6)
    have hnext : ∀ s r q, Rd sB g0 g (D.nm j) s r (l ++ partsTo D j (k + 1 + 1)) q → ∀ fr : Fr, Fix fr r p10 g z N i → fr.get 81 = A → fr.get 82 = .int .i64 (.ofNat (D.al j)) → fr.get 83 = .int .i64 (.ofNat k) → Wp T.tab (tl (tl (tl m9_6))) fr s (Then T.tab (.loop m9_6) (Out.of 6 Q)) := fun s1 r1 q1 H1 fr ⟨hdf, h8, h10, h11, h42, h43, h44⟩ h81 h82 h83 => by
      refine aw_lose T.tabR ok9_e (Lift1.andThen T.tabR ok9_6 hQ6) (l := [(8, r1), (10, p10), (11, .ptr g 0 0), (42, z), (43, .int .i64 (.ofNat N)), (44, .int .i64 (.ofNat i)), (81, A), (82, .int .i64 (.ofNat (D.al j))), (83, .int .i64 (.ofNat k))]) ⟨by rw [h8]; exact Vr.refl _, by rw [h10]; exact Vr.refl _, by rw [h11]; exact Vr.refl _, by rw [h42]; exact Vr.refl _, by rw [h43]; exact Vr.refl _, by rw [h44]; exact Vr.refl _, by rw [h81]; exact Vr.refl _, by rw [h82]; exact Vr.refl _, by rw [h83]; exact Vr.refl _, trivial⟩ hdf ?_
      show Wp T.tab (.reg (ops (tl (tl (tl m9_6))))) _ _ _
      refine aw_reg (ow_loud (add_nat (n := k) (k := 1) rfl rfl (by omega)) rfl rfl (ow_loud rfl rfl rfl (ow_nil ?_)))
      exact aw_lose T.tabR ok9_6 hQ6 (l := [(8, r1), (10, p10), (11, .ptr g 0 0), (42, z), (43, .int .i64 (.ofNat N)), (44, .int .i64 (.ofNat i)), (81, A), (82, .int .i64 (.ofNat (D.al j))), (83, .int .i64 (.ofNat (k + 1)))]) ⟨Vr.refl _, Vr.refl _, Vr.refl _, Vr.refl _, Vr.refl _, Vr.refl _, Vr.refl _, Vr.refl _, Vr.refl _, trivial⟩ rfl (ih (k + 1) s1 r1 q1 (by omega) H1)
    refine aw_loop_step ?_
    show Wp T.tab (.seq (.reg (ops (hd m9_6))) (.seq (hd (tl m9_6)) (.seq (.block 7 (.seq (.reg (ops (hd y9))) (.seq (.seq (.reg (ops (hd (hd (aft 1 y9))))) (.cond (.t 89) (.exit 7) .skip)) (.seq (.reg (ops (hd (aft 2 y9)))) (.reg (ops (aft 3 y9))))))) (tl (tl (tl m9_6)))))) _ _ _
    refine aw_seq (aw_reg (ow_loud (lss_nat (n := k) (m := D.al j) rfl rfl (decide_eq_true (by omega))) rfl rfl (ow_nil (aw_seq (aw_true rfl (aw_skip (aw_seq (aw_block (aw_seq (aw_reg (ow_loud rfl rfl rfl ?_)))))))))))
    refine ow_ex (hA'.at (i := k) (fun _ => rfl) (by omega) rfl rfl) rfl (fun _ => rfl) fun p1 hp1 => ?_
    refine ow_loud (hp1.one rfl) rfl rfl (ow_loud rfl rfl rfl (ow_loud rfl rfl rfl (ow_nil (aw_seq (aw_seq (aw_reg (ow_loud rfl rfl rfl ?_)))))))
    by_cases h2 : D.ar j k = 2
    · refine ow_loud (eql_int (k := .i64) (a := D.ar j k) (b := 2) rfl rfl (decide_eq_true h2)) rfl rfl (ow_nil (aw_true rfl (aw_exit ?_)))
      refine hnext s r q ?_ _ ⟨rfl, rfl, rfl, rfl, rfl, rfl, rfl⟩ rfl rfl rfl
      rw [show partsTo D j (k + 1 + 1) = partsTo D j (k + 1) by
        show partsTo D j (k + 1) ++ partK D j (k + 1) = _
        rw [show partK D j (k + 1) = [] from if_pos h2, List.append_nil]]
      exact H
    · refine ow_loud (eql_int (k := .i64) (a := D.ar j k) (b := 2) rfl rfl (decide_eq_false h2)) rfl rfl (ow_nil (aw_false rfl (aw_skip ?_)))
      refine aw_seq (aw_reg (ow_loud rfl rfl rfl (ow_loud (add_nat (n := k) (k := 1) rfl rfl (by omega)) rfl rfl (ow_loud (v := .ptr g (Nat.add 0 1) 0) rfl rfl rfl ?_))))
      have hget := H.get
      refine ow_loud (v := .junk) (s' := s.set g (.row (ask (D.nm j) (k + 1) 0) 0 [5] false)) (store_put (cs := [.int .i64 (.ofNat (k + 1))]) rfl rfl rfl rfl (by unfold putAt; rw [hget]; rfl)) rfl rfl (ow_nil ?_)
      have H1 := H.put (k + 1)
      refine aw_reg (ow_loud rfl rfl rfl (ow_loud (H1.at.load rfl) rfl rfl ?_))
      refine ow_lit5 (m := ask (D.nm j) (k + 1) 0) rfl rfl rfl (mv_of _ _ _ _ _) rfl fun s2 hk2 hn2 hs2 hy2 => ?_
      have H2 : Rd sB g0 g (D.nm j) s2 r (l ++ partsTo D j (k + 1)) (k + 1) := ⟨⟨H1.own.1, H1.own.2.keeps hk2⟩, H1.grew.keeps hk2 hn2, H1.new, H1.ne, hs2 g _ H1.get⟩
      refine ow_loud (H2.at.load rfl) rfl rfl (ow_loud rfl rfl rfl ?_)
      refine ow_app5 (m := ask (D.nm j) (k + 1) 0) rfl rfl rfl (mv_of _ _ _ _ _) hy2 rfl rfl H2.own H2.grew (by rw [List.length_append]; omega) (fun x' s' hK => looks_cons rfl (At.loadA (At.keepsC H2.at rfl rfl hK) rfl) (same_ask _ _ _) rfl) fun r' s3 h1 h2' h3 h4 h5 => ?_
      have H3 := H2.push h1 h2' h4 h5
      obtain ⟨gr, hgr⟩ := H3.row
      refine ow_call rfl rfl rfl ((answers28 (a0 := .str (D.nm j)) (b0 := .int .i64 (.ofNat (k + 1))) (c0 := .bool false) (d0 := .int .i64 (.ofNat 0)) (e0 := .bool false) (t := D.ar j k) (mv_of _ _ _ _ _) (by rw [List.length_append, List.length_append]; show _ + 1 < _; omega) H3.own hgr).mono fun v s4 hv => ⟨rfl, ?_⟩)
      have H4 := H3.answers hgr hv
      refine ow_loud rfl rfl rfl (ow_nil ?_)
      refine hnext s4 v (k + 1) ?_ _ ⟨rfl, rfl, rfl, rfl, rfl, rfl, rfl⟩ rfl rfl rfl
      rw [show partsTo D j (k + 1 + 1) = partsTo D j (k + 1) ++ ([ask (D.nm j) (k + 1) 0] ++ answers (ask (D.nm j) (k + 1) 0) (vals (D.ar j k))) by
        show partsTo D j (k + 1) ++ partK D j (k + 1) = _
        rw [show partK D j (k + 1) = part (D.nm j) (k + 1) 1 (D.ar j k) from if_neg h2]
        rfl]
      rw [← List.append_assoc, ← List.append_assoc]
      exact H4
/-- A round, from the count of the values. -/
theorem tail9 (hQ : Lift1 Q) {l : List (List AVal)} {c : Nat} (hl : l.length < 10000) (hc : c = rowsN (D.ar j) (D.al j)) (hal : D.al j ≤ 3) (hp : At sB 3 p10 (D.cell a j)) (hsol : solids (D.cell a j) = true) (hA : Sl sB 1 (a j) (D.al j) (argCell (D.ar j))) {s : AS} {r : AVal} (H : Rd sB g0 g (D.nm j) s r l 0)
    (hend : ∀ s r q, Rd sB g0 g (D.nm j) s r (l ++ partsTo D j (D.al j + 1)) q → ∀ fr : Fr, Fix fr r p10 g z N i → Q .nrm fr s) :
    Wp T.tab (aft 4 x9) (mkF [(8, r), (10, p10), (11, .ptr g 0 0), (12, .int .i64 (.ofNat c)), (42, z), (43, .int .i64 (.ofNat N)), (44, .int .i64 (.ofNat i))]) s Q := by
  have hc64 := rowsN_64 (D.ar j) hal
  show Wp T.tab (.seq (.seq (.reg (ops (hd (hd (aft 4 x9))))) (.block 4 (.loop m9_4))) (aft 5 x9)) _ _ _
  have hQ5 : Lift1 (Then T.tab (aft 5 x9) Q) := Lift1.andThen T.tabR ok9_d hQ
  refine aw_seq (aw_seq (aw_reg (ow_loud rfl rfl rfl (ow_loud rfl rfl rfl (ow_nil (aw_block ?_))))))
  refine aw_lose T.tabR ok9_4 (Lift1.out hQ5 4) (l := [(8, r), (10, p10), (11, .ptr g 0 0), (42, z), (43, .int .i64 (.ofNat N)), (44, .int .i64 (.ofNat i)), (63, .int .i64 (.ofNat c)), (64, .int .i64 (.ofNat 0))]) ⟨Vr.refl _, Vr.refl _, Vr.refl _, Vr.refl _, Vr.refl _, Vr.refl _, Vr.refl _, Vr.refl _, trivial⟩ rfl
    (loop9_4 hQ5 (l := l) (c := c) (by omega) hp hsol (fun s1 r1 H1 fr ⟨hdf, h8, h10, h11, h42, h43, h44⟩ => ?_) c 0 s r (by omega) (by rw [show l ++ asks (D.nm j) 0 0 = l by simp [asks]]; exact H))
  show Wp T.tab (aft 5 x9) fr s1 Q
  refine aw_lose T.tabR ok9_d hQ (l := [(8, r1), (10, p10), (11, .ptr g 0 0), (42, z), (43, .int .i64 (.ofNat N)), (44, .int .i64 (.ofNat i))]) ⟨by rw [h8]; exact Vr.refl _, by rw [h10]; exact Vr.refl _, by rw [h11]; exact Vr.refl _, by rw [h42]; exact Vr.refl _, by rw [h43]; exact Vr.refl _, by rw [h44]; exact Vr.refl _, trivial⟩ hdf ?_
  show Wp T.tab (.seq (.reg (ops (hd (aft 5 x9)))) (.seq (.reg (ops (hd (aft 6 x9)))) (.block 6 (.loop m9_6)))) _ _ _
  have hp1 := At.keepsC hp rfl hsol H1.grew.cells
  refine aw_seq (aw_reg (ow_loud rfl rfl rfl (ow_loud (H1.at.load rfl) rfl rfl ?_)))
  refine ow_ex (hp1.field (j := 2) (y := .int .i64 (D.rs j)) rfl rfl rfl) rfl (fun _ => rfl) fun p2 hp2 => ?_
  refine ow_loud (hp2.one rfl) rfl rfl ?_
  obtain ⟨gr, hgr⟩ := H1.row
  refine ow_call rfl rfl rfl ((answers28 (a0 := .str (D.nm j)) (b0 := .int .i64 (.ofNat 0)) (c0 := .bool false) (d0 := .int .i64 (.ofNat 0)) (e0 := .bool false) (t := D.rs j) (mv_of _ _ _ _ _) (by rw [List.length_append, asks_length]; omega) H1.own hgr).mono fun v s2 hv => ⟨rfl, ?_⟩)
  have H2 := H1.answers hgr hv
  refine ow_loud rfl rfl rfl (ow_nil (aw_seq (aw_reg ?_)))
  have hp3 := At.keepsC hp rfl hsol H2.grew.cells
  have hA' := Sl.keepsC hA (fun _ => rfl) (fun _ _ => rfl) H2.grew.cells
  refine ow_ex (hp3.field (j := 1) (y := a j) rfl rfl rfl) rfl (fun _ => rfl) fun p4 hp4 => ?_
  refine ow_loud (hp4.one rfl) rfl rfl (ow_loud (hA'.len rfl) rfl rfl (ow_loud rfl rfl rfl (ow_nil (aw_block ?_))))
  refine aw_lose T.tabR ok9_6 (Lift1.out hQ 6) (l := [(8, v), (10, p10), (11, .ptr g 0 0), (42, z), (43, .int .i64 (.ofNat N)), (44, .int .i64 (.ofNat i)), (81, a j), (82, .int .i64 (.ofNat (D.al j))), (83, .int .i64 (.ofNat 0))]) ⟨Vr.refl _, Vr.refl _, Vr.refl _, Vr.refl _, Vr.refl _, Vr.refl _, Vr.refl _, Vr.refl _, Vr.refl _, trivial⟩ rfl
    (loop9_6 hQ (l := l) (by omega) hal hA hend (D.al j) 0 s2 v 0 (by omega) ?_)
  rw [show partsTo D j (0 + 1) = asks (D.nm j) 0 c ++ answers (ask (D.nm j) 0 0) (vals (D.rs j)) by rw [hc]; rfl]
  rw [← List.append_assoc]
  exact H2
end
end Go.Proofs.YteoeidhcmcacbaaGreatDoor.movesLetters
/-
  moves.Letters.
-/
namespace Go.Proofs.YteoeidhcmcacbaaGreatDoor.movesLetters
open Go Go.Avm

/-- What the program answers. -/
def Lets9 (s0 : AS) (D : DS) (t : Int) (r : AVal) (s : AS) : Prop := Keeps s0 s ∧ bif valid D && isT t then (∃ sS, MineL sS s r (letters D t)) else r = .nilslice
theorem Lets9.lift {s0 : AS} {D : DS} {t : Int} : LiftR (Lets9 s0 D t) := fun v s v' s' h hv hS => by
  obtain ⟨h1, h2⟩ := h
  refine ⟨h1.sr hS, ?_⟩
  cases hc : (valid D && isT t) with
  | true => rw [hc] at h2; obtain ⟨sS, h2⟩ := h2; exact ⟨sS, MineL.lift v s v' s' h2 hv hS⟩
  | false =>
    rw [hc] at h2
    have h2 : v = .nilslice := h2
    subst h2
    cases hv; rfl
section
variable {D : DS} {x z : AVal} {a : Nat → AVal} {s0 sS : AS} {t : Int}
theorem loop9_0 {π : Nat → Nat} (hπ' : π = srt D.lt D.n) (hv : valid D = true) (ht : isT t = true) (hD : Decls s0 x D a) (hk0 : Keeps s0 sS) : ∀ (m i : Nat) (s : AS) (r : AVal), i + m = D.n → MineL sS s r (heads t ++ declsTo D π i) → Srt s z D a π →
    Wp T.tab (.loop m9_0) (mkF [(8, r), (42, z), (43, .int .i64 (.ofNat D.n)), (44, .int .i64 (.ofNat i))]) s (Out.of 0 (Then T.tab (aft 7 b9) (Res.of [.tmp 4] (Lets9 s0 D t)))) := by
  have hQ : Lift1 (Out.of 0 (Then T.tab (aft 7 b9) (Res.of [.tmp 4] (Lets9 s0 D t)))) := Lift1.out (Lift1.andThen T.tabR ok9_a (Lift1.res Lets9.lift _)) 0
  have hQ' : Lift1 (Then T.tab (.loop m9_0) (Out.of 0 (Then T.tab (aft 7 b9) (Res.of [.tmp 4] (Lets9 s0 D t))))) := Lift1.andThen T.tabR ok9_0 hQ
  have hQ1 : Lift1 (Out.of 1 (Then T.tab (tl (tl (tl m9_0))) (Then T.tab (.loop m9_0) (Out.of 0 (Then T.tab (aft 7 b9) (Res.of [.tmp 4] (Lets9 s0 D t))))))) := Lift1.out (Lift1.andThen T.tabR ok9_b hQ') 1
  have hn := valid_n hv
  have hc : (valid D && isT t) = true := by rw [hv, ht]; rfl
  have hlt : ∀ j, j < D.n → π j < D.n := fun j hj => by rw [hπ']; exact srt_lt D.lt D.n j hj
  have hs : ∀ j, j < D.n → solids (D.cell a (π j)) = true := fun j hj => hD.solidCell (hlt j hj)
  intro m
  induction m with
  | zero =>
    intro i s r hi H hS
    obtain rfl : i = D.n := by omega
    refine aw_loop_step ?_
    show Wp T.tab (.seq (.reg (ops (hd m9_0))) (.seq (hd (tl m9_0)) (tl (tl m9_0)))) _ _ _
    refine aw_seq (aw_reg (ow_loud (lss_nat (n := D.n) (m := D.n) rfl rfl (decide_eq_false (by omega))) rfl rfl (ow_nil (aw_seq (aw_false rfl (aw_exit ?_))))))
    show Wp T.tab (.seq (.reg (ops (hd (aft 7 b9)))) .ret) _ _ _
    refine aw_seq (aw_reg (ow_loud rfl rfl rfl (ow_loud rfl rfl rfl (ow_nil (aw_ret ?_)))))
    refine ⟨rfl, r, rfl, hk0.trans H.2.keep, ?_⟩
    rw [hc]
    subst hπ'
    exact ⟨sS, H⟩
  | succ m ih =>
    intro i s r hi H hS
    have hin : i < D.n := by omega
    have hlen := declsTo_length (D := D) (π := π) i fun j hj => valid_al hv (hlt j (by omega))
    have hh := heads_length t
    refine aw_loop_step ?_
    show Wp T.tab (.seq (.reg (ops (hd m9_0))) (.seq (hd (tl m9_0)) (.seq (.block 1 (.seq (.reg (ops (hd x9))) (.seq (.reg (ops (hd (aft 1 x9)))) (.seq (.reg (ops (hd (aft 2 x9)))) (.seq (.seq (.reg (ops (hd (hd (aft 3 x9))))) (.block 2 (.loop m9_2))) (aft 4 x9)))))) (tl (tl (tl m9_0)))))) _ _ _
    refine aw_seq (aw_reg (ow_loud (lss_nat (n := i) (m := D.n) rfl rfl (decide_eq_true hin)) rfl rfl (ow_nil (aw_seq (aw_true rfl (aw_skip (aw_seq (aw_block (aw_seq (aw_reg ?_))))))))))
    refine ow_ex (Sl.at hS (i := i) (fun _ => rfl) hin rfl rfl) rfl (fun _ => rfl) fun p1 hp1 => ?_
    refine ow_loud (hp1.load rfl) rfl rfl ?_
    refine ow_fresh (z := [.str [], .nilslice, .int .i64 0]) (cs := D.cell a (π i)) (w := 3) rfl rfl rfl rfl rfl rfl rfl rfl rfl rfl (hD.ones (hlt i hin)) rfl rfl fun sB hkB hp10 hnB => ow_nil ?_
    have HB := H.keeps hkB
    have hSB := Srt.keeps hs hS hkB
    refine aw_seq (aw_reg ?_)
    refine ow_ex (hp10.field (j := 0) (y := .str (D.nm (π i))) rfl rfl rfl) rfl (fun _ => rfl) fun p2 hp2 => ?_
    refine ow_loud (hp2.one rfl) rfl rfl (ow_loud (v := .agg (ask (D.nm (π i)) 0 0)) rfl rfl rfl ?_)
    refine ow_new (z := mB) rfl rfl rfl rfl ?_
    refine ow_fill (z := mB) (cs := ask (D.nm (π i)) 0 0) (w := 5) (g := sB.nx) (sB := sB) rfl rfl rfl rfl rfl rfl (by rw [AS.get_new, if_pos rfl]; rfl) rfl rfl rfl (.new sB _) (Nat.le_refl _) fun s3 hk3 hget _ _ => ow_nil ?_
    obtain ⟨g0, hg0, hl0⟩ := HB.2.own.rowOf
    have hR : Rd sB g0 sB.nx (D.nm (π i)) s3 r (heads t ++ declsTo D π i) 0 := ⟨⟨HB.1, HB.2.own.keeps hk3⟩, (HB.2.own.grew hg0).keeps hk3 (Nat.le_of_lt (AS.lt_of_get hget)), Nat.le_refl _, (by rw [hg0]; intro e; injection e with e; omega), hget⟩
    refine aw_seq (aw_reg (ow_loud rfl rfl rfl (ow_nil (aw_seq (aw_seq (aw_reg ?_))))))
    have hA := (hD.keeps (hk0.trans HB.2.keep)).args (π i) (hlt i hin)
    have hA3 := hA.keeps (fun _ _ => rfl) hk3
    have hp10' := hp10.keeps (hs i hin) hk3
    refine ow_ex (hp10'.field (j := 1) (y := a (π i)) rfl rfl rfl) rfl (fun _ => rfl) fun p4 hp4 => ?_
    refine ow_loud (hp4.one rfl) rfl rfl (ow_loud (hA3.len rfl) rfl rfl (ow_loud rfl rfl rfl (ow_nil (aw_block ?_))))
    have hQ4 : Lift1 (Then T.tab (aft 4 x9) (Out.of 1 (Then T.tab (tl (tl (tl m9_0))) (Then T.tab (.loop m9_0) (Out.of 0 (Then T.tab (aft 7 b9) (Res.of [.tmp 4] (Lets9 s0 D t)))))))) := Lift1.andThen T.tabR ok9_c hQ1
    refine aw_lose T.tabR ok9_2 (Lift1.out hQ4 2) (l := [(8, r), (10, .ptr s.nx 0 0), (11, .ptr sB.nx 0 0), (12, .int .i64 (.ofNat 1)), (42, z), (43, .int .i64 (.ofNat D.n)), (44, .int .i64 (.ofNat i)), (52, a (π i)), (53, .int .i64 (.ofNat (D.al (π i)))), (54, .int .i64 (.ofNat 0))]) ⟨Vr.refl _, Vr.refl _, Vr.refl _, Vr.refl _, Vr.refl _, Vr.refl _, Vr.refl _, Vr.refl _, Vr.refl _, Vr.refl _, trivial⟩ rfl ?_
    refine loop9_2 (q := D.ar (π i)) hQ4 (valid_al hv (hlt i hin)) hA3 (fun fr ⟨hdf, h8, h10, h11, h42, h43, h44⟩ h12 => ?_) (D.al (π i)) 0 (by omega)
    show Wp T.tab (aft 4 x9) fr s3 _
    refine aw_lose T.tabR ok9_c hQ1 (l := [(8, r), (10, .ptr s.nx 0 0), (11, .ptr sB.nx 0 0), (12, .int .i64 (.ofNat (rowsN (D.ar (π i)) (D.al (π i))))), (42, z), (43, .int .i64 (.ofNat D.n)), (44, .int .i64 (.ofNat i))]) ⟨by rw [h8]; exact Vr.refl _, by rw [h10]; exact Vr.refl _, by rw [h11]; exact Vr.refl _, by rw [h12]; exact Vr.refl _, by rw [h42]; exact Vr.refl _, by rw [h43]; exact Vr.refl _, by rw [h44]; exact Vr.refl _, trivial⟩ hdf ?_
    refine tail9 (a := a) (j := π i) hQ1 (l := heads t ++ declsTo D π i) (by rw [List.length_append]; omega) rfl (valid_al hv (hlt i hin)) hp10 (hs i hin) hA hR fun s4 r4 q4 H4 fr4 ⟨hdf4, k8, k10, k11, k42, k43, k44⟩ => ?_
    show Wp T.tab (tl (tl (tl m9_0))) fr4 s4 _
    have H5 : MineL sS s4 r4 (heads t ++ declsTo D π i ++ partsTo D (π i) (D.al (π i) + 1)) := HB.grows hg0 ⟨H4.own, H4.grew⟩
    rw [List.append_assoc] at H5
    have hS5 := Srt.keepsC hs hSB H4.grew.cells
    refine aw_lose T.tabR ok9_b hQ' (l := [(8, r4), (42, z), (43, .int .i64 (.ofNat D.n)), (44, .int .i64 (.ofNat i))]) ⟨by rw [k8]; exact Vr.refl _, by rw [k42]; exact Vr.refl _, by rw [k43]; exact Vr.refl _, by rw [k44]; exact Vr.refl _, trivial⟩ hdf4 ?_
    show Wp T.tab (.reg (ops (tl (tl (tl m9_0))))) _ _ _
    refine aw_reg (ow_loud (add_nat (n := i) (k := 1) rfl rfl (by omega)) rfl rfl (ow_loud rfl rfl rfl (ow_nil ?_)))
    exact aw_lose T.tabR ok9_0 hQ (l := [(8, r4), (42, z), (43, .int .i64 (.ofNat D.n)), (44, .int .i64 (.ofNat (i + 1)))]) ⟨Vr.refl _, Vr.refl _, Vr.refl _, Vr.refl _, trivial⟩ rfl (ih (i + 1) s4 r4 (by omega) H5 hS5)
theorem letters9 (hb : ∀ j, ∀ c ∈ D.nm j, c < 256) (hD : Decls s0 x D a) (hx : x ≠ .nilslice) (hnil : ∀ j, j < D.n → a j ≠ .nilslice) : Cw T.tab 9 [x, .int .i64 t] s0 (Lets9 s0 D t) := by
  refine cw_of (body := b9) (rs := [.tmp 4]) rfl ?_
  show Wp T.tab (.seq (.reg (ops (hd b9))) (.seq (.reg (ops (hd (aft 1 b9)))) (.seq (.seq (.reg (ops (hd (hd (aft 2 b9))))) (.seq (.reg (ops (hd (tl (hd (aft 2 b9)))))) (.cond (.t 29) (.seq (.reg [⟨some 4,(.mov (.c .nilslice)),none,[],[]⟩]) .ret) .skip))) (.seq (.reg (ops (hd (aft 3 b9)))) (.seq (.reg (ops (hd (aft 4 b9)))) (.seq (.reg (ops (hd (aft 5 b9)))) (.seq (.seq (.reg (ops (hd (hd (aft 6 b9))))) (.block 0 (.loop m9_0))) (aft 7 b9))))))))  _ _ _
  refine aw_seq (aw_reg (ow_loud rfl rfl rfl (ow_nil (aw_seq (aw_reg (ow_loud rfl rfl rfl (ow_loud (v := .agg (node t)) rfl rfl rfl ?_)))))))
  refine ow_fresh (z := [.int .i64 0, .int .i64 0, .str [], .int .i64 0, .nilslice, .int .i64 0, .nilslice]) (cs := node t) (w := 7) rfl rfl rfl rfl rfl rfl rfl rfl rfl rfl rfl rfl rfl fun s1 hk1 hp5 _ => ow_nil ?_
  refine aw_seq (aw_seq (aw_reg (ow_loud rfl rfl rfl (ow_loud rfl rfl rfl (ow_loud (hp5.load rfl) rfl rfl ?_)))))
  refine ow_loud (v := .slice s1.nx 0 1 7 0 (some 1)) (s' := s1.new (oneRow (node t))) (lit_one rfl rfl rfl rfl rfl) rfl rfl ?_
  have hN : NodeAt (s1.new (oneRow (node t))) s1.nx t := by unfold NodeAt; rw [AS.get_new, if_pos rfl]; rfl
  have hk2 : Keeps s0 (s1.new (oneRow (node t))) := hk1.trans (.new _ _)
  refine ow_call rfl rfl rfl ((build23 hb (hD.keeps hk2) hx hnil hN).mono fun v s3 hv => ⟨rfl, ?_⟩)
  obtain ⟨⟨p, rfl⟩, hk3⟩ := hv
  have hK3 : Keeps s0 s3 := hk2.trans hk3
  refine ow_loud rfl rfl rfl (ow_loud rfl rfl rfl (ow_loud rfl rfl rfl (ow_loud rfl rfl rfl (ow_loud rfl rfl rfl (ow_nil (aw_seq (aw_reg (ow_loud rfl rfl rfl ?_))))))))
  cases hc : (valid D && isT t) with
  | false =>
    refine ow_loud (v := .bool true) (s' := s3) rfl rfl rfl (ow_nil (aw_true rfl (aw_seq (aw_reg (ow_loud rfl rfl rfl (ow_nil (aw_ret ?_)))))))
    exact ⟨rfl, .nilslice, rfl, hK3, by rw [hc]; rfl⟩
  | true =>
    rw [Bool.and_eq_true] at hc
    obtain ⟨hv, ht⟩ := hc
    have hn := valid_n hv
    refine ow_loud (v := .bool false) (s' := s3) rfl rfl rfl (ow_nil (aw_false rfl (aw_skip (aw_seq (aw_reg (ow_loud rfl rfl rfl ?_))))))
    have hD3 := hD.keeps hK3
    have hsol := fun j hj => Sl.solid (hD3.args j hj)
    refine ow_call rfl rfl rfl ((clone24 hD3.row hx (fun _ => rfl) (fun j hj => hD3.ones hj) (fun j hj => hD3.solidCell hj) (by omega)).mono fun z s4 hz => ⟨rfl, ?_⟩)
    have hz : Mine s3 s4 3 z D.n (D.cell a) := hz
    obtain ⟨g, hg, hgl⟩ := hz.place
    refine ow_loud rfl rfl rfl (ow_nil (aw_seq (aw_reg (ow_loud rfl rfl rfl ?_))))
    refine ow_call rfl rfl rfl ((sort25 hg (cmp26 fun j hj => ⟨(hsol j hj).2, (hsol j hj).1⟩) hn hz.own).mono fun v s5 hv5 => ⟨rfl, ow_nil ?_⟩)
    obtain ⟨rfl, hO5, hOn⟩ := hv5
    have hK5 : Keeps s0 s5 := hK3.trans fun k o e => by
      obtain ⟨o1, e1, e2⟩ := hz.keep k o e
      obtain ⟨o2, e3, e4⟩ := hOn k o1 (by have := AS.lt_of_get e; omega) e1
      exact ⟨o2, e3, e2.comp e4⟩
    refine aw_seq (aw_reg (ow_loud (v := .agg mB) rfl rfl rfl ?_))
    refine ow_first (m := mB) rfl rfl rfl mv_mB rfl fun s6 H6 => ow_loud (v := .agg mB) rfl rfl rfl (ow_loud rfl rfl rfl ?_)
    refine ow_call rfl rfl rfl ((answers28 (a0 := .str []) (b0 := .int .i64 0) (c0 := .bool false) (d0 := .int .i64 0) (e0 := .bool false) (t := t) (g0 := s5.nx) mv_mB (by show 1 < _; omega) H6.ownL rfl).mono fun v s7 hv7 => ⟨rfl, ?_⟩)
    have H7 : MineL s5 s7 v ([mB] ++ answers mB (vals t)) := H6.grows rfl hv7
    have h4 := vals_le t
    refine ow_loud (v := .agg mDone) rfl rfl rfl ?_
    refine ow_move (m := mDone) rfl rfl rfl rfl rfl rfl rfl (mv_of _ _ _ _ _) rfl (fun _ => rfl) H7 (by rw [List.length_append, answers_length]; show 1 + _ < _; omega) fun u r8 s8 H8 hKC8 => ow_loud rfl rfl rfl (ow_nil ?_)
    have H8 : MineL s5 s8 r8 (heads t) := H8
    have hS5 : Srt s5 z D a (srt D.lt D.n) := hO5.sl
    have hlt : ∀ j, j < D.n → srt D.lt D.n j < D.n := fun j hj => srt_lt D.lt D.n j hj
    have hs : ∀ j, j < D.n → solids (D.cell a (srt D.lt D.n j)) = true := fun j hj => hD3.solidCell (hlt j hj)
    have hS8 := Srt.keeps hs hS5 H8.2.keep
    refine aw_seq (aw_seq (aw_reg (ow_loud rfl rfl rfl (ow_loud (Sl.len hS8 rfl) rfl rfl (ow_loud rfl rfl rfl (ow_nil (aw_block ?_)))))))
    have hQ : Lift1 (Out.of 0 (Then T.tab (aft 7 b9) (Res.of [.tmp 4] (Lets9 s0 D t)))) := Lift1.out (Lift1.andThen T.tabR ok9_a (Lift1.res Lets9.lift _)) 0
    exact aw_lose T.tabR ok9_0 hQ (l := [(8, r8), (42, z), (43, .int .i64 (.ofNat D.n)), (44, .int .i64 (.ofNat 0))]) ⟨Vr.refl _, Vr.refl _, Vr.refl _, Vr.refl _, trivial⟩ rfl (loop9_0 rfl hv ht hD hK5 D.n 0 s8 r8 (by omega) (by rw [show heads t ++ declsTo D (srt D.lt D.n) 0 = heads t by simp [declsTo]]; exact H8) hS8)
end
end Go.Proofs.YteoeidhcmcacbaaGreatDoor.movesLetters
/-
  The law MovesLetters, in the abstract machine.
-/
namespace Go.Proofs.YteoeidhcmcacbaaGreatDoor.movesLetters
open Go Go.Avm

def Five (m : List AVal) : Prop := ∃ nm k b v e, m = [.str nm, .int .i64 k, .bool b, .int .i64 v, .bool e]
def Fives (l : List (List AVal)) : Prop := ∀ m ∈ l, Five m
theorem Fives.append {l m : List (List AVal)} (h : Fives l) (k : Fives m) : Fives (l ++ m) := fun x hx => by
  rcases List.mem_append.1 hx with hx | hx
  · exact h x hx
  · exact k x hx
theorem fives_nil : Fives [] := fun m h => by simp at h
theorem fives_one {m : List AVal} (h : Five m) : Fives [m] := fun x hx => by simp at hx; subst hx; exact h
theorem fives_answers {m : List AVal} (h : Five m) (k : Nat) : Fives (answers m k) := fun x hx => by
  unfold answers at hx
  obtain ⟨v, _, rfl⟩ := List.mem_map.1 hx
  obtain ⟨nm, k, b, v', e, rfl⟩ := h
  exact ⟨_, _, _, _, _, rfl⟩
theorem five_ask (nm : List Nat) (k v : Nat) : Five (ask nm k v) := ⟨_, _, _, _, _, rfl⟩
theorem fives_asks (nm : List Nat) (k c : Nat) : Fives (asks nm k c) := fun x hx => by
  unfold asks at hx
  obtain ⟨v, _, rfl⟩ := List.mem_map.1 hx
  exact five_ask nm k v
theorem fives_part (nm : List Nat) (k c : Nat) (ty : Int) : Fives (part nm k c ty) := (fives_asks nm k c).append (fives_answers (five_ask nm k 0) _)
theorem fives_partK (D : DS) (j : Nat) : ∀ k, Fives (partK D j k)
  | 0 => fives_part _ _ _ _
  | k + 1 => by
    show Fives (if D.ar j k = 2 then [] else part (D.nm j) (k + 1) 1 (D.ar j k))
    split
    · exact fives_nil
    · exact fives_part _ _ _ _
theorem fives_partsTo (D : DS) (j : Nat) : ∀ k, Fives (partsTo D j k)
  | 0 => fives_nil
  | k + 1 => (fives_partsTo D j k).append (fives_partK D j k)
theorem fives_declsTo (D : DS) (π : Nat → Nat) : ∀ i, Fives (declsTo D π i)
  | 0 => fives_nil
  | i + 1 => (fives_declsTo D π i).append (fives_partsTo D (π i) _)
theorem fives_letters (D : DS) (t : Int) : Fives (letters D t) :=
  (((fives_one ⟨_, _, _, _, _, rfl⟩).append (fives_answers ⟨_, _, _, _, _, rfl⟩ _)).append (fives_one ⟨_, _, _, _, _, rfl⟩)).append (fives_declsTo D _ _)
theorem five_lf {l : List (List AVal)} (h : Fives l) (j : Nat) : Five (lf l j) := by
  unfold lf
  cases e : l[j]? with
  | none => exact ⟨_, _, _, _, _, rfl⟩
  | some m => exact h m (List.mem_of_getElem? e)
theorem flat_five {m : List AVal} (h : Five m) : isEq (.flat [.s, .i, .b, .i, .b]) (.agg m) (.agg m) = some true := by
  obtain ⟨nm, k, b, v, e, rfl⟩ := h
  show beqFlat [.s, .i, .b, .i, .b] [.str nm, .int .i64 k, .bool b, .int .i64 v, .bool e] [.str nm, .int .i64 k, .bool b, .int .i64 v, .bool e] = some true
  have h1 : beqPrim .s (.str nm) (.str nm) = some true := by show some (beqL nm nm) = _; rw [beqL_eq]; simp
  have h2 : ∀ k, beqPrim .i (.int .i64 k) (.int .i64 k) = some true := fun k => by show (bif beqK .i64 .i64 then some (beqI k k) else none) = _; rw [beqI_eq]; simp; rfl
  have h3 : ∀ b, beqPrim .b (.bool b) (.bool b) = some true := fun b => by cases b <;> rfl
  show (match beqPrim .s (.str nm) (.str nm) with
    | some true => (match beqPrim .i (.int .i64 k) (.int .i64 k) with
      | some true => (match beqPrim .b (.bool b) (.bool b) with
        | some true => (match beqPrim .i (.int .i64 v) (.int .i64 v) with
          | some true => (match beqPrim .b (.bool e) (.bool e) with
            | some true => some true
            | some false => some false
            | none => none)
          | some false => some false
          | none => none)
        | some false => some false
        | none => none)
      | some false => some false
      | none => none)
    | some false => some false
    | none => none) = some true
  rw [h1, h2, h3, h2, h3]
def b3 : AC := bodyOf T.a3
def l3 : AC := inn (inn (tl (hd (aft 4 b3))))
theorem ok3 : (AC.loop l3).ok = true := by decide +kernel
theorem ok3_5 : (aft 5 b3).ok = true := by decide +kernel
def YesR : AVal → AS → Prop := fun v _ => v = .bool true
theorem YesR.lift : LiftR YesR := fun _ _ _ _ h hv _ => by
  have h : _ = AVal.bool true := h
  subst h; cases hv; rfl
section
variable {l : List (List AVal)} {r5 r6 : AVal} {s : AS}
theorem loop3 (hl : l.length < 1000000000) (h5 : Sl s 5 r5 l.length (lf l)) (h6 : Sl s 5 r6 l.length (lf l)) (hm : Mvs l) (hf : Fives l) : ∀ (m i : Nat), i + m = l.length →
    Wp T.tab (.loop l3) (mkF [(5, r5), (6, r6), (7, .int .i64 (.ofNat i))]) s (Out.of 0 (Then T.tab (aft 5 b3) (Res.of [.tmp 4] YesR))) := by
  have hQ : Lift1 (Out.of 0 (Then T.tab (aft 5 b3) (Res.of [.tmp 4] YesR))) := Lift1.out (Lift1.andThen T.tabR ok3_5 (Lift1.res YesR.lift _)) 0
  intro m
  induction m with
  | zero =>
    intro i hi
    obtain rfl : i = l.length := by omega
    refine aw_loop_step ?_
    show Wp T.tab (.seq (.seq (.reg (ops (hd (hd l3)))) (tl (hd l3))) (tl l3)) _ _ _
    refine aw_seq (aw_seq (aw_reg (ow_loud rfl rfl rfl (ow_loud rfl rfl rfl (ow_loud (h6.len rfl) rfl rfl (ow_loud (lss_nat (n := l.length) (m := l.length) rfl rfl (decide_eq_false (by omega))) rfl rfl (ow_nil (aw_false rfl (aw_exit ?_)))))))))
    show Wp T.tab (.seq (.reg (ops (hd (aft 5 b3)))) .ret) _ _ _
    refine aw_seq (aw_reg (ow_call rfl rfl rfl ((cw_yes (s := s)).mono fun v s1 hv => ⟨rfl, ?_⟩)))
    obtain ⟨rfl, rfl⟩ := hv
    exact ow_loud rfl rfl rfl (ow_nil (aw_ret ⟨rfl, _, rfl, rfl⟩))
  | succ m ih =>
    intro i hi
    have hin : i < l.length := by omega
    refine aw_loop_step ?_
    show Wp T.tab (.seq (.seq (.reg (ops (hd (hd l3)))) (tl (hd l3))) (.seq (.block 1 (.seq (.reg (ops (hd (inn (hd (tl l3)))))) (.cond (.t 34) (thn (tl (inn (hd (tl l3))))) .skip))) (.reg (ops (tl (tl l3)))))) _ _ _
    refine aw_seq (aw_seq (aw_reg (ow_loud rfl rfl rfl (ow_loud rfl rfl rfl (ow_loud (h6.len rfl) rfl rfl (ow_loud (lss_nat (n := i) (m := l.length) rfl rfl (decide_eq_true hin)) rfl rfl (ow_nil (aw_true rfl (aw_skip ?_)))))))))
    refine aw_seq (aw_block (aw_seq (aw_reg (ow_loud rfl rfl rfl (ow_loud rfl rfl rfl ?_)))))
    refine ow_ex (h6.at (i := i) (lf_len hm) hin rfl rfl) rfl (fun _ => rfl) fun p1 hp1 => ?_
    refine ow_loud (hp1.load rfl) rfl rfl (ow_loud rfl rfl rfl (ow_loud rfl rfl rfl ?_))
    refine ow_ex (h5.at (i := i) (lf_len hm) hin rfl rfl) rfl (fun _ => rfl) fun p2 hp2 => ?_
    refine ow_loud (hp2.load rfl) rfl rfl ?_
    refine ow_loud (v := .bool false) (s' := s) (by
      show (match (match isEq (.flat [.s, .i, .b, .i, .b]) (.agg (lf l i)) (.agg (lf l i)) with | some b => some (AVal.bool (!b)) | none => none) with | some v => some (v, s) | none => none) = _
      rw [flat_five (five_lf hf i)]; rfl) rfl rfl (ow_nil (aw_false rfl (aw_skip ?_)))
    refine aw_reg (ow_loud rfl rfl rfl (ow_loud (add_nat (n := i) (k := 1) rfl rfl (by omega)) rfl rfl (ow_loud rfl rfl rfl (ow_nil ?_))))
    exact aw_lose T.tabR ok3 hQ (l := [(5, r5), (6, r6), (7, .int .i64 (.ofNat (i + 1)))]) ⟨Vr.refl _, Vr.refl _, Vr.refl _, trivial⟩ rfl (ih (i + 1) (by omega))
end
section
variable {D : DS} {x : AVal} {a : Nat → AVal} {s0 : AS} {t : Int}
theorem letters_length (hv : valid D = true) : (letters D t).length < 10000 := by
  unfold letters
  have := heads_length t
  have := declsTo_length (D := D) (π := srt D.lt D.n) D.n fun j hj => valid_al hv (srt_lt D.lt D.n j hj)
  have := valid_n hv
  rw [List.length_append]; omega
theorem law3 (hb : ∀ j, ∀ c ∈ D.nm j, c < 256) (hD : Decls s0 x D a) (hn : D.n * 3 ≤ 8796093022208) (ha : ∀ j, j < D.n → D.al j ≤ 17592186044416) : Cw T.tab 3 [x, .int .i64 t] s0 YesR := by
  have hQ : Lift1 (Out.of 0 (Then T.tab (aft 5 b3) (Res.of [.tmp 4] YesR))) := Lift1.out (Lift1.andThen T.tabR ok3_5 (Lift1.res YesR.lift _)) 0
  refine cw_of (body := b3) (rs := [.tmp 4]) rfl ?_
  show Wp T.tab (.seq (.reg (ops (hd b3))) (.seq (.reg (ops (hd (aft 1 b3)))) (.seq (.reg (ops (hd (aft 2 b3)))) (.seq (.seq (.reg (ops (hd (hd (aft 3 b3))))) (.cond (.t 19) (thn (tl (hd (aft 3 b3)))) .skip)) (.seq (.seq (.reg (ops (hd (hd (aft 4 b3))))) (.block 0 (.loop l3))) (aft 5 b3)))))) _ _ _
  refine aw_seq (aw_reg (ow_loud rfl rfl rfl (ow_nil (aw_seq (aw_reg (ow_loud rfl rfl rfl (ow_loud rfl rfl rfl ?_)))))))
  refine ow_call rfl rfl rfl ((letters8 (t := t) hD).mono fun r5 s1 hv => ⟨rfl, ?_⟩)
  obtain ⟨hk1, h5⟩ := hv
  refine ow_loud rfl rfl rfl (ow_nil (aw_seq (aw_reg (ow_loud rfl rfl rfl ?_))))
  refine ow_call rfl rfl rfl ((copied10 (hD.keeps hk1) hn ha).mono fun y s2 hv => ⟨rfl, ?_⟩)
  obtain ⟨a', hM, ha'⟩ := hv
  have hy : y ≠ .nilslice := by
    obtain ⟨g, v, c, ex, rfl, _, _⟩ := hM.own.row
    intro h; cases h
  have hD2 : Decls s2 y D a' := ⟨hM.own.sl, fun j hj => (ha' j hj).1⟩
  refine ow_loud rfl rfl rfl ?_
  refine ow_call rfl rfl rfl ((letters9 (t := t) hb hD2 hy fun j hj => (ha' j hj).2).mono fun r6 s3 hv => ⟨rfl, ?_⟩)
  obtain ⟨hk3, h6⟩ := hv
  have hk13 : Keeps s1 s3 := hM.keep.trans hk3
  -- both are the same row
  obtain ⟨l, hl, hm, hf, hS5, hS6⟩ : ∃ l : List (List AVal), l.length < 1000000000 ∧ Mvs l ∧ Fives l ∧ Sl s3 5 r5 l.length (lf l) ∧ Sl s3 5 r6 l.length (lf l) := by
    cases hc : (valid D && isT t) with
    | false =>
      rw [hc] at h5 h6
      have h5 : r5 = .nilslice := h5
      have h6 : r6 = .nilslice := h6
      exact ⟨[], by simp, fun m h => by simp at h, fives_nil, .inl ⟨h5, rfl⟩, .inl ⟨h6, rfl⟩⟩
    | true =>
      rw [hc] at h5 h6
      have h5 : MineL s0 s1 r5 (letters D t) := h5
      obtain ⟨sS, h6⟩ := h6
      rw [Bool.and_eq_true] at hc
      have := letters_length (t := t) hc.1
      exact ⟨letters D t, by omega, h5.1, fives_letters D t, (h5.keeps hk13).2.own.sl, h6.2.own.sl⟩
  refine ow_loud rfl rfl rfl (ow_nil (aw_seq (aw_seq (aw_reg (ow_loud rfl rfl rfl (ow_loud (hS6.len rfl) rfl rfl (ow_loud rfl rfl rfl (ow_loud (hS5.len rfl) rfl rfl ?_))))))))
  refine ow_loud (neq_int (k := .i64) (a := .ofNat l.length) (b := .ofNat l.length) (q := false) rfl rfl (by simp)) rfl rfl (ow_nil (aw_false rfl (aw_skip (aw_seq (aw_seq (aw_reg (ow_loud rfl rfl rfl (ow_nil (aw_block ?_)))))))))
  exact aw_lose T.tabR ok3 hQ (l := [(5, r5), (6, r6), (7, .int .i64 (.ofNat 0))]) ⟨Vr.refl _, Vr.refl _, Vr.refl _, trivial⟩ rfl (loop3 hl hS5 hS6 hm hf l.length 0 (by omega))
end
end Go.Proofs.YteoeidhcmcacbaaGreatDoor.movesLetters
/-
  Slices that are handed over: how they stand in the abstract machine's memory.
-/
namespace Go.Proofs.YteoeidhcmcacbaaGreatDoor.movesLetters
open Go Go.Avm

/-- Windows on blocks: window v begins at off v and ends ahead of e v, in block blk v. -/
structure Wins where
  K : Nat
  on : Nat → Bool
  blk : Nat → Nat
  off : Nat → Nat
  e : Nat → Nat
  cell : Nat → Nat → Value → AVal
def Wins.exts (w : Wins) : List Nat := (List.range (w.K + 1)).map fun q => w.e (w.K - q)
def Wins.cells (w : Wins) (W : World) (g : Nat) : List AVal := match W.heap[g]? with
  | some (.cells C _ _) => (List.range C.size).map fun x => match C[x]? with | some y => w.cell g x y | none => .junk
  | _ => []
noncomputable def Wins.mem (w : Wins) (W : World) : AS := mkS ((List.range W.heap.size).map fun g => AObj.row (w.cells W g) w.K w.exts true)
def sizeOf' (W : World) (g : Nat) : Nat := match W.heap[g]? with
  | some (.cells C _ _) => C.size
  | _ => 0
def Wins.emb (w : Wins) (W : World) : Emb := { row := fun g v => if v ≤ w.K ∧ w.on v = true ∧ g = w.blk v then some ⟨g, w.off v, w.off v, sizeOf' W g⟩ else none, mp := fun _ => none }
section
variable {w : Wins} {W : World}
theorem Wins.exts_at {v : Nat} (h : v ≤ w.K) : w.exts[w.K - v]? = some (w.e v) := by
  unfold Wins.exts
  rw [List.getElem?_map, List.getElem?_range (by omega)]
  show some (w.e (w.K - (w.K - v))) = _
  rw [show w.K - (w.K - v) = v by omega]
theorem Wins.get {g : Nat} (h : g < W.heap.size) : (w.mem W).get g = some (.row (w.cells W g) w.K w.exts true) := by
  unfold Wins.mem
  rw [mkS_get, List.getElem?_map, List.getElem?_range h]
  rfl
theorem Wins.emb_at {v : Nat} (h : v ≤ w.K) (ho : w.on v = true) : (w.emb W).row (w.blk v) v = some ⟨w.blk v, w.off v, w.off v, sizeOf' W (w.blk v)⟩ := by
  show (if _ then _ else _) = _
  rw [if_pos ⟨h, ho, rfl⟩]
theorem Wins.cell_at {g x : Nat} {C : Array Value} {t : TypeId} {fr : Nat × Nat} {y : Value} (h : W.heap[g]? = some (.cells C t fr)) (hy : C[x]? = some y) : (w.cells W g)[x]? = some (w.cell g x y) := by
  unfold Wins.cells
  rw [h]
  simp only
  have hx := (Array.getElem?_eq_some_iff.1 hy).1
  rw [List.getElem?_map, List.getElem?_range hx]
  simp only [Option.map_some, hy]
theorem Wins.cells_length {g : Nat} : (w.cells W g).length = sizeOf' W g := by
  unfold Wins.cells sizeOf'
  split
  · simp
  · rfl
/-- The memories are alike. -/
theorem Wins.rel (h : ∀ v, v ≤ w.K → w.on v = true → ∃ C t fr, W.heap[w.blk v]? = some (.cells C t fr) ∧ w.e v ≤ C.size ∧ ∀ x, w.off v ≤ x → x < w.e v → ∀ y, C[x]? = some y → V (w.emb W) (w.cell (w.blk v) x y) y ∧ (w.cell (w.blk v) x y).one = true) : Rel W.heap.size (w.emb W) (w.mem W) W := by
  have hrow : ∀ g v L, (w.emb W).row g v = some L → v ≤ w.K ∧ w.on v = true ∧ g = w.blk v ∧ L = ⟨g, w.off v, w.off v, sizeOf' W g⟩ := fun g v L e => by
    have e : (if v ≤ w.K ∧ w.on v = true ∧ g = w.blk v then some (⟨g, w.off v, w.off v, sizeOf' W g⟩ : Go.Avm.Loc) else none) = some L := e
    split at e
    · rename_i hc; exact ⟨hc.1, hc.2.1, hc.2.2, (Option.some.inj e).symm⟩
    · cases e
  refine ⟨Nat.le_refl _, fun g v L e => ?_, fun r k e => (by cases e), fun g v L g' v' L' e e' hb => ?_, fun r r' k e _ => (by cases e)⟩
  · obtain ⟨hv, ho, rfl, rfl⟩ := hrow g v L e
    obtain ⟨C, t, fr, hC, hle, hcell⟩ := h v hv ho
    have hlt : w.blk v < W.heap.size := (Array.getElem?_eq_some_iff.1 hC).1
    have hsz : sizeOf' W (w.blk v) = C.size := by unfold sizeOf'; rw [hC]
    refine ⟨?_, w.cells W (w.blk v), w.K, w.exts, true, Wins.get hlt, hv, ⟨t, ?_⟩, fun h => (by cases h), fun q hq => ?_, fun q hq x hx hxe => ?_⟩
    · show w.blk v < llen _
      rw [llen_eq]; simpa using hlt
    · show World.shape? W (w.blk v) = some (t, sizeOf' W (w.blk v))
      unfold World.shape?
      rw [hC, hsz]
    · rw [Wins.exts_at hv] at hq
      obtain rfl := Option.some.inj hq
      rw [Wins.cells_length, hsz]; exact hle
    · rw [Wins.exts_at hv] at hq
      obtain rfl := Option.some.inj hq
      have hx : w.off v ≤ x := hx
      have hxC : x < C.size := by omega
      have hy : C[x]? = some C[x] := by simp [hxC]
      obtain ⟨h1, h2⟩ := hcell x hx hxe _ hy
      refine ⟨_, C[x], Wins.cell_at hC hy, ?_, h1, h2⟩
      show World.cell? W ⟨w.blk v, w.off v + (x - w.off v), none⟩ = _
      unfold World.cell?
      simp only
      rw [hC]
      show C[w.off v + (x - w.off v)]? = _
      rw [show w.off v + (x - w.off v) = x by omega]
      exact hy
  · obtain ⟨_, _, _, rfl⟩ := hrow g v L e
    obtain ⟨_, _, _, rfl⟩ := hrow g' v' L' e'
    exact ⟨hb, Nat.add_comm _ _⟩
theorem cells_of {cs : List AVal} {w o : Nat} {f : Nat → List AVal} : ∀ {n : Nat}, (∀ j, j < n → (cs.drop (o + j * w)).take w = f j) → (cs.drop o).take (n * w) = cellsW f n
  | 0, _ => by simp [cellsW]
  | n + 1, h => by
    rw [cellsW, ← cells_of (o := o) fun j hj => h j (by omega), ← h n (by omega), Nat.succ_mul, List.take_add, List.drop_drop]
/-- What is seen through a window. -/
theorem Wins.sl {v w0 n cap o len : Nat} {f : Nat → List AVal} (hv : v ≤ w.K) (hb : w.blk v < W.heap.size) (hlen : len = n) (hcap : n ≤ cap) (he : w.off v + n * w0 ≤ w.e v) (hcells : ∀ j, j < n → ((w.cells W (w.blk v)).drop (w.off v + j * w0)).take w0 = f j) :
    Sl (w.mem W) w0 (.slice (w.blk v) (w.off v) len w0 v (some cap)) n f := by
  subst hlen
  refine .inr ⟨_, _, _, _, rfl, ?_, fun k hk => by injection hk with hk; omega⟩
  unfold cellsAt
  rw [Wins.get hb]
  show (bif Nat.ble v w.K then match nth w.exts (Nat.sub w.K v) with
    | some e => bif Nat.ble (Nat.add (w.off v) (len * w0)) e then some (ltake (ldrop (w.cells W (w.blk v)) (w.off v)) (len * w0)) else none
    | none => none else none) = _
  rw [ble_iff.2 hv, cond_true, nth_eq, show Nat.sub w.K v = w.K - v from rfl, Wins.exts_at hv]
  simp only
  rw [ble_iff.2 (show Nat.add (w.off v) (len * w0) ≤ w.e v from he), cond_true, ltake_eq, ldrop_eq, cells_of hcells]
end
end Go.Proofs.YteoeidhcmcacbaaGreatDoor.movesLetters
/-
  Declarations that are handed over.
-/
namespace Go.Proofs.YteoeidhcmcacbaaGreatDoor.movesLetters
open Go Go.Avm Go.ChangeShapes Go.WideShapes Go.Deep

/-- What a value of declared arguments is. -/
inductive ArgsOf (W : World) : Value → Prop
  | nil : ArgsOf W (.slice none 0 0)
  | some (b : Addr) (l c : Nat) (zs : Nat → Int) (hl : l ≤ c) (hc : ∀ k, k < c → W.cell? (b.add k) = Option.some (.int .i64 (zs k))) : ArgsOf W (.slice (Option.some b) l c)
def argsLen : Value → Nat
  | .slice (some _) l _ => l
  | _ => 0
section
variable {H : Type} {enc : TypeId × Value → H} {P : Program} {W : World} {base : Nat} {spare : Nat → Bool} {held : Bool}
theorem open_decls {t e : TypeId} {f0 f1 f2 : Field} {ty : TypeId} {fuel : Nat} {cs : List Value} {x : DataW H × List MemPlace} (ht : P.underlying t = some (.slice e)) (he : P.underlying e = some (.struct #[f0, f1, f2]))
    (ce : P.cellsOf e = 3) (o0 : f0.offset = 0) (o1 : f1.offset = 1) (o2 : f2.offset = 2) (c0 : P.cellsOf f0.type = 1) (c1 : P.cellsOf f1.type = 1) (c2 : P.cellsOf f2.type = 1)
    (t0 : P.underlying f0.type = some .string) (t1 : P.underlying f1.type = some (.slice ty)) (t2 : P.underlying f2.type = some (.int .i64)) (tt : P.underlying ty = some (.int .i64)) (ct : P.cellsOf ty = 1) (hsp : ∀ b, spare b = true)
    (h : DataW.trod enc P W base spare held fuel t cs = some x) :
    (cs = [.slice none 0 0]) ∨
    ∃ (a : Addr) (len cap : Nat) (els rest : List (DataW H)) (nm : Nat → ByteArray) (av : Nat → Value) (rs : Nat → Int), cs = [.slice (some a) len cap] ∧ len ≤ cap ∧ x.1 = .slice els rest ∧ els.length = len ∧
      (∀ i, i < cap → W.cell? (a.add (i * 3)) = some (.string (nm i)) ∧ W.cell? (a.add (i * 3 + 1)) = some (av i) ∧ W.cell? (a.add (i * 3 + 2)) = some (.int .i64 (rs i)) ∧ ArgsOf W (av i)) ∧
      ∀ i, i < len → ∃ d0 d1 d2, els[i]? = some (.agg [d0, d1, d2]) ∧ (0 < argsLen (av i) → ∃ els' rest', d1 = .slice els' rest' ∧ els'.length = argsLen (av i)) := by
  rcases open_slice ht h with ⟨h0, _⟩ | ⟨a, len, cap, m, n, Dt, Pl, rfl, hb, hl, hm, hmm, rfl, hx⟩
  · exact Or.inl h0
  right
  rw [hsp] at hmm
  have hmm : m = cap := hmm
  subst hmm
  have each : ∀ i, i < m → ∃ q : ByteArray × Value × Int, W.cell? (a.add (i * 3)) = some (.string q.1) ∧ W.cell? (a.add (i * 3 + 1)) = some q.2.1 ∧ W.cell? (a.add (i * 3 + 2)) = some (.int .i64 q.2.2) ∧ ArgsOf W q.2.1 ∧
      ∃ d0 d1 d2, Dt i = .agg [d0, d1, d2] ∧ (0 < argsLen q.2.1 → ∃ els' rest', d1 = .slice els' rest' ∧ els'.length = argsLen q.2.1) := by
    intro i hi
    obtain ⟨cs', h1, h2⟩ := hx i hi
    rw [ce] at h1
    obtain ⟨_, hlen, hcell⟩ := World.cells?_some h1
    obtain ⟨xs, k, hk, hxy, _, hxl, hf⟩ := DataW.trod_struct he h2
    match xs, hxl, cs', hlen with
    | [y0, y1, y2], _, [v0, v1, v2], _ =>
      have g0 := hf 0 f0 rfl
      have g1 := hf 1 f1 rfl
      have g2 := hf 2 f2 rfl
      simp [o0, o1, o2, c0, c1, c2] at g0 g1 g2
      have e0 := hcell 0 (by omega)
      have e1 := hcell 1 (by omega)
      have e2 := hcell 2 (by omega)
      rw [add_add] at e0 e1 e2
      simp only [Prod.mk.injEq] at hxy
      obtain ⟨s, hs, _, _⟩ := DataW.trod_string t0 g0
      obtain ⟨z, hz, _, _⟩ := DataW.trod_int t2 g2
      have hs : v0 = .string s := by simpa using hs
      have hz : v2 = .int .i64 z := by simpa using hz
      subst hs hz
      refine ⟨(s, v1, z), by simpa using e0, by simpa using e1, by simpa using e2, ?_⟩
      have hd : Dt i = .agg [y0.1, y1.1, y2.1] := by simpa using hxy.1
      rcases open_ints t1 tt ct g1 with ⟨h3, h4⟩ | ⟨b, l, c, zs, h3, _, h4, _, h5, h6, h7, _⟩
      · have h3 : v1 = .slice none 0 0 := by simpa using h3
        subst h3
        exact ⟨.nil, y0.1, y1.1, y2.1, hd, fun h => absurd h (Nat.lt_irrefl 0)⟩
      · have h3 : v1 = .slice (some b) l c := by simpa using h3
        subst h3
        rw [hsp] at h5
        have h5 : zs.length = c := h5
        refine ⟨.some b l c (fun k => zs.getD k 0) h4 (fun k hk => h7 k (by omega)), y0.1, y1.1, y2.1, hd, fun _ => ⟨_, _, by rw [h6], ?_⟩⟩
        show (lits .i64 (zs.take l)).length = l
        simp [lits]; omega
  obtain ⟨q, hq⟩ := choose_lt (α := ByteArray × Value × Int) each
  refine ⟨a, len, m, _, _, fun i => (q i).1, fun i => (q i).2.1, fun i => (q i).2.2, rfl, hl, rfl, by simp, fun i hi => ?_, fun i hi => ?_⟩
  · obtain ⟨h1, h2, h3, h4, _⟩ := hq i hi
    exact ⟨h1, h2, h3, h4⟩
  · obtain ⟨_, _, _, _, d0, d1, d2, h5, h6⟩ := hq i (by omega)
    refine ⟨d0, d1, d2, ?_, h6⟩
    rw [List.getElem?_map, List.getElem?_range hi]
    show some (Dt i) = _
    rw [h5]
end
end Go.Proofs.YteoeidhcmcacbaaGreatDoor.movesLetters
/-
  Declarations that are handed over, in the abstract machine's memory.
-/
namespace Go.Proofs.YteoeidhcmcacbaaGreatDoor.movesLetters
open Go Go.Avm Go.ChangeShapes Go.WideShapes Go.Deep

def bytes (b : ByteArray) : List Nat := b.data.toList.map (·.toNat)
theorem bytes_lt (b : ByteArray) : ∀ c ∈ bytes b, c < 256 := fun c hc => by
  unfold bytes at hc
  obtain ⟨x, _, rfl⟩ := List.mem_map.1 hc
  exact x.toNat_lt
section
variable (b0 o0 cap : Nat) (av : Nat → Value)
/-- A declaration's arguments, as the machine has them. -/
def argOf (i : Nat) : AVal := match av i with
  | .slice (some b) l c => if 0 < c then .slice b.block b.off l 1 (i + 1) (some c) else .slice b0 o0 0 1 0 (some 0)
  | _ => .nilslice
def theWins : Wins where
  K := cap
  on := fun v => match v with
    | 0 => true
    | i + 1 => match av i with
      | .slice (some b) _ c => decide (0 < c)
      | _ => false
  blk := fun v => match v with
    | 0 => b0
    | i + 1 => match av i with
      | .slice (some b) _ _ => b.block
      | _ => 0
  off := fun v => match v with
    | 0 => o0
    | i + 1 => match av i with
      | .slice (some b) _ _ => b.off
      | _ => 0
  e := fun v => match v with
    | 0 => o0 + cap * 3
    | i + 1 => match av i with
      | .slice (some b) _ c => b.off + c
      | _ => 0
  cell := fun g x y => match y with
    | .int k n => .int k n
    | .string s => .str (bytes s)
    | .slice _ _ _ => argOf b0 o0 av ((x - o0) / 3)
    | _ => .junk
end
theorem cell_block {W : World} {a : Addr} {y : Value} (h : W.cell? a = some y) : a.spot = none ∧ ∃ C t fr, W.heap[a.block]? = some (.cells C t fr) ∧ C[a.off]? = some y := by
  unfold World.cell? at h
  split at h
  · rename_i C t fr hC
    split at h
    · cases h
    · rename_i hs
      exact ⟨by cases hsp : a.spot with
        | none => rfl
        | some z => rw [hsp] at hs; exact absurd rfl hs, C, t, fr, hC, h⟩
  · cases h
theorem take3 {cs : List AVal} {k : Nat} {p q r : AVal} (h0 : cs[k]? = some p) (h1 : cs[k + 1]? = some q) (h2 : cs[k + 2]? = some r) : (cs.drop k).take 3 = [p, q, r] := by
  have hk := (List.getElem?_eq_some_iff.1 h2).1
  rw [List.drop_eq_getElem_cons (by omega), List.drop_eq_getElem_cons (by omega), List.drop_eq_getElem_cons (by omega)]
  have e0 := (List.getElem?_eq_some_iff.1 h0).2
  have e1 := (List.getElem?_eq_some_iff.1 h1).2
  have e2 := (List.getElem?_eq_some_iff.1 h2).2
  rw [e0, e1, e2]; rfl
theorem take1 {cs : List AVal} {k : Nat} {p : AVal} (h0 : cs[k]? = some p) : (cs.drop k).take 1 = [p] := by
  have hk := (List.getElem?_eq_some_iff.1 h0).1
  rw [List.drop_eq_getElem_cons (by omega), (List.getElem?_eq_some_iff.1 h0).2]; rfl
def zsOf (W : World) : Value → Nat → Int
  | .slice (some b) _ _, k => match W.cell? (b.add k) with | some (.int _ z) => z | _ => 0
  | _, _ => 0
def dsOf (W : World) (len : Nat) (nm : Nat → ByteArray) (av : Nat → Value) (rs : Nat → Int) : DS where
  n := len
  nm := fun j => bytes (nm j)
  al := fun j => argsLen (av j)
  ar := fun j => zsOf W (av j)
  rs := rs
theorem decls_some {W : World} {a : Addr} {len cap : Nat} {nm : Nat → ByteArray} {av : Nat → Value} {rs : Nat → Int} (hl : len ≤ cap) (h0 : 0 < cap)
    (h : ∀ i, i < cap → W.cell? (a.add (i * 3)) = some (.string (nm i)) ∧ W.cell? (a.add (i * 3 + 1)) = some (av i) ∧ W.cell? (a.add (i * 3 + 2)) = some (.int .i64 (rs i)) ∧ ArgsOf W (av i)) :
    ∃ s ρ x aa, Rel W.heap.size ρ s W ∧ V ρ x (.slice (some a) len cap) ∧ Decls s x (dsOf W len nm av rs) aa := by
  obtain ⟨b0, o0, spot⟩ := a
  obtain ⟨hsp, C, t, fr, hC, _⟩ := cell_block (h 0 h0).1
  have hsp : spot = none := by
    have : ((⟨b0, o0, spot⟩ : Addr).add (0 * 3)).spot = spot := by simp [Addr.add]
    rw [← this]; exact hsp
  subst hsp
  have hC : W.heap[b0]? = some (.cells C t fr) := by
    have : ((⟨b0, o0, none⟩ : Addr).add (0 * 3)).block = b0 := by simp [Addr.add]
    rw [this] at hC; exact hC
  have hcell : ∀ k y, W.cell? ((⟨b0, o0, none⟩ : Addr).add k) = some y → C[o0 + k]? = some y := fun k y hy => by
    rw [add_plain] at hy
    obtain ⟨_, C', t', fr', h1, h2⟩ := cell_block hy
    rw [hC] at h1
    have h1 := Option.some.inj h1
    injection h1 with h1
    subst h1; exact h2
  have hblk : b0 < W.heap.size := (Array.getElem?_eq_some_iff.1 hC).1
  let w := theWins b0 o0 cap av
  have hsize : o0 + cap * 3 ≤ C.size := by
    have h1 := hcell _ _ (h (cap - 1) (by omega)).2.2.1
    have := (Array.getElem?_eq_some_iff.1 h1).1
    omega
  have hrow0 : (w.emb W).row b0 0 = some ⟨b0, o0, o0, sizeOf' W b0⟩ := w.emb_at (W := W) (v := 0) (Nat.zero_le _) rfl
  have hsz0 : sizeOf' W b0 = C.size := by unfold sizeOf'; rw [hC]
  -- an inner slice that is not empty
  have hin : ∀ i, i < cap → ∀ b l c, av i = .slice (some b) l c → l ≤ c ∧ (∀ k, k < c → ∃ z, W.cell? (b.add k) = some (.int .i64 z)) ∧ (0 < c → b.spot = none ∧ ∃ C' t' fr', W.heap[b.block]? = some (.cells C' t' fr') ∧ b.off + c ≤ C'.size ∧ ∀ k, k < c → ∀ y, W.cell? (b.add k) = some y → C'[b.off + k]? = some y) := by
    intro i hi b l c e
    have hA := (h i hi).2.2.2
    rw [e] at hA
    cases hA with
    | some _ _ _ zs hl hc =>
      refine ⟨hl, fun k hk => ⟨_, hc k hk⟩, fun hpos => ?_⟩
      obtain ⟨hs, C', t', fr', h1, h2⟩ := cell_block (hc 0 hpos)
      obtain ⟨bb, bo, bs⟩ := b
      have hs : bs = none := by
        have : ((⟨bb, bo, bs⟩ : Addr).add 0).spot = bs := by simp [Addr.add]
        rw [← this]; exact hs
      subst hs
      have h1 : W.heap[bb]? = some (.cells C' t' fr') := by
        have : ((⟨bb, bo, none⟩ : Addr).add 0).block = bb := by simp [Addr.add]
        rw [this] at h1; exact h1
      have hk : ∀ k y, W.cell? ((⟨bb, bo, none⟩ : Addr).add k) = some y → C'[bo + k]? = some y := fun k y hy => by
        rw [add_plain] at hy
        obtain ⟨_, C2, t2, fr2, h3, h4⟩ := cell_block hy
        rw [h1] at h3
        have h3 := Option.some.inj h3
        injection h3 with h3
        subst h3; exact h4
      refine ⟨rfl, C', t', fr', h1, ?_, fun k _ y hy => hk k y hy⟩
      have := (Array.getElem?_eq_some_iff.1 (hk _ _ (hc (c - 1) (by omega)))).1
      show bo + c ≤ _
      omega
  have hR : Rel W.heap.size (w.emb W) (w.mem W) W := by
    refine w.rel fun v hv hon => ?_
    cases v with
    | zero =>
      refine ⟨C, t, fr, hC, hsize, fun x hx hxe y hy => ?_⟩
      have hx : o0 ≤ x := hx
      have hxe : x < o0 + cap * 3 := hxe
      obtain ⟨i, c, hc, rfl⟩ : ∃ i c, c < 3 ∧ x = o0 + (i * 3 + c) := ⟨(x - o0) / 3, (x - o0) % 3, Nat.mod_lt _ (by omega), by omega⟩
      have hi : i < cap := by omega
      obtain ⟨h1, h2, h3, h4⟩ := h i hi
      match c, hc with
      | 0, _ =>
        have := hcell _ _ h1
        rw [show o0 + (i * 3 + 0) = o0 + i * 3 by omega, this] at hy
        obtain rfl := Option.some.inj hy
        exact ⟨.str _ _ rfl, rfl⟩
      | 2, _ =>
        have := hcell _ _ h3
        rw [this] at hy
        obtain rfl := Option.some.inj hy
        exact ⟨.int _ _, rfl⟩
      | 1, _ =>
        have := hcell _ _ h2
        rw [this] at hy
        obtain rfl := Option.some.inj hy
        have hdiv : (o0 + (i * 3 + 1) - o0) / 3 = i := by omega
        have hcl : ∀ sl l c, av i = .slice sl l c → w.cell b0 (o0 + (i * 3 + 1)) (av i) = argOf b0 o0 av i := fun sl l c e => by
          show (match av i with
            | .int k n => AVal.int k n
            | .string s => .str (bytes s)
            | .slice _ _ _ => argOf b0 o0 av ((o0 + (i * 3 + 1) - o0) / 3)
            | _ => .junk) = _
          rw [e, hdiv]
        show V (w.emb W) (w.cell b0 (o0 + (i * 3 + 1)) (av i)) (av i) ∧ (w.cell b0 (o0 + (i * 3 + 1)) (av i)).one = true
        cases hav : av i with
        | slice sl l c =>
          have hcl := hcl _ _ _ hav
          rw [hav] at hcl
          rw [hcl]
          unfold argOf
          rw [hav]
          cases sl with
          | none =>
            rw [hav] at h4
            cases h4
            exact ⟨.nilslice, rfl⟩
          | some b =>
            obtain ⟨k1, k2, k3⟩ := hin i hi b l c hav
            simp only
            by_cases hpos : 0 < c
            · rw [if_pos hpos]
              obtain ⟨ks, C', t', fr', k4, k5, _⟩ := k3 hpos
              refine ⟨?_, rfl⟩
              have hr : (w.emb W).row b.block (i + 1) = some ⟨b.block, b.off, b.off, sizeOf' W b.block⟩ := by
                have hblk : w.blk (i + 1) = b.block := by show (match av i with | .slice (some b) _ _ => b.block | _ => 0) = _; rw [hav]
                have hoff : w.off (i + 1) = b.off := by show (match av i with | .slice (some b) _ _ => b.off | _ => 0) = _; rw [hav]
                have hon : w.on (i + 1) = true := by show (match av i with | .slice (some b) _ c => decide (0 < c) | _ => false) = true; rw [hav]; exact decide_eq_true hpos
                have := w.emb_at (W := W) (v := i + 1) (by show i + 1 ≤ cap; omega) hon
                rw [hblk, hoff] at this
                exact this
              have hsz : sizeOf' W b.block = C'.size := by unfold sizeOf'; rw [k4]
              have hV := V.slice (ρ := w.emb W) b.block b.off l 1 (i + 1) (some c) ⟨b.block, b.off, b.off, sizeOf' W b.block⟩ c hr (Nat.le_refl _) k1 (fun k hk => (Option.some.inj hk)) (by show b.off + (b.off - b.off) + c * 1 ≤ sizeOf' W b.block; omega)
              obtain ⟨bb, bo, bs⟩ := b
              have ks : bs = none := ks
              subst ks
              have hat : (⟨bb, bo, bo, sizeOf' W bb⟩ : Go.Avm.Loc).at bo = ⟨bb, bo, none⟩ := by show (⟨bb, bo + (bo - bo), none⟩ : Addr) = _; rw [Nat.sub_self, Nat.add_zero]
              rw [hat] at hV
              exact hV
            · rw [if_neg hpos]
              obtain rfl : c = 0 := by omega
              obtain rfl : l = 0 := by omega
              exact ⟨.slice0 b0 o0 1 0 (some 0) ⟨b0, o0, o0, sizeOf' W b0⟩ b hrow0 (Nat.le_refl _) (fun k hk => (Option.some.inj hk).symm), rfl⟩
        | _ => rw [hav] at h4; cases h4
    | succ i =>
      have hi : i < cap := by have : i + 1 ≤ cap := hv; omega
      have hon : (match av i with | .slice (some b) _ c => decide (0 < c) | _ => false) = true := hon
      cases hav : av i with
      | slice sl l c =>
        cases sl with
        | none => rw [hav] at hon; cases hon
        | some b =>
          rw [hav] at hon
          have hpos : 0 < c := of_decide_eq_true hon
          obtain ⟨k1, k2, k3⟩ := hin i hi b l c hav
          obtain ⟨ks, C', t', fr', k4, k5, k6⟩ := k3 hpos
          have hblk : w.blk (i + 1) = b.block := by show (match av i with | .slice (some b) _ _ => b.block | _ => 0) = _; rw [hav]
          have hoff : w.off (i + 1) = b.off := by show (match av i with | .slice (some b) _ _ => b.off | _ => 0) = _; rw [hav]
          have he : w.e (i + 1) = b.off + c := by show (match av i with | .slice (some b) _ c => b.off + c | _ => 0) = _; rw [hav]
          rw [hblk, hoff, he]
          refine ⟨C', t', fr', k4, k5, fun x hx hxe y hy => ?_⟩
          obtain ⟨z, hz⟩ := k2 (x - b.off) (by omega)
          have := k6 _ (by omega) _ hz
          rw [show b.off + (x - b.off) = x by omega, hy] at this
          obtain rfl := Option.some.inj this
          exact ⟨.int _ _, rfl⟩
      | _ => rw [hav] at hon; cases hon
  have hV : V (w.emb W) (.slice b0 o0 len 3 0 (some cap)) (.slice (some ⟨b0, o0, none⟩) len cap) := by
    have hV := V.slice (ρ := w.emb W) b0 o0 len 3 0 (some cap) ⟨b0, o0, o0, sizeOf' W b0⟩ cap hrow0 (Nat.le_refl _) hl (fun k hk => (Option.some.inj hk)) (by show o0 + (o0 - o0) + cap * 3 ≤ sizeOf' W b0; omega)
    have hat : (⟨b0, o0, o0, sizeOf' W b0⟩ : Go.Avm.Loc).at o0 = ⟨b0, o0, none⟩ := by show (⟨b0, o0 + (o0 - o0), none⟩ : Addr) = _; rw [Nat.sub_self, Nat.add_zero]
    rw [hat] at hV
    exact hV
  refine ⟨w.mem W, w.emb W, _, argOf b0 o0 av, hR, hV, ?_, fun j hj => ?_⟩
  · refine w.sl (v := 0) (o := 0) (W := W) (Nat.zero_le _) hblk rfl hl (by show o0 + len * 3 ≤ o0 + cap * 3; omega) fun j hj => ?_
    obtain ⟨h1, h2, h3, h4⟩ := h j (by have : j < len := hj; omega)
    have q1 := Wins.cell_at (w := w) hC (hcell _ _ h1)
    have q2 := Wins.cell_at (w := w) hC (hcell _ _ h2)
    have q3 := Wins.cell_at (w := w) hC (hcell _ _ h3)
    have hcl : w.cell b0 (o0 + (j * 3 + 1)) (av j) = argOf b0 o0 av j := by
      have hdiv : (o0 + (j * 3 + 1) - o0) / 3 = j := by omega
      show (match av j with
        | .int k n => AVal.int k n
        | .string s => .str (bytes s)
        | .slice _ _ _ => argOf b0 o0 av ((o0 + (j * 3 + 1) - o0) / 3)
        | _ => .junk) = _
      rw [hdiv]
      generalize av j = y at h4
      cases h4 <;> rfl
    rw [hcl] at q2
    exact take3 q1 (show (w.cells W b0)[o0 + j * 3 + 1]? = _ by rw [show o0 + j * 3 + 1 = o0 + (j * 3 + 1) by omega]; exact q2) (show (w.cells W b0)[o0 + j * 3 + 2]? = _ by rw [show o0 + j * 3 + 2 = o0 + (j * 3 + 2) by omega]; exact q3)
  · have hj : j < len := hj
    have hjc : j < cap := by omega
    show Sl _ 1 (argOf b0 o0 av j) (argsLen (av j)) (argCell (zsOf W (av j)))
    cases hav : av j with
    | slice sl l c =>
      unfold argOf
      rw [hav]
      cases sl with
      | none => exact .inl ⟨rfl, rfl⟩
      | some b =>
        obtain ⟨k1, k2, k3⟩ := hin j hjc b l c hav
        simp only
        by_cases hpos : 0 < c
        · rw [if_pos hpos]
          obtain ⟨ks, C', t', fr', k4, k5, k6⟩ := k3 hpos
          have hblk' : w.blk (j + 1) = b.block := by show (match av j with | .slice (some b) _ _ => b.block | _ => 0) = _; rw [hav]
          have hoff : w.off (j + 1) = b.off := by show (match av j with | .slice (some b) _ _ => b.off | _ => 0) = _; rw [hav]
          have he : w.e (j + 1) = b.off + c := by show (match av j with | .slice (some b) _ c => b.off + c | _ => 0) = _; rw [hav]
          have := w.sl (W := W) (v := j + 1) (w0 := 1) (n := l) (cap := c) (o := 0) (len := l) (f := argCell (zsOf W (.slice (some b) l c))) (by show j + 1 ≤ cap; omega) (by rw [hblk']; exact (Array.getElem?_eq_some_iff.1 k4).1) rfl k1 (by rw [hoff, he]; omega) fun k hk => ?_
          · rw [hblk', hoff] at this
            exact this
          · obtain ⟨z, hz⟩ := k2 k (by omega)
            rw [hblk', hoff, Nat.mul_one]
            have q := Wins.cell_at (w := w) k4 (k6 k (by omega) _ hz)
            rw [take1 q]
            show [AVal.int .i64 z] = [.int .i64 (match W.cell? (b.add k) with | some (.int _ z) => z | _ => 0)]
            rw [hz]
        · rw [if_neg hpos]
          obtain rfl : c = 0 := by omega
          obtain rfl : l = 0 := by omega
          have := w.sl (W := W) (v := 0) (w0 := 1) (n := 0) (cap := 0) (o := 0) (len := 0) (f := argCell (zsOf W (.slice (some b) 0 0))) (Nat.zero_le _) hblk rfl (Nat.le_refl _) (by show o0 + 0 * 1 ≤ o0 + cap * 3; omega) fun k hk => absurd hk (Nat.not_lt_zero k)
          exact this
    | _ => have h4 := (h j hjc).2.2.2; rw [hav] at h4; cases h4
/-- A slice of no room. -/
theorem decls_none {W : World} {a : Addr} {e : TypeId} {n : Nat} (h : W.shape? a.block = some (e, n)) : ∃ s ρ x aa, Rel W.heap.size ρ s W ∧ V ρ x (.slice (some a) 0 0) ∧ Decls s x (dsOf W 0 (fun _ => default) (fun _ => default) (fun _ => 0)) aa := by
  unfold World.shape? at h
  split at h
  · rename_i C t fr hC
    let w : Wins := { K := 0, on := fun _ => true, blk := fun _ => a.block, off := fun _ => 0, e := fun _ => 0, cell := fun _ _ _ => .junk }
    have hblk : a.block < W.heap.size := (Array.getElem?_eq_some_iff.1 hC).1
    have hR : Rel W.heap.size (w.emb W) (w.mem W) W := w.rel fun v hv hon => ⟨C, t, fr, hC, Nat.zero_le _, fun x _ hx => absurd hx (Nat.not_lt_zero x)⟩
    have hrow : (w.emb W).row a.block 0 = some ⟨a.block, 0, 0, sizeOf' W a.block⟩ := w.emb_at (W := W) (v := 0) (Nat.zero_le _) rfl
    refine ⟨w.mem W, w.emb W, .slice a.block 0 0 3 0 (some 0), fun _ => .nilslice, hR, .slice0 a.block 0 3 0 (some 0) ⟨a.block, 0, 0, sizeOf' W a.block⟩ a hrow (Nat.le_refl _) (fun k hk => (Option.some.inj hk).symm), ?_, fun j hj => absurd hj (Nat.not_lt_zero j)⟩
    exact w.sl (W := W) (v := 0) (w0 := 3) (n := 0) (cap := 0) (o := 0) (len := 0) (Nat.zero_le _) hblk rfl (Nat.le_refl _) (by show 0 + 0 * 3 ≤ 0; omega) fun k hk => absurd hk (Nat.not_lt_zero k)
  · cases h
end Go.Proofs.YteoeidhcmcacbaaGreatDoor.movesLetters
/-
  Declarations that are handed over, of no more bytes than there are.
-/
namespace Go.Proofs.YteoeidhcmcacbaaGreatDoor.movesLetters
open Go Go.Avm Go.ChangeShapes Go.WideShapes Go.Deep

section
variable {H : Type} {enc : TypeId × Value → H} {P : Program} {W : World}
theorem weights_mem {e : TypeId} {d : DataW H} {x : Nat} (hx : x ∈ d.weights P e) : ∀ {l : List (DataW H)}, d ∈ l → x ∈ DataW.weightsAll P e l
  | y :: l, h => by
    unfold DataW.weightsAll
    rw [List.mem_append]
    rcases List.mem_cons.1 h with rfl | h
    · exact .inl hx
    · exact .inr (weights_mem hx h)
theorem weights_slice {t e : TypeId} (ht : P.underlying t = some (.slice e)) (els rest : List (DataW H)) : (DataW.slice els rest).weights P t = (els.length + rest.length) * P.bytesOf e :: (DataW.weightsAll P e els ++ DataW.weightsAll P e rest) := by
  unfold DataW.weights
  rw [ht]
theorem decls_in {t e : TypeId} {f0 f1 f2 : Field} {ty : TypeId} {v0 : Value} {d : DataW H} {p : List MemPlace} {base : Nat} (ht : P.underlying t = some (.slice e)) (he : P.underlying e = some (.struct #[f0, f1, f2]))
    (ce : P.cellsOf e = 3) (o0 : f0.offset = 0) (o1 : f1.offset = 1) (o2 : f2.offset = 2) (c0 : P.cellsOf f0.type = 1) (c1 : P.cellsOf f1.type = 1) (c2 : P.cellsOf f2.type = 1)
    (t0 : P.underlying f0.type = some .string) (t1 : P.underlying f1.type = some (.slice ty)) (t2 : P.underlying f2.type = some (.int .i64)) (tt : P.underlying ty = some (.int .i64)) (ct : P.cellsOf ty = 1) (be : P.bytesOf e = 48) (bt : P.bytesOf ty = 8)
    (hok : Value.okWide P W .any base t v0) (h : DataW.Trod enc P W 0 (fun _ => true) true t v0 d p) (hw : (d.weights P t).all (· ≤ reachBytes) = true) :
    ∃ s ρ x D aa, Rel W.heap.size ρ s W ∧ V ρ x v0 ∧ Decls s x D aa ∧ (∀ j, ∀ c ∈ D.nm j, c < 256) ∧ D.n * 3 ≤ 8796093022208 ∧ ∀ j, j < D.n → D.al j ≤ 17592186044416 := by
  obtain ⟨a0, len0, cap0, rfl⟩ := okWide_slice ht hok
  obtain ⟨fuel, hf⟩ := h
  have hcs : (Value.slice a0 len0 cap0).cells.toList = [.slice a0 len0 cap0] := rfl
  rw [hcs] at hf
  rcases open_decls ht he ce o0 o1 o2 c0 c1 c2 t0 t1 t2 tt ct (fun _ => rfl) hf with h1 | ⟨a, len, cap, els, rest, nm, av, rs, h1, hl, hd, hlen, hc, hel⟩
  · have h1 : Value.slice a0 len0 cap0 = .slice none 0 0 := by simpa using h1
    rw [h1]
    exact ⟨_, _, .nilslice, dsOf W 0 (fun _ => default) (fun _ => default) (fun _ => 0), fun _ => .nilslice, Rel.empty W, .nilslice, ⟨.inl ⟨rfl, rfl⟩, fun j hj => absurd hj (Nat.not_lt_zero j)⟩, fun j c hc => bytes_lt _ c hc, by show 0 * 3 ≤ _; omega, fun j hj => absurd hj (Nat.not_lt_zero j)⟩
  · have h1 : Value.slice a0 len0 cap0 = .slice (some a) len cap := by simpa using h1
    injection h1 with q1 q2 q3
    subst q1 q2 q3
    have hd : d = .slice els rest := hd
    rw [hd, weights_slice ht, List.all_eq_true] at hw
    have hn : len0 * 3 ≤ 8796093022208 := by
      have := of_decide_eq_true (hw _ (List.mem_cons_self ..))
      rw [be] at this
      unfold reachBytes at this
      omega
    have ha : ∀ j, j < len0 → argsLen (av j) ≤ 17592186044416 := fun j hj => by
      obtain ⟨d0, d1, d2, e1, e2⟩ := hel j hj
      by_cases hz : 0 < argsLen (av j)
      · obtain ⟨els', rest', rfl, e3⟩ := e2 hz
        have hm : (els'.length + rest'.length) * P.bytesOf ty ∈ (DataW.agg [d0, .slice els' rest', d2]).weights P e := by
          unfold DataW.weights
          rw [he]
          show _ ∈ DataW.weightsEach P [f0.type, f1.type, f2.type] [d0, .slice els' rest', d2]
          unfold DataW.weightsEach
          rw [List.mem_append]
          right
          unfold DataW.weightsEach
          rw [List.mem_append]
          left
          rw [weights_slice t1]
          exact List.mem_cons_self ..
        have := of_decide_eq_true (hw _ (List.mem_cons_of_mem _ (List.mem_append_left _ (weights_mem hm (List.mem_of_getElem? e1)))))
        rw [bt, e3] at this
        unfold reachBytes at this
        omega
      · omega
    by_cases hcap : 0 < cap0
    · obtain ⟨s, ρ, x, aa, r1, r2, r3⟩ := decls_some hl hcap hc
      exact ⟨s, ρ, x, _, aa, r1, r2, r3, fun j c hc => bytes_lt _ c hc, hn, ha⟩
    · obtain rfl : cap0 = 0 := by omega
      obtain rfl : len0 = 0 := by omega
      have hsh : ∃ e n, W.shape? a.block = some (e, n) := by
        simp only [Value.okWide, ht, Cell.okWide, Cell.ok] at hok
        obtain ⟨_, _, _, _, row, cells, h, _⟩ := hok
        exact ⟨row, cells, h⟩
      obtain ⟨e', n', hsh⟩ := hsh
      obtain ⟨s, ρ, x, aa, r1, r2, r3⟩ := decls_none hsh
      exact ⟨s, ρ, x, _, aa, r1, r2, r3, fun j c hc => bytes_lt _ c hc, by show 0 * 3 ≤ _; omega, fun j hj => absurd hj (Nat.not_lt_zero j)⟩
end
/-- The run, for whatever is handed over. -/
theorem run3 {s : AS} {x : AVal} {D : DS} {aa : Nat → AVal} {t : Int} (hb : ∀ j, ∀ c ∈ D.nm j, c < 256) (hD : Decls s x D aa) (hn : D.n * 3 ≤ 8796093022208) (ha : ∀ j, j < D.n → D.al j ≤ 17592186044416) : ∃ n, isTrue (call T.tab n 3 [x, .int .i64 t] s) = true := by
  obtain ⟨n, v, s', h1, h2⟩ := law3 (t := t) hb hD hn ha
  have h2 : v = .bool true := h2
  subst h2
  exact ⟨n, by rw [h1]; rfl⟩
end Go.Proofs.YteoeidhcmcacbaaGreatDoor.movesLetters
