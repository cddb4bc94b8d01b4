/- DealSetups: the walk. -/
import Derived.Test.YtkfghpniaahjjaaDealH
namespace Go.Proofs.Ytkfghpniaahjjaa.law22
set_option maxRecDepth 100000
open Go Go.Eng Go.RowKit Cr Go.Proofs.Ytkfghpniaahjjaa Go.Proofs.Ytkfghpniaahjjaa.deal

theorem ent_sets : enters Try.prog 3 Try.f3 := enters_mk (by kernel_rfl) (by kernel_rfl) (by kernel_rfl)

noncomputable def dsS (d t : List Int) (n o : Int) (xs : List (Nat × SV)) : St := mkSt Try.f3.ntmps 144 ([(0, .is (.one (.ro (.int .i64) d))), (1, .is (.one (.ro (.int .i64) t))), (2, sI .i64 n), (3, sI .i64 o), (8, .is (.one .F)), (9, .is (.one (.ptr 128 0)))] ++ xs)
  [(128, [.sl 64 0 0 (0+d.length) 1, .sl 88 0 0 (0+t.length) 1, .v (.int .i64 n), .sl 112 0 0 o.toNat 12]), (112, [.row pt1 o.toNat (List.replicate o.toNat (0,0))]), (88, [.ints .i64 (0+t.length) (List.take 0 [] ++ t)]), (64, [.ints .i64 (0+d.length) (List.take 0 [] ++ d)])]
abbrev sB (b : Bool) : SV := .is (.one (.v (.bool b)))

/-- The copies. -/
def cp (d : List Int) : List Int := List.take (0 + d.length) (List.drop 0 (List.take 0 [] ++ d))
def cpo (o : Int) : List (Fp × Fp) := List.take o.toNat (List.drop 0 (List.replicate o.toNat (0, 0)))
theorem cp_eq (d : List Int) : cp d = d := by simp [cp]
theorem cpo_len (o : Int) : (cpo o).length = o.toNat := by simp [cpo]

abbrev PB (d t : List Int) (o : Int) (X : Prop) : Prop := 0 + (0 + d.length) ≤ 0 + d.length ∧ 0 + (0 + t.length) ≤ 0 + t.length ∧ 0 + o.toNat ≤ o.toNat ∧ X
theorem PB_intro {d t : List Int} {o : Int} {X : Prop} (h : X) : PB d t o X := ⟨by omega, by omega, by omega, h⟩
abbrev ok (b : Bool) : Prop := (b, ()) = (true, ())

def rY (d t : List Int) (o : Int) : Prop := ((o == 0) = true → PB d t o (True ∧ (3 : Int) ≠ 0 ∧ ok (lst (cp d) (cpo o) == IntKind.i64.wrap ((d.length : Int) - IntKind.i64.wrap ((IntKind.i64.wrap ((d.length : Int) - 1)).tdiv 3))))) ∧ ((o == 0) = false → ok false)
def rZ (d t : List Int) (o : Int) (R : Bool) : Prop := ((!R) = true → ok true) ∧ ((!R) = false → (decide (o > 0) = true → PB d t o (True ∧ ((lst (cp d) (cpo o) == o) = true → ok true) ∧ ((lst (cp d) (cpo o) == o) = false → rY d t o))) ∧ (decide (o > 0) = false → rY d t o))
def rX (d t : List Int) (n o : Int) (R : Bool) : Prop := PB d t o (preSet ((cp d, cp t, n, cpo o), ()) ∧
  ((!((chk (cp d) (cp t) n (cpo o) == 0) == R)) = true → ok false) ∧
  ((!((chk (cp d) (cp t) n (cpo o) == 0) == R)) = false → ((!R) = true → PB d t o (preSet ((cp d, cp t, n, cpo o), ()) ∧ ((chk (cp d) (cp t) n (cpo o) != 1) = true → ok false) ∧ ((chk (cp d) (cp t) n (cpo o) != 1) = false → rZ d t o R))) ∧
    ((!R) = false → rZ d t o R)))

theorem chk01 (d t : List Int) (n : Int) (o : List (Fp × Fp)) : chk d t n o = 0 ∨ chk d t n o = 1 := by
  unfold chk; repeat' split
  all_goals simp

theorem rZ_ok (d t : List Int) (o : Int) (h0 : 0 ≤ o) (R : Bool) : rZ d t o R := by
  refine ⟨fun _ => rfl, fun _ => ⟨fun ho => PB_intro ⟨trivial, fun _ => rfl, fun hf => ?_⟩, fun ho => ?_⟩⟩
  · exfalso
    have ho : o > 0 := of_decide_eq_true ho
    have : lst (cp d) (cpo o) = o := by
      unfold lst
      rw [cpo_len, if_pos (by simp; omega)]
      omega
    rw [this] at hf; simp at hf
  · have ho : ¬ o > 0 := of_decide_eq_false ho
    have : o = 0 := by omega
    subst this
    refine ⟨fun _ => PB_intro ⟨trivial, by decide, ?_⟩, fun h => absurd h (by decide)⟩
    have : lst (cp d) (cpo 0) = IntKind.i64.wrap ((d.length : Int) - IntKind.i64.wrap ((IntKind.i64.wrap ((d.length : Int) - 1)).tdiv 3)) := by
      unfold lst
      rw [cpo_len, cp_eq]
      rfl
    rw [this]
    simp

theorem rX_ok (d t : List Int) (n o : Int) (R : Bool) (h0 : 0 ≤ o) (hd : d.length < 4611686018427387904) (ht : t.length < 4611686018427387904) (h : (chk d t n (cpo o) == 0) = R) : rX d t n o R := by
  have hp : preSet ((cp d, cp t, n, cpo o), ()) := ⟨by rw [cp_eq]; exact hd, by rw [cp_eq]; exact ht⟩
  rw [← cp_eq d, ← cp_eq t] at h
  refine PB_intro ⟨?_, fun h1 => ?_, fun _ => ⟨fun hr => PB_intro ⟨?_, fun h1 => ?_, fun _ => rZ_ok d t o h0 R⟩, fun _ => rZ_ok d t o h0 R⟩⟩
  · exact hp
  · rw [cp_eq, cp_eq] at h h1; rw [h] at h1; simp at h1
  · exact hp
  · rw [cp_eq, cp_eq] at h h1
    exfalso
    rcases chk01 d t n (cpo o) with e | e
    · rw [e] at h; have : R = true := h.symm; rw [this] at hr; simp at hr
    · rw [e] at h1; simp at h1

noncomputable abbrev E0 (w : World) (M0 : Mem) : Env := ⟨Try.prog, sps [spCheck, spLeast, law22.spRising, law22.spHead], ⟨w, [], noG, M0⟩⟩
noncomputable abbrev K0 (w : World) (M0 : Mem) : St → Prop := retK (E0 w M0) Try.f3 (post [.val .bool] (true, ()))

theorem ds_rest (w : World) (M0 : Mem) (N : Nat) {d t : List Int} {n o : Int} {R : Bool} (hsp : SpecsOk Try.prog (sps [spCheck, spLeast, law22.spRising, law22.spHead])) (h0 : 0 ≤ o) (hd : d.length < 4611686018427387904) (ht : t.length < 4611686018427387904) (h : (chk d t n (cpo o) == 0) = R) {x : Nat → St → Prop} :
    Tr (E0 w M0) N ((codeOf Try.f3).drop 8) (dsS d t n o [(10, sB R)]) (K0 w M0) (K0 w M0) x := by
  refine tr_vc hsp mixed _ _ ?_
  refine vcx (X := rX d t n o R) (by kernel_rfl) (rX_ok d t n o R h0 hd ht h)

/-- What the law itself holds right, ahead of the last clause. -/
def rB (d t : List Int) (n o : Int) : Bool := risB d && (risB t && (decide (n ≥ 1) && (decide (n ≤ (t.length : Int)) && decide (o ≤ (d.length : Int)))))

theorem risF_last : ∀ (xs : List Int) (a : Int), risF a xs = true → xs ≠ [] → xs.getD (xs.length - 1) 0 > a := by
  intro xs
  induction xs with
  | nil => intro a _ h; exact absurd rfl h
  | cons x xs ih =>
    intro a h _
    unfold risF at h
    split at h
    · cases h
    · rename_i hx
      have hx : a < x := by omega
      cases xs with
      | nil => simpa using hx
      | cons y ys =>
        have := ih x h (by simp)
        have e : (x :: y :: ys).getD ((x :: y :: ys).length - 1) 0 = (y :: ys).getD ((y :: ys).length - 1) 0 := by simp
        rw [e]; omega

theorem risB_eq (xs : List Int) : risB xs = (!((xs.length : Int) == 0) && risF 0 xs) := by
  unfold risB
  cases hr : risF 0 xs with
  | false => simp
  | true =>
    cases xs with
    | nil => rfl
    | cons x xs =>
      have h := risF_last (x :: xs) 0 hr (by simp)
      have : deal.ahead (x :: xs) (x :: xs).length > 0 := h
      have h2 : (((x :: xs).length : Int) == 0) = false := by simp; omega
      simp only [this, decide_true, Bool.and_true, h2, Bool.not_false]

theorem chk_rB (d t : List Int) (n o : Int) (h0 : 0 ≤ o) : (chk d t n (cpo o) == 0) = (rB d t n o && (!(o == 0) || decide (d = t))) := by
  unfold chk rB
  rw [risB_eq, risB_eq, cpo_len]
  have eo : ((o.toNat : Nat) : Int) = o := by omega
  rw [eo]
  cases h1 : ((d.length : Int) == 0)
  · cases h2 : risF 0 d
    · simp
    · cases h3 : ((t.length : Int) == 0)
      · cases h4 : risF 0 t
        · simp
        · by_cases h5 : n < 1
          · have : ¬ n ≥ 1 := by omega
            simp [h5]; omega
          · have h5' : n ≥ 1 := by omega
            by_cases h6 : n > (t.length : Int)
            · have : ¬ n ≤ (t.length : Int) := by omega
              simp [h5, h6]; omega
            · have h6' : n ≤ (t.length : Int) := by omega
              by_cases h7 : o > (d.length : Int)
              · have : ¬ o ≤ (d.length : Int) := by omega
                simp [h5, h6, h7]; omega
              · have h7' : o ≤ (d.length : Int) := by omega
                cases h8 : (o == 0)
                · simp [h5, h5', h6, h6', h7, h7']
                · by_cases h9 : d = t
                  · subst h9; simp [h5', h6', h6, h5, h7, h7']
                  · simp [h5, h5', h6, h6', h7, h7', h9]
      · simp
  · simp

theorem tr_eq {E : Env} {N : Nat} {l l' : List Code} {σ : St} {n r : St → Prop} {x : Nat → St → Prop} (e : l = l') (h : Tr E N l' σ n r x) : Tr E N l σ n r x := by rw [e]; exact h

def dsJ (d t : List Int) (n : Int) (g : Int × Bool) : Prop := ∃ k, k ≤ d.length ∧ g.1 = (k : Int) ∧ g.2 = (rB d t n 0 && ((d.length : Int) == (t.length : Int)) && decide (d.take k = t.take k))
def dsN (d t : List Int) (g : Int × Bool) : Int × Bool := (IntKind.i64.wrap (g.1 + 1), d.getD g.1.toNat 0 == t.getD g.1.toNat 0)

theorem dsJ_next {d t : List Int} {n : Int} {g : Int × Bool} (hd : d.length < 4611686018427387904) (hj : dsJ d t n g) (h2 : g.2 = true) (h1 : g.1 < (d.length : Int)) : dsJ d t n (dsN d t g) ∧ d.length - (dsN d t g).1.toNat < d.length - g.1.toNat := by
  obtain ⟨k, hk, e1, e2⟩ := hj
  obtain ⟨i, b⟩ := g
  simp only at e1 e2 h1 h2
  subst e1
  have hk : k < d.length := by omega
  have ew : IntKind.i64.wrap ((k : Int) + 1) = ((k + 1 : Nat) : Int) := wrap_succ (by omega)
  refine ⟨⟨k + 1, hk, ew, ?_⟩, ?_⟩
  · show (d.getD (k : Int).toNat 0 == t.getD (k : Int).toNat 0) = _
    rw [h2] at e2
    have e2 := e2.symm
    simp only [Bool.and_eq_true, decide_eq_true_eq, beq_iff_eq] at e2
    obtain ⟨⟨e3, e4⟩, e5⟩ := e2
    have hkt : k < t.length := by omega
    rw [e3, Int.toNat_natCast, List.take_succ_eq_append_getElem hk, List.take_succ_eq_append_getElem hkt, e5, e4]
    have ed : d.getD k 0 = d[k] := by simp [hk]
    have et : t.getD k 0 = t[k] := by simp [hkt]
    rw [ed, et]
    have : (List.take k t ++ [d[k]] = List.take k t ++ [t[k]]) ↔ d[k] = t[k] := ⟨fun h => by have := List.append_cancel_left h; simpa using this, fun h => by rw [h]⟩
    simp only [this, Bool.true_and, beq_self_eq_true]
    exact Bool.beq_eq_decide_eq _ _
  · show d.length - (IntKind.i64.wrap ((k : Int) + 1)).toNat < _
    rw [ew]; omega

theorem dsJ_out {d t : List Int} {n : Int} {g : Int × Bool} (hj : dsJ d t n g) (h : g.2 = false ∨ ¬ g.1 < (d.length : Int)) : g.2 = (rB d t n 0 && decide (d = t)) := by
  obtain ⟨k, hk, e1, e2⟩ := hj
  rcases h with h | h
  · rw [h] at e2 ⊢
    by_cases hdt : d = t
    · subst hdt; simpa using e2
    · simp [hdt]
  · have : k = d.length := by omega
    subst this
    rw [e2, List.take_length]
    by_cases hdt : d = t
    · subst hdt; simp
    · have : ¬ (((d.length : Int) == (t.length : Int)) = true ∧ d = t.take d.length) := by
        rintro ⟨h1, h2⟩
        have h1 : (d.length : Int) = (t.length : Int) := by simpa using h1
        have h1 : d.length = t.length := by omega
        rw [h1, List.take_length] at h2
        exact hdt h2
      cases h1 : ((d.length : Int) == (t.length : Int))
      · simp [hdt]
      · have : ¬ d = t.take d.length := fun e => this ⟨h1, e⟩
        simp [hdt, this]

theorem and15 (o : Int) : 0 ≤ bitOp .and .i64 o 15 ∧ bitOp .and .i64 o 15 ≤ 15 := by
  have h : ((BitVec.ofInt 64 o &&& BitVec.ofInt 64 15 : BitVec 64)).toNat ≤ 15 := by
    rw [BitVec.toNat_and]
    exact Nat.le_trans Nat.and_le_right (by decide)
  have e : bitOp .and .i64 o 15 = ((BitVec.ofInt 64 o &&& BitVec.ofInt 64 15 : BitVec 64).toNat : Int) := by
    show IntKind.i64.wrap ((BitVec.ofInt 64 o &&& BitVec.ofInt 64 15 : BitVec 64).toNat : Int) = _
    exact wrap_i64' (by omega) (by omega)
  rw [e]; omega

abbrev preSets : HL [.sl (.int .i64), .sl (.int .i64), .int .i64, .int .i64] → Prop := fun (d, t, _, _, _) => List.length d * 8 ≤ 140737488355328 ∧ List.length t * 8 ≤ 140737488355328
theorem fn_sets : FnOk Try.prog 3 [.sl (.int .i64), .sl (.int .i64), .int .i64, .int .i64] [.val .bool] noG preSets (fun _ => (true, ())) := by
  have hsp : SpecsOk Try.prog (sps [spCheck, spLeast, law22.spRising, law22.spHead]) := sps_cons (fnSpec_ok fn_check) (sps_cons (fnSpec_ok fn_least) (sps_cons (fnSpec_ok law22.fn_rising) (sps_cons (fnSpec_ok law22.fn_head) sps_nil)))
  refine fn_of_tr (sp := sps [spCheck, spLeast, law22.spRising, law22.spHead]) ent_sets (by decide) (by decide) (by kernel_rfl) ?_
  rintro w M0 ⟨d, t, n, o0, ⟨⟩⟩
  revert d t n
  intro (d : List Int) (t : List Int) (n : Int) _ hp
  obtain ⟨hd, ht⟩ := hp
  have hd : d.length * 8 ≤ 140737488355328 := hd
  have ht : t.length * 8 ≤ 140737488355328 := ht
  obtain ⟨a1, a2⟩ := and15 o0
  show Tr (E0 w M0) _ _ _ (K0 w M0) (K0 w M0) _
  refine tr_cut hsp mixed 5 (dsS d t n (bitOp .and .i64 o0 15) []) True ?_ (fun _ => ?_)
  · refine vcx (X := (True ∧ ((!true) = true → ok false) ∧ ((!true) = false → (0 : Nat) ≤ 0 ∧ (0 + d.length) * 8 ≤ 140737488355328 ∧ 0 + d.length ≤ 4611686018427387904 ∧ (0 : Nat) ≤ 0 ∧ (0 + t.length) * 8 ≤ 140737488355328 ∧ 0 + t.length ≤ 4611686018427387904 ∧
      (0 ≤ bitOp .and .i64 o0 15 ∧ bitOp .and .i64 o0 15 ≤ bitOp .and .i64 o0 15 ∧ ((96 : Nat) : Int) * bitOp .and .i64 o0 15 ≤ 281474976710656 ∧ bitOp .and .i64 o0 15 ≤ 9223372036854775807) ∧ (dsS d t n (bitOp .and .i64 o0 15) []).triv True))) (by kernel_rfl) ?_
    exact ⟨trivial, fun h => absurd h (by decide), fun _ => ⟨by omega, by omega, by omega, by omega, by omega, by omega, ⟨by omega, by omega, by omega, by omega⟩, triv_intro trivial⟩⟩
  generalize bitOp .and .i64 o0 15 = o at a1 a2 ⊢
  have hd2 : d.length < 4611686018427387904 := by omega
  have ht2 : t.length < 4611686018427387904 := by omega
  refine tr_cut hsp mixed 2 (dsS d t n o [(10, sB (rB d t n o)), (50, sB (o == 0))]) True ?_ (fun _ => ?_)
  · let τ := dsS d t n o [(10, sB (rB d t n o)), (50, sB (o == 0))]
    let fl : Prop := τ.trivW [(10, rB d t n o = false)] True
    refine vcx (X := ((risB d = true → preLen (t, ()) ∧
      (risB t = true → (decide (n ≥ 1) = true → (decide (n ≤ (t.length : Int)) = true → τ.trivW [(10, sB (decide (o ≤ (d.length : Int))) = sB (rB d t n o))] True) ∧ (decide (n ≤ (t.length : Int)) = false → fl)) ∧ (decide (n ≥ 1) = false → fl)) ∧ (risB t = false → fl)) ∧ (risB d = false → fl)) |> fun X => preLen (d, ()) ∧ X) (by kernel_rfl) ?_
    have hf : ∀ h : rB d t n o = false, fl := fun h => trivW_intro (by rintro p hp; simp only [List.mem_singleton] at hp; subst hp; exact h) trivial
    refine ⟨hd2, fun h1 => ⟨ht2, fun h2 => ⟨fun h3 => ⟨fun h4 => trivW_intro ?_ trivial, fun h4 => hf ?_⟩, fun h3 => hf ?_⟩, fun h2 => hf ?_⟩, fun h1 => hf ?_⟩
    · rintro p hp; simp only [List.mem_singleton] at hp; subst hp
      simp only [rB, h1, h2, h3, h4, Bool.true_and]
    · simp only [rB, h4, Bool.and_false, Bool.false_and]
    · simp only [rB, h3, Bool.and_false, Bool.false_and]
    · simp only [rB, h2, Bool.and_false, Bool.false_and]
    · simp only [rB, h1, Bool.and_false, Bool.false_and]
  refine tr_cond (o == 0) (c := nthC (codeOf Try.f3) 7) (by kernel_rfl) (by kernel_rfl) (by kernel_rfl) (fun ho => ?_) (fun ho => ?_)
  · have ho : o = 0 := by simpa using ho
    subst ho
    refine tr_cut hsp mixed 2 (dsS d t n 0 [(10, sB (rB d t n 0 && ((d.length : Int) == (t.length : Int)))), (11, sI .i64 0)]) True ?_ (fun _ => ?_)
    · let τ := dsS d t n 0 [(10, sB (rB d t n 0 && ((d.length : Int) == (t.length : Int)))), (11, sI .i64 0)]
      refine vcx (X := ((rB d t n 0 = true → τ.trivW [(10, sB ((d.length : Int) == (t.length : Int)) = sB (rB d t n 0 && ((d.length : Int) == (t.length : Int))))] True) ∧ (rB d t n 0 = false → τ.trivW [(10, (rB d t n 0 && ((d.length : Int) == (t.length : Int))) = false)] True))) (by kernel_rfl) ?_
      refine ⟨fun h => trivW_intro ?_ trivial, fun h => trivW_intro ?_ trivial⟩
      · rintro p hp; simp only [List.mem_singleton] at hp; subst hp
        simp only [h, Bool.true_and]
      · rintro p hp; simp only [List.mem_singleton] at hp; subst hp
        simp only [h, Bool.false_and]
    refine tr_loopN hsp mixed (fun g => dsS d t n 0 [(10, sB g.2), (11, sI .i64 g.1)]) (dsJ d t n) (fun g => d.length - g.1.toNat) (dsN d t) (fun g => dsS d t n 0 [(10, sB g.2)]) (fun g => g.2 = (rB d t n 0 && decide (d = t))) (0, rB d t n 0 && ((d.length : Int) == (t.length : Int)))
      (c := nthC (thenOf (nthC (codeOf Try.f3) 7)) 2) (by kernel_rfl) (by kernel_rfl) (le_of_proj (by kernel_rfl) (by kernel_rfl) ⟨0, by omega, rfl, by simp⟩) ?_ ?_
    · rintro ⟨i, b⟩ hj
      refine vcx (X := ((b = true → (decide (i < (d.length : Int)) = true → (0 ≤ i ∧ i < (d.length : Int)) ∧ i.toNat < d.length ∧ (0 ≤ i ∧ i < (t.length : Int)) ∧ i.toNat < t.length ∧ (dsS d t n 0 [(10, sB (dsN d t (i, b)).2), (11, sI .i64 (dsN d t (i, b)).1)]).triv (dsJ d t n (dsN d t (i, b)) ∧ d.length - (dsN d t (i, b)).1.toNat < d.length - (i, b).1.toNat)) ∧
        (decide (i < (d.length : Int)) = false → (dsS d t n 0 [(10, sB b)]).triv (b = (rB d t n 0 && decide (d = t))))) ∧ (b = false → (dsS d t n 0 [(10, sB b)]).triv (b = (rB d t n 0 && decide (d = t)))))) (by kernel_rfl) ?_
      refine ⟨fun hb => ⟨fun h => ?_, fun h => triv_intro ?_⟩, fun hb => triv_intro (dsJ_out hj (.inl hb))⟩
      · have h := dec_lt h
        have hn := dsJ_next hd2 hj hb h
        obtain ⟨k, hk, e1, e2⟩ := hj
        simp only at e1 e2
        rw [hb] at e2
        have e2 := e2.symm
        simp only [Bool.and_eq_true, decide_eq_true_eq, beq_iff_eq] at e2
        exact ⟨⟨by omega, h⟩, by omega, ⟨by omega, by omega⟩, by omega, triv_intro hn⟩
      · exact dsJ_out hj (.inr (by have := dec_ge h; show ¬ i < _; omega))
    · rintro ⟨i, b⟩ hb
      refine tr_eq (l' := (codeOf Try.f3).drop 8) (by kernel_rfl) (ds_rest w M0 _ hsp a1 hd2 ht2 ?_)
      rw [chk_rB d t n 0 a1]
      simpa using hb.symm
  · have ho' : o ≠ 0 := by simpa using ho
    refine tr_le (τ := dsS d t n o [(10, sB (rB d t n o))]) (K := True) (le_of_proj (by kernel_rfl) (by kernel_rfl) trivial) (fun _ => ?_)
    refine tr_eq (l' := (codeOf Try.f3).drop 8) (by kernel_rfl) (ds_rest w M0 _ hsp a1 hd2 ht2 ?_)
    rw [chk_rB d t n o a1, ho]
    simp
end Go.Proofs.Ytkfghpniaahjjaa.law22
