/-
  AE: operations that call nothing, on: numbers, texts, what is held against nil.
-/
import Derived.Test.YtkhbnkncnmeefaaDoorAeOps3
import Derived.Laws.Strings
namespace Go.AE

theorem strEq_eq : ∀ x y : List UInt8, strEq x y = (x == y)
  | [], [] => rfl
  | [], _ :: _ => rfl
  | _ :: _, [] => rfl
  | a :: x, b :: y => by
    simp only [strEq]
    by_cases h : a = b
    · subst h
      rw [show Nat.beq a.toNat a.toNat = true from Nat.beq_refl _]
      simp [strEq_eq x y]
    · have : Nat.beq a.toNat b.toNat = false := by
        rw [← Bool.not_eq_true]
        intro e
        exact h (UInt8.toNat_inj.1 (Nat.eq_of_beq_eq_true e))
      rw [this]
      have : (a == b) = false := by simpa using h
      simp [this]

theorem wrapF_eq (k : IntKind) (n : Int) : wrapF k n = k.wrap n := by
  cases n with
  | negSucc m => rfl
  | ofNat m =>
    simp only [wrapF]
    cases h : Nat.ble m (limK k) with
    | false => rfl
    | true =>
      have h := Nat.le_of_ble_eq_true h
      simp only
      unfold IntKind.wrap
      cases k <;> simp [limK, IntKind.bits, IntKind.signed] at h ⊢ <;> omega

theorem ieq_eq (x y : Int) : ieq x y = (x == y) := by
  cases x <;> cases y <;> simp only [ieq]
  · rename_i a b
    by_cases h : a = b
    · subst h; simp
    · rw [show Nat.beq a b = false by rw [← Bool.not_eq_true]; exact fun e => h (Nat.eq_of_beq_eq_true e)]
      symm; rw [beq_eq_false_iff_ne]; intro e; exact h (Int.ofNat.inj e)
  · symm; rw [beq_eq_false_iff_ne]; rintro ⟨⟩
  · symm; rw [beq_eq_false_iff_ne]; rintro ⟨⟩
  · rename_i a b
    by_cases h : a = b
    · subst h; simp
    · rw [show Nat.beq a b = false by rw [← Bool.not_eq_true]; exact fun e => h (Nat.eq_of_beq_eq_true e)]
      symm; rw [beq_eq_false_iff_ne]; intro e; exact h (Int.negSucc.inj e)

theorem ilt_eq (x y : Int) : ilt x y = decide (x < y) := by
  have hb : ∀ a b : Nat, Nat.blt a b = decide (a < b) := by
    intro a b
    by_cases h : a < b
    · simp only [h, decide_true]; exact Nat.ble_eq_true_of_le h
    · simp only [h, decide_false]; rw [← Bool.not_eq_true]; exact fun e => h (Nat.le_of_ble_eq_true e)
  cases x with
  | ofNat a =>
    cases y with
    | ofNat b =>
      simp only [ilt, hb]
      congr 1
      exact propext (Int.ofNat_lt (n := a) (m := b)).symm
    | negSucc b =>
      simp only [ilt]
      symm; rw [decide_eq_false_iff_not]; intro h
      have := Int.negSucc_lt_zero b
      have : (0 : Int) ≤ Int.ofNat a := Int.natCast_nonneg a
      omega
  | negSucc a =>
    cases y with
    | ofNat b =>
      simp only [ilt]
      symm; rw [decide_eq_true_eq]
      have := Int.negSucc_lt_zero a
      have : (0 : Int) ≤ Int.ofNat b := Int.natCast_nonneg b
      omega
    | negSucc b =>
      simp only [ilt, hb]
      congr 1
      apply propext
      rw [Int.negSucc_eq, Int.negSucc_eq]
      omega

theorem run_eqGuard_plain {P : Program} {w : World} {op : BinOp} {t : TypeId} {x y : Operand} {a b : Value} (h1 : a ≠ .nilIface ∨ b ≠ .nilIface) (h2 : (∀ cs, a ≠ .agg cs) ∨ (∀ cs, b ≠ .agg cs)) :
    (eqGuard op t x y a b).run P w = .ok () w := by
  unfold eqGuard
  split
  · simp only [Bool.not_true, Bool.false_eq_true, if_false]
    cases a <;> cases b <;> first | rfl | (rcases h1 with h | h <;> exact absurd rfl h) | (rcases h2 with h | h <;> exact absurd rfl (h _))
  · simp only [Bool.not_true, Bool.false_eq_true, if_false]
    cases a <;> cases b <;> first | rfl | (rcases h1 with h | h <;> exact absurd rfl h) | (rcases h2 with h | h <;> exact absurd rfl (h _))
  · rfl

theorem run_equal_of {P : Program} {w : World} {t : TypeId} {x y : Value} {r : Bool} (h : ∀ d, (Op.equalIn (d + 1) t x y).run P w = .ok r w) : (Op.equal t x y).run P w = .ok r w := h 9999

theorem sim_strOp {P : Program} {w : World} {op : BinOp} {t : TypeId} {x y : Operand} {s u : ByteArray} {v : Value} (h : astrOp op s.data.toList u.data.toList = some v) :
    (do eqGuard op t x y (.string s) (.string u); binOp op t (.string s) (.string u) : Sem Value).run P w = .ok v w ∧ flat v = true := by
  rw [Sem.run_bind, run_eqGuard_plain (.inl (by simp)) (.inl (by simp)), Result.andThen_ok]
  have hl : ∀ b : ByteArray, b.toList = b.data.toList := ByteArray.toList_eq
  have hb : binOp op t (.string s) (.string u) = Op.stringOp op s u := by cases op <;> rfl
  rw [hb]
  unfold Op.stringOp
  simp only [hl]
  cases op <;> simp only [astrOp, bytesLess, strEq_eq] at h <;> try (simp at h; done)
  case add =>
    split at h
    · rename_i e
      cases h
      have e := Nat.le_of_ble_eq_true e
      have : ¬ (((s.size + u.size : Nat) : Int) > IntKind.i64.max) := by
        have h1 : s.size = s.data.toList.length := rfl
        have h2 : u.size = u.data.toList.length := rfl
        rw [IntKind.max_i64]; omega
      simp only [this, if_false]
      refine ⟨?_, rfl⟩
      have : (s ++ u) = ⟨⟨s.data.toList ++ u.data.toList⟩⟩ := by
        apply ByteArray.ext
        simp
      rw [this]
      rfl
    · simp at h
  all_goals (cases h; exact ⟨rfl, rfl⟩)

theorem sim_genOp {P : Program} {σ : Pl} {w : World} {op : BinOp} {t : TypeId} {x y : Operand} {a b ca cb v : Value} (ha : VR σ a ca) (hb : VR σ b cb) (h : agenOp P op t x y a b = some v) :
    (do eqGuard op t x y ca cb; binOp op t ca cb : Sem Value).run P w = .ok v w ∧ flat v = true := by
  unfold agenOp at h
  split at h
  · rename_i hf
    simp only [Bool.and_eq_true] at hf
    have e1 := ha.flat_eq hf.1
    have e2 := hb.flat_eq hf.2
    subst e1; subst e2
    split at h
    · rename_i r hr
      split at h
      · rename_i hfr
        cases h
        exact ⟨run_of_pureRun hr w, hfr⟩
      · simp at h
    · simp at h
  · -- against nil
    have key : ∀ r, nilEq P t a b = some r → ((Op.equal t ca cb).run P w = .ok r w) ∧ (eqGuard op t x y ca cb).run P w = .ok () w ∧ (binOp .eql t ca cb = do Pure.pure (.bool (← Op.equal t ca cb))) ∧ (binOp .neq t ca cb = do Pure.pure (.bool (!(← Op.equal t ca cb)))) := by
      intro r hr
      unfold nilEq at hr
      split at hr
      · rename_i e hu
        split at hr
        · rename_i p
          cases hr
          cases hb.nilp_inv
          obtain ⟨F, i, g⟩ := p
          cases ha with
          | same _ hf => simp [flat, flatN] at hf
          | ptr _ _ _ => refine ⟨run_equal_of fun d => by simp [Op.equalIn, underlying, hu], run_eqGuard_plain (.inl (by simp)) (.inl (by simp)), rfl, rfl⟩
        · rename_i p
          cases hr
          cases ha.nilp_inv
          cases hb with
          | same _ hf => simp [flat, flatN] at hf
          | ptr _ _ _ => refine ⟨run_equal_of fun d => by simp [Op.equalIn, underlying, hu], run_eqGuard_plain (.inl (by simp)) (.inl (by simp)), rfl, rfl⟩
        · simp at hr
      · rename_i e hu
        split at hr
        · cases hr
          obtain ⟨rfl, _, _⟩ := hb.nils_inv
          cases ha with
          | same _ hf => simp [flat, flatN] at hf
          | slice _ _ _ _ _ => refine ⟨run_equal_of fun d => by simp [Op.equalIn, underlying, hu], run_eqGuard_plain (.inl (by simp)) (.inl (by simp)), rfl, rfl⟩
          | bare _ => refine ⟨run_equal_of fun d => by simp [Op.equalIn, underlying, hu], run_eqGuard_plain (.inl (by simp)) (.inl (by simp)), rfl, rfl⟩
        · cases hr
          obtain ⟨rfl, _, _⟩ := ha.nils_inv
          cases hb with
          | same _ hf => simp [flat, flatN] at hf
          | slice _ _ _ _ _ => refine ⟨run_equal_of fun d => by simp [Op.equalIn, underlying, hu], run_eqGuard_plain (.inl (by simp)) (.inl (by simp)), rfl, rfl⟩
          | bare _ => refine ⟨run_equal_of fun d => by simp [Op.equalIn, underlying, hu], run_eqGuard_plain (.inl (by simp)) (.inl (by simp)), rfl, rfl⟩
        · simp at hr
      · rename_i k e hu
        split at hr
        · cases hr
          cases hb.nilm_inv
          cases ha with
          | same _ hf => simp [flat, flatN] at hf
          | map _ => refine ⟨run_equal_of fun d => by simp [Op.equalIn, underlying, hu], run_eqGuard_plain (.inl (by simp)) (.inl (by simp)), rfl, rfl⟩
        · cases hr
          cases ha.nilm_inv
          cases hb with
          | same _ hf => simp [flat, flatN] at hf
          | map _ => refine ⟨run_equal_of fun d => by simp [Op.equalIn, underlying, hu], run_eqGuard_plain (.inl (by simp)) (.inl (by simp)), rfl, rfl⟩
        · simp at hr
      · rename_i p q e hu
        split at hr
        · cases hr
          cases hb.nilFunc_inv
          have : ∃ fn a' b', ca = .func fn a' b' := by
            cases ha with
            | same _ _ => exact ⟨_, _, _, rfl⟩
            | func _ _ _ => exact ⟨_, _, _, rfl⟩
            | yield _ => exact ⟨_, _, _, rfl⟩
          obtain ⟨fn, a', b', rfl⟩ := this
          refine ⟨run_equal_of fun d => by simp [Op.equalIn, underlying, hu], run_eqGuard_plain (.inl (by simp)) (.inl (by simp)), rfl, rfl⟩
        · cases hr
          cases ha.nilFunc_inv
          have : ∃ fn a' b', cb = .func fn a' b' := by
            cases hb with
            | same _ _ => exact ⟨_, _, _, rfl⟩
            | func _ _ _ => exact ⟨_, _, _, rfl⟩
            | yield _ => exact ⟨_, _, _, rfl⟩
          obtain ⟨fn, a', b', rfl⟩ := this
          refine ⟨run_equal_of fun d => by simp [Op.equalIn, underlying, hu], run_eqGuard_plain (.inl (by simp)) (.inl (by simp)), rfl, rfl⟩
        · simp at hr
      · rename_i ms hu
        split at hr
        · cases hr
          cases hb.nilIface_inv
          obtain ⟨v', rfl, _⟩ := ha.iface_inv
          refine ⟨run_equal_of fun d => by simp [Op.equalIn, underlying, hu], run_eqGuard_plain (.inl (by simp)) (.inl (by simp)), rfl, rfl⟩
        · cases hr
          cases ha.nilIface_inv
          obtain ⟨v', rfl, _⟩ := hb.iface_inv
          refine ⟨run_equal_of fun d => by simp [Op.equalIn, underlying, hu], run_eqGuard_plain (.inr (by simp)) (.inl (by simp)), rfl, rfl⟩
        · simp at hr
      · simp at hr
    cases op <;> simp only at h <;> try (simp at h; done)
    · cases hn : nilEq P t a b with
      | none => simp [hn] at h
      | some r =>
        simp [hn] at h; subst h
        obtain ⟨k1, k2, k3, _⟩ := key r hn
        exact ⟨by rw [Sem.run_bind, k2, Result.andThen_ok, k3]; simp [k1], rfl⟩
    · cases hn : nilEq P t a b with
      | none => simp [hn] at h
      | some r =>
        simp [hn] at h; subst h
        obtain ⟨k1, k2, _, k3⟩ := key r hn
        exact ⟨by rw [Sem.run_bind, k2, Result.andThen_ok, k3]; simp [k1], rfl⟩

theorem sim_int {P : Program} {w : World} {op : BinOp} {t : TypeId} {x y : Operand} {k : IntKind} {m n : Int} {v : Value} (h : aint op k m n = some v) :
    (do eqGuard op t x y (.int k m) (.int k n); binOp op t (.int k m) (.int k n) : Sem Value).run P w = .ok v w ∧ flat v = true := by
  rw [Sem.run_bind, run_eqGuard_plain (.inl (by simp)) (.inl (by simp)), Result.andThen_ok]
  cases op <;> simp only [aint, wrapF_eq, ieq_eq, ilt_eq] at h <;> first
    | (simp at h; done)
    | (cases h; refine ⟨?_, rfl⟩; simp [binOp, Op.intArith]; done)
    | (cases h; refine ⟨?_, rfl⟩; simp [binOp, Op.intCmp]; try rfl)
  all_goals (first | omega | (by_cases e : n < m <;> simp [e] <;> omega) | (by_cases e : m < n <;> simp [e] <;> omega))

theorem sim_binOp {P : Program} {σ : Pl} {w : World} {op : BinOp} {t : TypeId} {x y : Operand} {a b ca cb v : Value} (ha : VR σ a ca) (hb : VR σ b cb) (h : abinOp P op t x y a b = some v) :
    ∃ c, (do eqGuard op t x y ca cb; binOp op t ca cb : Sem Value).run P w = .ok c w ∧ VR σ v c := by
  have fin : ∀ {v}, (do eqGuard op t x y ca cb; binOp op t ca cb : Sem Value).run P w = .ok v w ∧ flat v = true → ∃ c, (do eqGuard op t x y ca cb; binOp op t ca cb : Sem Value).run P w = .ok c w ∧ VR σ v c :=
    fun ⟨h1, h2⟩ => ⟨_, h1, .same _ h2⟩
  unfold abinOp at h
  split at h
  · cases ha.string_inv
    cases hb.string_inv
    exact fin (sim_strOp h)
  · cases ha.int_inv
    cases hb.int_inv
    split at h
    · rename_i e1 e2
      have e1 := of_decide_eq_true e1
      subst e1
      cases h
      exact fin (sim_int e2)
    · exact fin (sim_genOp (.same _ rfl) (.same _ rfl) h (σ := σ))
  · exact fin (sim_genOp ha hb h)

theorem sim_unOp {P : Program} {σ : Pl} {w : World} {op : UnOp} {a ca v : Value} (ha : VR σ a ca) (h : aunOp P op a = some v) : ∃ c, (Op.unary op ca).run P w = .ok c w ∧ VR σ v c := by
  unfold aunOp at h
  split at h
  · rename_i hf
    cases ha.flat_eq hf
    split at h
    · rename_i r hr
      split at h
      · rename_i hfr; cases h; exact ⟨_, run_of_pureRun hr w, .same _ hfr⟩
      · simp at h
    · simp at h
  · simp at h

theorem sim_makeInterface {P : Program} {σ : Pl} {w : World} {t : TypeId} {a ca v : Value} (ha : VR σ a ca) (h : amakeInterface P t a = some v) : ∃ c, (Instr.makeInterface t ca).run P w = .ok c w ∧ VR σ v c := by
  unfold amakeInterface at h
  cases hu : P.underlying t with
  | none => simp [hu] at h
  | some d =>
    cases d <;> simp [hu] at h <;> subst h <;> exact ⟨.iface t ca, by simp [Instr.makeInterface, run_underlying hu], .iface ha⟩

end Go.AE
