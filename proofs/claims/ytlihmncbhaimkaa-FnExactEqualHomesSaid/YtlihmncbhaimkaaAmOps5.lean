/- Operations of the abstract machine are those of the model: comparisons, operators, conversions. -/
import Derived.Test.YtlihmncbhaimkaaAmOps4
import Derived.Laws.StructEq
namespace Go.Proofs.Ytlihmncbhaimkaa.Am
open Go Go.RowKit

section
variable {P : Program} {base : Nat} {r : Ren} {h h' : Heap} {w : World}
theorem eqA_sim : ∀ (d m : Nat) (t : TypeId) (x y x' y' : Value) (b : Bool), RV r x x' → RV r y y' → eqA P d t x y = some b → (Op.equalIn (d + m) t x' y').run P w = .ok b w
  | 0, _, _, _, _, _, _, _, _, _, k => by cases k
  | d + 1, m, t, x, y, x', y', b, hx, hy, k => by
    rw [show d + 1 + m = (d + m) + 1 by omega]
    unfold eqA at k
    split at k
    · rename_i p q hu; obtain rfl := hx.bool_inv; obtain rfl := hy.bool_inv; cases k; exact run_equalIn_bool w _ _ _ _ hu
    · rename_i kd kd1 p kd2 q hu
      obtain rfl := hx.int_inv; obtain rfl := hy.int_inv
      split at k
      · rename_i e; subst e; cases k; exact run_equalIn_int w _ _ _ _ _ _ hu
      · cases k
    · rename_i p q hu; obtain rfl := hx.string_inv; obtain rfl := hy.string_inv; cases k
      rw [run_equalIn_string w _ _ _ _ hu, beq_toListBytes]
    · rename_i e q hu; cases hx; cases k
      cases hy <;> (unfold Op.equalIn; simp [run_under hu])
    · rename_i e p hu; cases hx; cases hy; cases k
      unfold Op.equalIn; simp [run_under hu]
    · rename_i e tt p hu; cases hx; cases hy; cases k
      unfold Op.equalIn; simp [run_under hu]
    · rename_i e tt p hu; cases hx; cases hy; cases k
      unfold Op.equalIn; simp [run_under hu]
    · rename_i e a n1 c1 n2 c2 hu
      cases hy; cases k
      cases hx <;> (unfold Op.equalIn; simp [run_under hu])
    · rename_i e1 e2 a hu
      cases hy; cases k
      cases hx <;> (unfold Op.equalIn; simp [run_under hu])
    · rename_i e1 e2 a hu; cases hx; cases hy; cases k
      unfold Op.equalIn; simp [run_under hu]
    · rename_i e1 e2 a hu; cases hx; cases hy; cases k
      unfold Op.equalIn; simp [run_under hu]
    · rename_i fs xs ys hu
      obtain ⟨xs', rfl, hlx⟩ := hx.agg_inv
      obtain ⟨ys', rfl, hly⟩ := hy.agg_inv
      split at k
      · cases k
      · rename_i hs
        split at k
        · cases k
        · have hf : P.fieldsOf t = fs := by simp [Program.fieldsOf, hu]
          rw [run_equalIn_struct (P := P) w (d + m) t xs' ys' (by rw [hf]; exact hu) (by simpa using hs), hf]
          -- field by field
          have key : ∀ (l : List Field) (b : Bool), eqA.eqFs P (eqA P d) l xs.toList ys.toList = some b → (Op.eqFields (d + m) xs' ys' l).run P w = .ok b w := by
            intro l
            induction l with
            | nil => intro b k; cases k; simp [Op.eqFields]
            | cons f l ih =>
              intro b k
              simp only [eqA.eqFs] at k
              split at k
              · rename_i hn
                cases ha : partA P f.type xs.toList f.offset with
                | none => rw [ha] at k; cases k
                | some a =>
                  rw [ha] at k
                  simp only [Option.bind_some] at k
                  cases hb : partA P f.type ys.toList f.offset with
                  | none => rw [hb] at k; cases k
                  | some c =>
                    rw [hb] at k
                    simp only [Option.bind_some] at k
                    cases he : eqA P d f.type a c with
                    | none => rw [he] at k; cases k
                    | some e =>
                      rw [he] at k
                      simp only [Option.bind_some] at k
                      obtain ⟨a', a1, a2⟩ := partA_sim (w := w) hlx ha
                      obtain ⟨c', c1, c2⟩ := partA_sim (w := w) hly hb
                      have hee := eqA_sim d m f.type a c a' c' e a2 c2 he
                      simp only [Op.eqFields, if_pos hn, Sem.run_bind, a1, c1, hee, Result.andThen_ok]
                      cases e with
                      | true => simp only [if_true] at k; simpa using ih b k
                      | false => simp only [Bool.false_eq_true, if_false] at k; cases k; simp
              · rename_i hn
                rw [Op.eqFields, if_neg hn]
                exact ih b k
          exact key fs.toList b k
    · cases k
/-- Values between which the guard of '==' has nothing to say. -/
theorem eqGuard_run {op : BinOp} {t : TypeId} {x y : Operand} {a b a' b' : Value} {c : Bool} {d : Nat} (ha : RV r a a') (hb : RV r b b') (k : eqA P d t a b = some c) : (eqGuard op t x y a' b').run P w = .ok () w := by
  cases d with
  | zero => cases k
  | succ d =>
    unfold eqA at k
    split at k
    all_goals first
      | (rename_i fs xs ys hu
         obtain ⟨xs', rfl, _⟩ := ha.agg_inv
         obtain ⟨ys', rfl, _⟩ := hb.agg_inv
         split at k
         · cases k
         · split at k
           · cases k
           · rename_i hg; exact run_eqGuard_agg w op t x y xs' ys' (by simpa using hg))
      | (cases k; done)
      | (cases ha <;> cases hb <;> (unfold eqGuard; cases op <;> rfl))
theorem intOp_run {op : BinOp} {kd : IntKind} {a b : Int} {v : Value} {t : TypeId} (hs : op ≠ .shl ∧ op ≠ .shr) (k : intOp op kd a b = some v) : (binOp op t (.int kd a) (.int kd b)).run P w = .ok v w := by
  cases op <;> first
    | exact absurd rfl hs.1
    | exact absurd rfl hs.2
    | (simp only [intOp] at k; cases k; simp [binOp, Op.intArith, Op.intBits, Op.intCmp]; done)
    | (simp only [intOp] at k
       split at k
       · cases k
       · rename_i hb; cases k; simp [binOp, Op.intDiv, hb])
theorem binOp_eql (t : TypeId) (a b : Value) (g1 : ∀ kd p kd' q, a = .int kd p → b = .int kd' q → False) (g2 : ∀ p q, a = .string p → b = .string q → False) (g3 : ∀ kd p, a = .float kd p → False) (g4 : ∀ kd p q, a = .complex kd p q → False) :
    binOp .eql t a b = (do pure (.bool (← Op.equal t a b))) := by
  cases a <;> cases b <;> first
    | rfl
    | exact absurd rfl fun e => g1 _ _ _ _ e rfl
    | exact absurd rfl fun e => g2 _ _ e rfl
    | exact absurd rfl fun e => g3 _ _ e
    | exact absurd rfl fun e => g4 _ _ _ e
theorem binOp_neq (t : TypeId) (a b : Value) (g1 : ∀ kd p kd' q, a = .int kd p → b = .int kd' q → False) (g2 : ∀ p q, a = .string p → b = .string q → False) (g3 : ∀ kd p, a = .float kd p → False) (g4 : ∀ kd p q, a = .complex kd p q → False) :
    binOp .neq t a b = (do pure (.bool (!(← Op.equal t a b)))) := by
  cases a <;> cases b <;> first
    | rfl
    | exact absurd rfl fun e => g1 _ _ _ _ e rfl
    | exact absurd rfl fun e => g2 _ _ e rfl
    | exact absurd rfl fun e => g3 _ _ e
    | exact absurd rfl fun e => g4 _ _ _ e
theorem binA_sim {ρ : Operand → Value} {o : Oper} {op : BinOp} {t t' : TypeId} {x y : Operand} {a b v : Value} (ho : o.op = .binOp op t x y t') (ha : RV r a (ρ x)) (hb : RV r b (ρ y)) (k : binA P op t a b = some v) :
    ∃ v', (execOp ρ o).run P w = .ok (.value v') w ∧ RV r v v' := by
  unfold binA at k
  split at k
  · rename_i kd p kd' q
    have e1 := ha.int_inv
    have e2 := hb.int_inv
    have hg : ∀ op, (eqGuard op t x y (.int kd p) (.int kd' q)).run P w = .ok () w := fun op => by unfold eqGuard; cases op <;> rfl
    split at k
    · unfold shiftOp at k
      split at k
      · cases k
      · rename_i hq
        cases k
        refine ⟨_, ?_, .int _ _⟩
        simp only [execOp, ho, e1, e2, Sem.run_bind, hg, Result.andThen_ok, binOp, Op.shift, hq, if_false, Sem.run_pure]
    · unfold shiftOp at k
      split at k
      · cases k
      · rename_i hq
        cases k
        refine ⟨_, ?_, .int _ _⟩
        simp only [execOp, ho, e1, e2, Sem.run_bind, hg, Result.andThen_ok, binOp, Op.shift, hq, if_false, Sem.run_pure]
    · rename_i hs1 hs2
      split at k
      case isFalse => cases k
      rename_i e
      subst e
      have hrun := intOp_run (P := P) (w := w) (t := t) ⟨hs1, hs2⟩ k
      refine ⟨v, ?_, ?_⟩
      · simp only [execOp, ho, e1, e2, Sem.run_bind, hg, Result.andThen_ok, hrun, Sem.run_pure]
      · unfold intOp at k
        cases op <;> simp only [] at k <;> first
          | (cases k; first | exact .int _ _ | exact .bool _)
          | (split at k <;> first | (cases k; done) | (cases k; exact .int _ _))
          | cases k
  · rename_i p q
    have e1 := ha.string_inv
    have e2 := hb.string_inv
    have hg : ∀ op, (eqGuard op t x y (.string p) (.string q)).run P w = .ok () w := fun op => by unfold eqGuard; cases op <;> rfl
    have hmax : IntKind.i64.max = 9223372036854775807 := by decide
    have hbin : (binOp op t (.string p) (.string q)).run P w = .ok v w := by
      unfold strOp at k
      cases op <;> first
        | (cases k; simp [binOp, Op.stringOp]; done)
        | (simp only at k
           split at k
           · rename_i hsz
             cases k
             have : ¬ (((p.size + q.size : Nat) : Int) > IntKind.i64.max) := by rw [hmax]; omega
             simp only [binOp, Op.stringOp, this, if_false, Sem.run_pure]
           · cases k)
        | (cases k; done)
    refine ⟨v, by simp only [execOp, ho, e1, e2, Sem.run_bind, hg, Result.andThen_ok, hbin, Sem.run_pure], ?_⟩
    unfold strOp at k
    cases op <;> simp only [] at k <;> first
      | (cases k; first | exact .string _ | exact .bool _)
      | (split at k <;> first | (cases k; done) | (cases k; exact .string _))
      | cases k
  · rename_i hni hns
    have g1 : ∀ kd p kd' q, ρ x = .int kd p → ρ y = .int kd' q → False := fun kd p kd' q e1 e2 => by
      rw [e1] at ha; rw [e2] at hb
      cases ha; cases hb
      exact hni _ _ _ _ rfl rfl
    have g2 : ∀ p q, ρ x = .string p → ρ y = .string q → False := fun p q e1 e2 => by
      rw [e1] at ha; rw [e2] at hb
      cases ha; cases hb
      exact hns _ _ rfl rfl
    have g3 : ∀ kd p, ρ x = .float kd p → False := fun kd p e1 => by rw [e1] at ha; cases ha
    have g4 : ∀ kd p q, ρ x = .complex kd p q → False := fun kd p q e1 => by rw [e1] at ha; cases ha
    split at k
    · cases he : eqA P eqDepth t a b with
      | none => rw [he] at k; cases k
      | some c =>
        rw [he] at k
        cases k
        have h1 : (Op.equal t (ρ x) (ρ y)).run P w = .ok c w := eqA_sim (w := w) eqDepth 9996 t a b _ _ c ha hb he
        have h2 := eqGuard_run (w := w) (op := .eql) (x := x) (y := y) ha hb he
        refine ⟨.bool c, ?_, .bool c⟩
        simp only [execOp, ho, Sem.run_bind, h2, Result.andThen_ok, binOp_eql t _ _ g1 g2 g3 g4, h1, Sem.run_pure]
    · cases he : eqA P eqDepth t a b with
      | none => rw [he] at k; cases k
      | some c =>
        rw [he] at k
        cases k
        have h1 : (Op.equal t (ρ x) (ρ y)).run P w = .ok c w := eqA_sim (w := w) eqDepth 9996 t a b _ _ c ha hb he
        have h2 := eqGuard_run (w := w) (op := .neq) (x := x) (y := y) ha hb he
        refine ⟨.bool (!c), ?_, .bool _⟩
        simp only [execOp, ho, Sem.run_bind, h2, Result.andThen_ok, binOp_neq t _ _ g1 g2 g3 g4, h1, Sem.run_pure]
    · cases k
theorem unA_sim {op : UnOp} {x x' v : Value} (hx : RV r x x') (k : unA op x = some v) : (Op.unary op x').run P w = .ok v w ∧ RV r v v := by
  unfold unA at k
  split at k
  · rename_i kd n; cases hx; cases k; exact ⟨rfl, .int _ _⟩
  · rename_i kd n; cases hx; simp only [intOp] at k; cases k; exact ⟨rfl, .int _ _⟩
  · rename_i b; cases hx; cases k; exact ⟨rfl, .bool _⟩
  · cases k

/-! ### Conversions -/
theorem RL.self_bytes (s : ByteArray) : RL r (byteCells s) (s.data.map fun b => Value.int .u8 b.toNat).toList := by
  refine ⟨by simp [byteCells], fun i v v' hv hv' => ?_⟩
  simp only [byteCells, List.getElem?_map, Array.getElem?_toList, Array.getElem?_map] at hv hv'
  rw [hv] at hv'
  cases hv'
  cases hs : s.data[i]? with
  | none => rw [hs] at hv; cases hv
  | some b => rw [hs] at hv; cases hv; exact .int _ _
theorem bytesOf_rel : ∀ {l l' : List Value} {s : List UInt8}, RL r l l' → bytesOf l = some s → l' = l
  | [], l', s, hl, _ => hl.nil_inv
  | v :: l, l', s, hl, k => by
    obtain ⟨v', k', rfl, h1, h2⟩ := hl.cons_inv
    unfold bytesOf at k
    split at k
    · rename_i e; cases e
    · rename_i n rest e
      cases e
      obtain rfl := h1.int_inv
      cases hb : bytesOf l with
      | none => rw [hb] at k; cases k
      | some s' => rw [bytesOf_rel h2 hb]
    · cases k
theorem freeze_push (w : World) (Cs : Array Value) (t : TypeId) (n : Nat) : World.freeze { w with heap := w.heap.push (.cells Cs t) } ⟨w.heap.size, n, none⟩ 1 = { w with heap := w.heap.push (.cells Cs t (n, n + 1)) } := by
  unfold World.freeze
  rw [if_neg (by decide)]
  congr 1
  apply Array.ext
  · simp
  · intro i h1 h2
    simp only [Array.getElem_modify, Array.getElem_push]
    by_cases hi : w.heap.size = i
    · subst hi; simp
    · have : i < w.heap.size := by simp at h2; omega
      rw [if_neg hi, dif_pos this, dif_pos this]
theorem loadBytes_run {f : Value → ByteArray → Sem (ForInStep ByteArray)} (hf : ∀ n s, f (.int .u8 n) s = pure (.yield (s.push (UInt8.ofNat n.toNat)))) {l : List Value} {s : List UInt8} (k : bytesOf l = some s) (acc : ByteArray) (w : World) :
    (forIn l acc f).run P w = .ok ⟨acc.data ++ s.toArray⟩ w := by
  induction l generalizing s acc with
  | nil => cases k; simp
  | cons v l ih =>
    unfold bytesOf at k
    split at k
    · rename_i e; cases e
    · rename_i n rest e
      cases e
      cases hb : bytesOf l with
      | none => rw [hb] at k; cases k
      | some s' =>
        rw [hb] at k
        cases k
        simp only [List.forIn_cons, Sem.run_bind, hf, Sem.run_pure, Result.andThen_ok, ih hb]
        congr 2
        apply Array.ext'
        simp [ByteArray.push]
    · cases k
theorem choose_cap (need old : Nat) (e : TypeId) (w : World) : ∃ t, (choose (.appendCap need old e)).run P w = .ok (need + t) { w with drawn := w.drawn + 1 } := by
  refine ⟨w.tape w.drawn (.appendCap need old e) % (2 ^ 63 - need), ?_⟩
  rw [run_choose]
  rfl
theorem isU8_under {e : TypeId} (k : isU8 P e = true) : P.underlying e = some (.int .u8) := by
  unfold isU8 at k
  split at k
  · rename_i hu; exact hu
  · cases k
theorem markStringish_run {W : World} {c : Nat} {Cs : Array Value} {e : TypeId} {fz : Nat × Nat} (k : W.heap[c]? = some (.cells Cs e fz)) : (markStringish ⟨c, 0, none⟩).run P W = .ok () (W.freeze ⟨c, Cs.size, none⟩ 1) := by
  have hs : W.shape? c = some (e, Cs.size) := by simp [World.shape?, k]
  simp only [markStringish, Sem.run_bind, run_shape, Result.andThen_ok, hs, run_freeze]
theorem convA_sim (hr : RH P base r h w) {s d : TypeId} {x x' v : Value} (hx : RV r x x') (k : convA P s d x h = some (v, h')) : ∃ r' v' w', (convert s d x').run P w = .ok v' w' ∧ RV r' v v' ∧ Step P base r w r' h' w' := by
  unfold convA at k
  split at k
  · rename_i ds kd kd' n hs hd
    cases k
    obtain rfl := hx.int_inv
    exact ⟨r, _, w, by simp [convert, run_under hs, run_under hd, Conv.intToInt], .int _ _, Step.refl hr⟩
  · rename_i ds s hs hd
    cases k
    obtain rfl := hx.string_inv
    exact ⟨r, _, w, by simp [convert, run_under hs, run_under hd], .string _, Step.refl hr⟩
  · rename_i ds e str hs hd
    obtain rfl := hx.string_inv
    split at k
    case isFalse => cases k
    rename_i he
    split at k
    case isFalse => cases k
    rename_i hsz
    cases k
    have he' := isU8_under he
    obtain ⟨t, ht⟩ := choose_cap (P := P) str.size 0 e w
    have hrel : RL r (byteCells str) (str.data.map fun b => Value.int .u8 b.toNat).toList := RL.self_bytes str
    have hr2 : RH P base r h { w with drawn := w.drawn + 1 } := hr.of_heap rfl
    let Cs : Array Value := (str.data.map fun b => Value.int .u8 b.toNat) ++ Array.replicate (str.size + t - str.size) (Value.int .u8 0)
    have hCs : Cs.size = str.size + t := by simp [Cs]
    have hlen : (byteCells str).length = str.size := by simp [byteCells]
    have hnew := hr2.new (cs := byteCells str) (Cs := Cs) 1 true e (fz := (Cs.size, Cs.size + 1)) (by rw [hlen, hCs]; omega) (fun i u hu => by
      obtain ⟨u', e1, e2⟩ := hrel.get hu
      refine ⟨u', ?_, e2⟩
      have hi : i < (str.data.map fun b => Value.int .u8 b.toNat).size := by
        have := (List.getElem?_eq_some_iff.1 e1).1
        simpa using this
      rw [Array.getElem?_append, if_pos hi]
      simpa using e1) (fun i hi => by simp; omega)
    refine ⟨_, .slice (some ⟨w.heap.size, 0, none⟩) str.size (str.size + t), _, ?_, ?_, Ren.le_put hr2.none_next _, hnew, below_drawn.trans (below_push hr2.base_le _)⟩
    · have hm := markStringish_run (P := P) (W := { w with heap := w.heap.push (.cells Cs e), drawn := w.drawn + 1 }) (c := w.heap.size) (Cs := Cs) (e := e) (fz := (0, 0)) (by simp)
      rw [freeze_push { w with drawn := w.drawn + 1 } Cs e Cs.size] at hm
      simp only [convert, Sem.run_bind, run_under hs, run_under hd, run_under he', Result.andThen_ok, Conv.stringToBytes, ht, newRow, run_newObj, Sem.run_pure]
      rw [hm]
      rfl
    · refine .slice h.next 0 _ _ _ _ _ (Ren.put_self _ _ _) (Nat.le_refl _) (by omega) (fun _ => rfl) (.inr ⟨rfl, ?_, ?_⟩)
      · show 0 + str.size * 1 = (byteCells str).length
        rw [hlen]; simp
      · show 0 + 0 + (str.size + t) * 1 ≤ Cs.size
        rw [hCs]; simp
  · rename_i e a b hs hd
    split at k
    case isFalse => cases k
    rename_i he
    cases k
    have he' := isU8_under he
    cases hx
    exact ⟨r, .string .empty, w, by simp [convert, run_under hs, run_under hd, run_under he', Conv.bytesToString], .string _, Step.refl hr⟩
  · rename_i e b o len c hs hd
    split at k
    case isFalse => cases k
    rename_i he
    have he' := isU8_under he
    cases hl : loadC h b o len with
    | none => rw [hl] at k; cases k
    | some l =>
      rw [hl] at k
      simp only [Option.bind_some] at k
      cases hb : bytesOf l with
      | none => rw [hb] at k; cases k
      | some s =>
        rw [hb] at k
        cases k
        cases hx with
        | slice _ _ _ _ c2 a y hy q1 q2 q3 q4 =>
          obtain ⟨l', e1, e2, e3⟩ := hr.read hy hl
          obtain rfl := bytesOf_rel e2 hb
          have hload : (loadCells a len).run P w = .ok l'.toArray w := by
            by_cases h0 : c2 = 0
            · have : len = 0 := by omega
              subst this
              have : l' = [] := List.eq_nil_of_length_eq_zero e1
              subst this
              rfl
            · rw [q3 h0]; exact loadCells_run e1 e3
          refine ⟨r, .string ⟨s.toArray⟩, w, ?_, .string _, Step.refl hr⟩
          simp only [convert, Sem.run_bind, run_under hs, run_under hd, run_under he', Result.andThen_ok, Conv.bytesToString, hload, ← Array.forIn_toList]
          rw [loadBytes_run (fun _ _ => rfl) hb]
          simp only [Result.andThen_ok, Sem.run_pure]
          congr 3
          show (#[] : Array UInt8) ++ s.toArray = s.toArray
          simp
  · cases k
end
end Go.Proofs.Ytlihmncbhaimkaa.Am
