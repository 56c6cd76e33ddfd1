/- Single operations, over a heap of names, beside the model's: appending, copying, making. No condition. -/
import Derived.Test.YtpfnoffadfahmaaGreatEvE
namespace Go.Ev
set_option linter.unusedVariables false
set_option linter.unusedSimpArgs false
open Go Go.RowKit

section
variable {P : Program} {w0 : World} {σ : Emb} {h : T} {w : World}

/-! ### the first cells of a slice or a string -/
noncomputable def alenOf : Value → Option Nat
  | .slice _ n _ => some n
  | .string s => some s.size
  | _ => none
theorem VR.lenOf {x x' : Value} (k : VR σ x x') {n : Nat} (hn : alenOf x = some n) : (Builtin.lenOf x').run P w = .ok n w := by
  cases k <;> simp [alenOf] at hn <;> subst hn <;> rfl

noncomputable def strCells (s : ByteArray) (n : Nat) : Array Value := (s.extract 0 n).data.map fun b => .int .u8 b.toNat
noncomputable def strL (s : ByteArray) (n : Nat) : List Value := (s.data.toList.take n).map fun b => .int .u8 b.toNat
theorem strL_eq (s : ByteArray) (n : Nat) : (strCells s n).toList = strL s n := by
  simp [strCells, strL, ByteArray.extract, ByteArray.copySlice]
theorem strL_plain (s : ByteArray) (n : Nat) : (strL s n).all plain1 = true := by
  rw [List.all_eq_true]
  intro x hx
  simp only [strL, List.mem_map] at hx
  obtain ⟨b, _, rfl⟩ := hx; rfl

/-- At most n elements of z cells each; of none of them nothing is asked. -/
noncomputable def afirst (z n : Nat) (x : Value) : M (List Value) := fun k s =>
  match x with
  | .slice none _ _ => bif Nat.beq n 0 then k [] s else .fail
  | .slice (some ⟨m, o, _⟩) len _ => bif Nat.beq (n * z) 0 then k [] s else bif Nat.beq len 0 then .fail else acells m o (n * z) k s
  | .string b => k (strL b n) s
  | _ => .fail
theorem SimQ.first (st : St σ w0 h w) {z n : Nat} {x x' : Value} (hx : VR σ x x') : SimQ P h w (afirst z n x) (Builtin.firstCells z n x') (fun l a => VRs σ l a.toList) := by
  unfold afirst
  have hnone : ∀ (b : Option Addr) (l c : Nat), n * z = 0 ∨ b = none → ∀ w' : World, w'.heap = w.heap → (Builtin.firstCells z n (.slice b l c)).run P w' = .ok #[] w' := by
    intro b l c hb w' _
    cases b with
    | none => rfl
    | some a => rcases hb with hb | hb
                · simp [Builtin.firstCells, hb, loadCells, loadCellsFrom]
                · cases hb
  cases hx with
  | sliceNil =>
    refine SimQ.cond (A := (fun k s => k [] s : M (List Value))) (fun _ => ?_) (fun _ => SimQ.fail)
    exact SimQ.of_run (b := #[]) (hnone none 0 0 (.inr rfl)) .nil
  | slice m o len cap e cap' he hc hq =>
    refine SimQ.cond (A := (fun k s => k [] s : M (List Value))) (fun hz => ?_) (fun _ => ?_)
    · exact SimQ.of_run (b := #[]) (hnone _ _ _ (.inl (Nat.eq_of_beq_eq_true hz))) .nil
    · refine SimQ.cond (A := (fun _ _ => .fail : M (List Value))) (fun _ => SimQ.fail) (fun _ => ?_)
      intro k s r e
      obtain ⟨a, e', b, run, hR⟩ := SimQ.cells (P := P) st he k s r e
      exact ⟨a, e', b, run, hR.1⟩
  | slice0 a a' =>
    obtain ⟨m, o, sp⟩ := a
    refine SimQ.cond (A := (fun k s => k [] s : M (List Value))) (fun hz => ?_) (fun _ => ?_)
    · exact SimQ.of_run (b := #[]) (hnone _ _ _ (.inl (Nat.eq_of_beq_eq_true hz))) .nil
    · exact SimQ.fail
  | string b => exact SimQ.of_run (b := strCells b n) (fun _ _ => rfl) (by rw [strL_eq]; exact VRs.of_plain (strL_plain b n))
  | _ => exact SimQ.fail

/-! ### so many times the same -/
noncomputable def replL (z : List Value) : Nat → List Value
  | 0 => []
  | n + 1 => z ++ replL z n
theorem replL_length (z : List Value) : ∀ n, (replL z n).length = n * z.length
  | 0 => by simp [replL]
  | n + 1 => by simp [replL, replL_length z n, Nat.add_mul]; omega
theorem replL_get (z : List Value) : ∀ (n i : Nat), i < n * z.length → (replL z n)[i]? = z[i % z.length]?
  | 0, i, h => by simp at h
  | n + 1, i, h => by
    simp only [replL]
    by_cases hi : i < z.length
    · rw [List.getElem?_append_left hi, Nat.mod_eq_of_lt hi]
    · rw [List.getElem?_append_right (by omega), replL_get z n _ (by rw [Nat.add_mul] at h; omega)]
      congr 1
      rw [← Nat.mod_eq_sub_mod (by omega)]
theorem replL_plain (z : List Value) (hz : z.all plain1 = true) : ∀ n, (replL z n).all plain1 = true
  | 0 => rfl
  | n + 1 => by simp only [replL, List.all_append, hz, replL_plain z hz n, Bool.and_self]

theorem range_map_eq (z : Array Value) (n : Nat) : ((Array.range (n * z.size)).map (z[· % z.size]!)).toList = replL z.toList n := by
  apply List.ext_getElem?
  intro i
  by_cases hi : i < n * z.size
  · rw [replL_get _ _ _ (by simpa using hi)]
    have hz : 0 < z.size := by
      rcases Nat.eq_zero_or_pos z.size with h0 | h0
      · rw [h0] at hi; simp at hi
      · exact h0
    have hm : i % z.size < z.size := Nat.mod_lt _ hz
    simp [hi, hm]
  · rw [List.getElem?_eq_none (by simpa using hi), List.getElem?_eq_none (by rw [replL_length]; simpa using hi)]

theorem i64_small {n : Int} (h0 : 0 ≤ n) (h1 : n ≤ 1000000) : IntKind.i64.wrap n = n := by
  unfold IntKind.wrap
  simp [IntKind.bits, IntKind.signed]
  omega

/-! ### append -/
theorem growBy_le (n : Nat) : ∀ (r c : Nat), c ≤ 2 * n + 1000 → Builtin.growBy n r c ≤ 2 * n + 1000
  | 0, c, hc => hc
  | r + 1, c, hc => by
    unfold Builtin.growBy
    split
    · exact hc
    · exact growBy_le n r _ (by omega)
theorem nextcap_le {n c : Nat} (h : c < n) : Builtin.nextslicecap n c ≤ 2 * n + 1000 := by
  unfold Builtin.nextslicecap
  split
  · omega
  · split
    · omega
    · exact growBy_le n 4 c (by omega)

/-- The rest of a row's room. -/
theorem newCap_ge (need old : Nat) (el : TypeId) (t : Nat) : need ≤ (Question.appendCap need old el).cut t := by simp [Question.cut]

/-- A row that has grown: a name of its own. -/
noncomputable def agrown (el : TypeId) (z : Nat) (cs : List Value) : M Nat := anew (.cells ⟨cs⟩ el (z + 1, 0))

/-- A row that may have spare room is nobody's any more. -/
noncomputable def akill (ex : Bool) (n z : Nat) : M Unit := fun k s => .get n fun
  | .cells _ _ (f, _) => bif ex || Nat.beq f 0 then k () s else bif Nat.beq f (z + 1) then .put n (.pending #[] 0) (k () s) else .fail
  | _ => .fail

noncomputable def isIntD : TypeDesc → Bool | .int _ => true | _ => false

noncomputable def zsize (P : Program) (t : TypeId) (n : Nat) : Bool := match zeroT P t with
  | some z => Nat.beq z.cells.size n
  | none => false

/-- How many are to be appended; what they are. -/
noncomputable def alenD (d : TypeDesc) (y : Value) : Option Nat :=
  match d with
  | .int _ => match y with
    | .int _ m => bif decide (0 ≤ m) && decide (m ≤ 1000000) then some m.toNat else none
    | _ => none
  | _ => alenOf y
noncomputable def afirstD (d : TypeDesc) (zs : Option Value) (z n : Nat) (y : Value) : M (List Value) := fun k s =>
  match d with
  | .int _ => match zs with
    | some v => bif v.cells.toList.all plain1 then k (replL v.cells.toList n) s else .fail
    | none => .fail
  | _ => afirst z n y k s

noncomputable def aappend (P : Program) (ts : Array TypeId) (x y : Value) : M Value := fun k s =>
  match ts[0]?, ts[1]? with
  | some t, some u => match P.underlying t, P.underlying u with
    | some (.slice el), some d => match P.info? el, x, alenD d y with
      | some i, .slice base len cap, some n =>
        bif Nat.ble (len + n) 1000000 && Nat.ble i.bytes 100000 && !Nat.beq i.bytes 0 && zsize P el i.size && Nat.ble len cap then
          (bif Nat.beq n 0 then k x s
          else bif Nat.ble (len + n) cap then
            match base with
            | some ⟨m, o, _⟩ => afirstD d (zeroT P el) i.size n y (fun l => aput m (o + len * i.size) l (fun _ => k (.slice base (len + n) cap))) s
            | _ => .fail
          else match base with
            | none => afirstD d (zeroT P el) i.size n y (fun l s => bif Nat.beq l.length (n * i.size) && Nat.beq len 0 then agrown el i.size l (fun b => k (.slice (some ⟨b, 0, none⟩) (len + n) (len + n))) s else .fail) s
            | some ⟨m, o, sp⟩ => afirstD d (zeroT P el) i.size n y (fun l s => bif Nat.beq l.length (n * i.size) && l.all Value.oneCell' then acells m o (len * i.size) (fun q => akill sp.isSome m i.size (fun _ => agrown el i.size (q ++ l) (fun b => k (.slice (some ⟨b, 0, none⟩) (len + n) (len + n))))) s else .fail) s)
        else .fail
      | _, _, _ => .fail
    | _, _ => .fail
  | _, _ => .fail

/-- What the model does where there is no room. -/
theorem run_append_grows {ts : Array TypeId} {t u el : TypeId} {d : TypeDesc} {i : TypeInfo} {z0 : Value} {base : Option Addr} {len cap n nl : Nat} {y : Value} {old new : Array Value} {T0 : TypeId} {x : Value}
    (h0 : ts[0]? = some t) (h1 : ts[1]? = some u) (hd : P.underlying t = some (.slice el)) (hu : P.underlying u = some d) (hni : ∀ k, d ≠ .int k) (hi : P.info? el = some i) (hz : (zeroValue el).run P w = .ok z0 w)
    (hx : x = .slice base len cap) (hn : (Builtin.lenOf y).run P w = .ok n w) (hgt : cap < len + n) (hsm : len + n ≤ 1000000) (hby : i.bytes ≤ 100000) (hb0 : i.bytes ≠ 0) (hnl : nl = len + n)
    (hold : ∀ w', w'.heap = w.heap → (Builtin.firstCells i.size len x).run P w' = .ok old w') (hnew : ∀ w', w'.heap = w.heap → (Builtin.firstCells i.size n y).run P w' = .ok new w') (hzz : ∀ w', w'.heap = w.heap → (zeroValue el).run P w' = .ok z0 w') :
    ∃ nc rest, nl ≤ nc ∧ rest = Builtin.zeroCells z0.cells (nc - nl) ∧ (Builtin.append_ ts T0 #[x, y]).run P w =
      .ok (.slice (some ⟨w.heap.size, 0, none⟩) nl nc) { w with heap := w.heap.push (.cells (old ++ new ++ rest) el), drawn := w.drawn + 1 } := by
  subst hx; subst hnl
  have hgrow := nextcap_le (n := len + n) (c := cap) hgt
  have hbig : ¬ (Builtin.nextslicecap (len + n) cap * i.bytes > 2 ^ 48) := by
    have := Nat.mul_le_mul hgrow hby
    have h2 : (2 ^ 48 : Nat) = 281474976710656 := by decide
    omega
  refine ⟨(Question.appendCap (len + n) cap el).cut (w.tape w.drawn (.appendCap (len + n) cap el)), _, newCap_ge _ _ _ _, rfl, ?_⟩
  have e1 := hold { w with drawn := w.drawn + 1 } rfl
  have e2 := hnew { w with drawn := w.drawn + 1 } rfl
  have e3 := hzz { w with drawn := w.drawn + 1 } rfl
  have hmatch : (d matches .int _) = false := by cases d <;> first | rfl | exact absurd rfl (hni _)
  unfold Builtin.append_
  simp only [h0, h1, List.getElem?_toArray, List.getElem?_cons_zero, List.getElem?_cons_succ, Sem.run_bind, run_und hd, run_und hu, Result.andThen_ok, sizeOf, run_inf hi, Sem.run_pure, hmatch, Bool.false_eq_true, if_false, hn, if_neg (show ¬ (len + n ≤ cap) by omega)]
  have hcond : ¬ (((len + n : Nat) : Int) > IntKind.i64.max ∧ (False ∨ i.bytes = 0)) := fun hh => hh.2.elim id hb0
  rw [if_neg hcond]
  simp only [Sem.run_bind, run_inf hi, Result.andThen_ok]
  rw [if_neg hbig]
  simp only [Sem.run_bind, run_choose, Question.forced, Bool.false_eq_true, if_false, Result.andThen_ok, run_inf hi, run_askRoom, e1, e2, e3, Bool.not_false, if_true, newRow, run_newObj, Sem.run_pure]

/-- Where what is appended comes from. -/
inductive Src (P : Program) (w : World) (d : TypeDesc) (el : TypeId) (i : TypeInfo) (y : Value) (n : Nat) (new : Array Value) : Prop
  | row (hni : ∀ k, d ≠ .int k) (hn : (Builtin.lenOf y).run P w = .ok n w) (hnew : ∀ w' : World, w'.heap = w.heap → (Builtin.firstCells i.size n y).run P w' = .ok new w')
  | zeros (k : IntKind) (hd : d = .int k) (kx : IntKind) (m : Int) (hy : y = .int kx m) (h0 : 0 ≤ m) (h1 : m ≤ 1000000) (hn : n = m.toNat) (z0 : Value) (hz : ∀ w' : World, (zeroValue el).run P w' = .ok z0 w') (hnew : new = if n * i.size = 0 then #[] else Builtin.zeroCells z0.cells n)

theorem Src.grows {ts : Array TypeId} {t u el : TypeId} {d : TypeDesc} {i : TypeInfo} {z0 : Value} {base : Option Addr} {len cap n nl : Nat} {y : Value} {old new : Array Value} {T0 : TypeId} {x : Value} (hs : Src P w d el i y n new)
    (h0 : ts[0]? = some t) (h1 : ts[1]? = some u) (hd : P.underlying t = some (.slice el)) (hu : P.underlying u = some d) (hi : P.info? el = some i) (hz : (zeroValue el).run P w = .ok z0 w)
    (hx : x = .slice base len cap) (hgt : cap < len + n) (hsm : len + n ≤ 1000000) (hby : i.bytes ≤ 100000) (hb0 : i.bytes ≠ 0) (hnl : nl = len + n)
    (hold : ∀ w', w'.heap = w.heap → (Builtin.firstCells i.size len x).run P w' = .ok old w') (hzz : ∀ w', w'.heap = w.heap → (zeroValue el).run P w' = .ok z0 w') :
    ∃ nc rest, nl ≤ nc ∧ rest = Builtin.zeroCells z0.cells (nc - nl) ∧ (Builtin.append_ ts T0 #[x, y]).run P w =
      .ok (.slice (some ⟨w.heap.size, 0, none⟩) nl nc) { w with heap := w.heap.push (.cells (old ++ new ++ rest) el), drawn := w.drawn + 1 } := by
  cases hs with
  | row hni hn hnew => exact run_append_grows h0 h1 hd hu hni hi hz hx hn hgt hsm hby hb0 hnl hold hnew hzz
  | zeros k hdk kx m hy hm0 hm1 hnm z1 hz1 hnew =>
    subst hx; subst hnl; subst hdk; subst hy
    have hgrow := nextcap_le (n := len + n) (c := cap) hgt
    have hbig : ¬ (Builtin.nextslicecap (len + n) cap * i.bytes > 2 ^ 48) := by
      have := Nat.mul_le_mul hgrow hby
      have h2 : (2 ^ 48 : Nat) = 281474976710656 := by decide
      omega
    refine ⟨(Question.appendCap (len + n) cap el).cut (w.tape w.drawn (.appendCap (len + n) cap el)), _, newCap_ge _ _ _ _, rfl, ?_⟩
    have e1 := hold { w with drawn := w.drawn + 1 } rfl
    have e3 := hzz { w with drawn := w.drawn + 1 } rfl
    have e4 := hz1 { w with drawn := w.drawn + 1 }
    have hw : IntKind.i64.wrap m = m := i64_small hm0 hm1
    have hmb : ¬ (m * (i.bytes : Int) > 2 ^ 48) := by
      have h3 : m * (i.bytes : Int) ≤ 1000000 * 100000 := by
        have := Int.mul_le_mul hm1 (show (i.bytes : Int) ≤ 100000 by omega) (by omega) (by omega)
        exact this
      have h2 : ((2 : Int) ^ 48) = 281474976710656 := by decide
      omega
    unfold Builtin.append_
    simp only [h0, h1, List.getElem?_toArray, List.getElem?_cons_zero, List.getElem?_cons_succ, Sem.run_bind, run_und hd, run_und hu, Result.andThen_ok, sizeOf, run_inf hi, Sem.run_pure, if_true, asInt, asIntOf, hw, if_neg (show ¬ m < 0 by omega), if_neg hmb, ← hnm, if_neg (show ¬ (len + n ≤ cap) by omega)]
    have hcond : ¬ (((len + n : Nat) : Int) > IntKind.i64.max ∧ (True ∨ i.bytes = 0)) := fun hh => by
      have : IntKind.i64.max = 9223372036854775807 := by decide
      have := hh.1; omega
    rw [if_neg hcond]
    simp only [Sem.run_bind, run_inf hi, Result.andThen_ok]
    rw [if_neg hbig]
    by_cases hz0 : n * i.size = 0
    · rw [if_pos hz0] at hnew
      subst hnew
      simp only [Sem.run_bind, run_choose, Question.forced, Bool.false_eq_true, if_false, Result.andThen_ok, run_inf hi, run_askRoom, e1, e3, Bool.not_true, hz0, if_true, newRow, run_newObj, Sem.run_pure]
    · rw [if_neg hz0] at hnew
      subst hnew
      simp only [Sem.run_bind, run_choose, Question.forced, Bool.false_eq_true, if_false, Result.andThen_ok, run_inf hi, run_askRoom, e1, e3, e4, Bool.not_true, hz0, if_true, newRow, run_newObj, Sem.run_pure]
      have : z1 = z0 := by rw [e4] at e3; injection e3
      subst this; rfl

theorem zeroCells_size (z : Array Value) (n : Nat) : (Builtin.zeroCells z n).size = n * z.size := by simp [Builtin.zeroCells]

/-- What the model does where there is room. -/
theorem run_append_fits {ts : Array TypeId} {t u el : TypeId} {d : TypeDesc} {i : TypeInfo} {base : Option Addr} {len cap n : Nat} {y : Value} {new : Array Value} {T0 : TypeId}
    (h0 : ts[0]? = some t) (h1 : ts[1]? = some u) (hd : P.underlying t = some (.slice el)) (hu : P.underlying u = some d) (hni : ∀ k, d ≠ .int k) (hi : P.info? el = some i)
    (hn : (Builtin.lenOf y).run P w = .ok n w) (hle : len + n ≤ cap) (hnew : (Builtin.firstCells i.size n y).run P w = .ok new w) :
    (Builtin.append_ ts T0 #[.slice base len cap, y]).run P w = ((match base with | some a => storeCells (a.add (len * i.size)) new.toList | none => pure ()).run P w).andThen fun _ w2 => .ok (.slice base (len + n) cap) w2 := by
  have hmatch : (d matches .int _) = false := by cases d <;> first | rfl | exact absurd rfl (hni _)
  unfold Builtin.append_
  simp only [h0, h1, List.getElem?_toArray, List.getElem?_cons_zero, List.getElem?_cons_succ, Sem.run_bind, run_und hd, run_und hu, Result.andThen_ok, sizeOf, run_inf hi, Sem.run_pure, hmatch, Bool.false_eq_true, if_false, hn, if_pos hle, Bool.not_false, if_true, hnew]
  cases base with
  | none => rfl
  | some a => simp only [Sem.run_bind, Sem.run_pure]

theorem Src.fits {ts : Array TypeId} {t u el : TypeId} {d : TypeDesc} {i : TypeInfo} {base : Option Addr} {len cap n : Nat} {y : Value} {new : Array Value} {T0 : TypeId} (hs : Src P w d el i y n new)
    (h0 : ts[0]? = some t) (h1 : ts[1]? = some u) (hd : P.underlying t = some (.slice el)) (hu : P.underlying u = some d) (hi : P.info? el = some i) (hby : i.bytes ≤ 100000) (hle : len + n ≤ cap) :
    (Builtin.append_ ts T0 #[.slice base len cap, y]).run P w = ((match base with | some a => storeCells (a.add (len * i.size)) new.toList | none => pure ()).run P w).andThen fun _ w2 => .ok (.slice base (len + n) cap) w2 := by
  cases hs with
  | row hni hn hnew => exact run_append_fits h0 h1 hd hu hni hi hn hle (hnew w rfl)
  | zeros k hdk kx m hy hm0 hm1 hnm z1 hz1 hnew =>
    subst hdk; subst hy
    have hw : IntKind.i64.wrap m = m := i64_small hm0 hm1
    have hmb : ¬ (m * (i.bytes : Int) > 2 ^ 48) := by
      have h3 : m * (i.bytes : Int) ≤ 1000000 * 100000 := by
        have := Int.mul_le_mul hm1 (show (i.bytes : Int) ≤ 100000 by omega) (by omega) (by omega)
        exact this
      have h2 : ((2 : Int) ^ 48) = 281474976710656 := by decide
      omega
    unfold Builtin.append_
    simp only [h0, h1, List.getElem?_toArray, List.getElem?_cons_zero, List.getElem?_cons_succ, Sem.run_bind, run_und hd, run_und hu, Result.andThen_ok, sizeOf, run_inf hi, Sem.run_pure, if_true, asInt, asIntOf, hw, if_neg (show ¬ m < 0 by omega), if_neg hmb, ← hnm, if_pos hle]
    by_cases hz0 : n * i.size = 0
    · rw [if_pos hz0] at hnew
      subst hnew
      cases base with
      | none => simp only [Bool.not_true, Bool.false_eq_true, if_false, hz0, if_true, Sem.run_pure, Result.andThen_ok]
      | some a => simp only [Bool.not_true, Bool.false_eq_true, if_false, hz0, if_true, Sem.run_pure, Result.andThen_ok, Sem.run_bind]
    · rw [if_neg hz0] at hnew
      subst hnew
      cases base with
      | none => simp only [Bool.not_true, Bool.false_eq_true, if_false, hz0, Sem.run_bind, hz1 w, Sem.run_pure, Result.andThen_ok]
      | some a => simp only [Bool.not_true, Bool.false_eq_true, if_false, hz0, Sem.run_pure, Result.andThen_ok, Sem.run_bind, hz1 w]

/-- What is appended, told. -/
theorem Src.of (st : St σ w0 h w) {d : TypeDesc} {el : TypeId} {i : TypeInfo} {y y' : Value} {n : Nat} (hy : VR σ y y') (hn : alenD d y = some n) {z0 : Value} (hz : zeroT P el = some z0) (hzs : z0.cells.size = i.size) {k : List Value → Nat → AM} {s : Nat} {r : Value × T} (e : (afirstD d (zeroT P el) i.size n y k s).run h = some r) :
    ∃ l, (k l s).run h = some r ∧ ∃ new, Src P w d el i y' n new ∧ VRs σ l new.toList := by
  unfold afirstD at e
  have hrow : (∀ k, d ≠ .int k) → (afirst i.size n y k s).run h = some r → alenOf y = some n → ∃ l, (k l s).run h = some r ∧ ∃ new, Src P w d el i y' n new ∧ VRs σ l new.toList := by
    intro hni e hn
    obtain ⟨l, e2, new, hnew, hl⟩ := SimQ.first (P := P) (w := w) st hy _ _ _ e
    exact ⟨l, e2, new, .row hni (hy.lenOf hn) hnew, hl⟩
  by_cases hint : ∃ k, d = .int k
  · obtain ⟨kd, rfl⟩ := hint
    rw [hz] at e
    dsimp only at e
    cases hp : z0.cells.toList.all plain1 with
    | false => rw [hp] at e; cases e
    | true =>
      rw [hp] at e
      simp only [cond_true] at e
      unfold alenD at hn
      dsimp only at hn
      split at hn
      · rename_i kx m
        cases hb : (decide (0 ≤ m) && decide (m ≤ 1000000)) with
        | false => rw [hb] at hn; cases hn
        | true =>
          rw [hb] at hn
          simp only [Bool.and_eq_true, decide_eq_true_eq] at hb
          have hnm := (Option.some.inj hn).symm
          cases hy
          refine ⟨_, e, _, .zeros kd rfl kx m rfl hb.1 hb.2 hnm z0 (fun w' => (zeroT_spec hz w').1) rfl, ?_⟩
          split
          · rename_i h0
            have : replL z0.cells.toList n = [] := List.eq_nil_of_length_eq_zero (by rw [replL_length, Array.length_toList, hzs, h0])
            rw [this]; exact .nil
          · rw [Builtin.zeroCells, range_map_eq]
            exact VRs.of_plain (replL_plain _ hp _)
      · cases hn
  · have hni : ∀ k, d ≠ .int k := fun k hk => hint ⟨k, hk⟩
    have h1 : alenD d y = alenOf y := by unfold alenD; cases d <;> first | rfl | exact absurd rfl (hni _)
    rw [h1] at hn
    refine hrow hni ?_ hn
    cases d <;> first | exact e | exact absurd rfl (hni _)

theorem Src.zero (st : St σ w0 h w) {d : TypeDesc} {el : TypeId} {i : TypeInfo} {y y' : Value} (hy : VR σ y y') (hn : alenD d y = some 0) {z0 : Value} (hz : zeroT P el = some z0) : Src P w d el i y' 0 #[] := by
  by_cases hint : ∃ k, d = .int k
  · obtain ⟨kd, rfl⟩ := hint
    unfold alenD at hn
    dsimp only at hn
    split at hn
    · rename_i kx m
      cases hb : (decide (0 ≤ m) && decide (m ≤ 1000000)) with
      | false => rw [hb] at hn; cases hn
      | true =>
        rw [hb] at hn
        simp only [Bool.and_eq_true, decide_eq_true_eq] at hb
        have hnm := (Option.some.inj hn).symm
        cases hy
        exact .zeros kd rfl kx m rfl hb.1 hb.2 hnm z0 (fun w' => (zeroT_spec hz w').1) (by simp)
    · cases hn
  · have hni : ∀ k, d ≠ .int k := fun k hk => hint ⟨k, hk⟩
    have h1 : alenD d y = alenOf y := by unfold alenD; cases d <;> first | rfl | exact absurd rfl (hni _)
    rw [h1] at hn
    refine .row hni (hy.lenOf hn) (fun w' _ => ?_)
    cases hy <;> simp [alenOf] at hn <;> simp [Builtin.firstCells, loadCells, loadCellsFrom, hn]

theorem zsize_spec {t : TypeId} {n : Nat} (hz : zsize P t n = true) : ∃ z, zeroT P t = some z ∧ z.cells.size = n := by
  unfold zsize at hz
  cases h : zeroT P t with
  | none => rw [h] at hz; cases hz
  | some z => rw [h] at hz; exact ⟨z, rfl, Nat.eq_of_beq_eq_true hz⟩

/-- A grown row, laid as a new block. -/
theorem St.grown (st : St σ w0 h w) {s : Nat} (hs : h.get s = none) {el : TypeId} {z nl nc : Nat} {cs : List Value} {cs' : Array Value} {rest : Array Value} (hc : VRs σ cs cs'.toList) (hl : cs.length = nl * z) (hr : rest.size = (nc - nl) * z) (hnc : nl ≤ nc)
    {w' : World} (hw : w' = { w with heap := w.heap.push (.cells (cs' ++ rest) el), drawn := w.drawn + 1 }) :
    ∃ σ', σ.le σ' ∧ St σ' w0 (h.set s (.cells ⟨cs⟩ el (z + 1, 0))) w' ∧ VR σ' (.slice (some ⟨s, 0, none⟩) nl nl) (.slice (some ⟨w.heap.size, 0, none⟩) nl nc) := by
  subst hw
  have hf := st.hr.fresh hs
  have hle := Emb.ext_le (σ := σ) (n := s) ⟨w.heap.size, 0, some (z, cs.length, nc * z)⟩ hf
  have hcl := hc.length
  simp only [Array.length_toList] at hcl
  have hmul : nl * z + (nc - nl) * z = nc * z := by rw [← Nat.add_mul]; congr 1; omega
  refine ⟨σ.ext s ⟨w.heap.size, 0, some (z, cs.length, nc * z)⟩, hle, ⟨?_, ?_⟩, ?_⟩
  · refine (st.hr.new hs (some (z, cs.length, nc * z)) (o := .cells ⟨cs⟩ el (z + 1, 0)) (O := .cells (cs' ++ rest) el) ?_ rfl).congr (fun m => T.get_set h s m _)
    refine ⟨cs' ++ rest, el, (0, 0), rfl, ?_, ?_, ?_, ?_, ?_, ?_⟩
    · simp [Ev.ext, hr]; omega
    · intro i x hx
      have hx' : cs[i]? = some x := by simpa using hx
      obtain ⟨x', a, b⟩ := hc.get i x hx'
      have hlt : i < cs'.size := by have := lt_of_get? (H := cs') (i := i) (x := x') (by simpa using a); exact this
      refine ⟨x', ?_, b.mono hle⟩
      simp only [Nat.zero_add]
      rw [Array.getElem?_append_left hlt]; simpa using a
    · intro i _; simp
    · simp [Ev.ext]; have := Nat.mul_le_mul_right z hnc; omega
    · intro a b c hh; cases hh; simp
    · exact ⟨_, _, rfl⟩
  · exact (st.below.alloc st.below.size _).drew
  · have := VR.slice (σ := σ.ext s ⟨w.heap.size, 0, some (z, cs.length, nc * z)⟩) s 0 nl nl ⟨w.heap.size, 0, some (z, cs.length, nc * z)⟩ nc (Emb.ext_same _ _ _) (by
      unfold capOk; dsimp only; refine ⟨.inr ⟨by omega, hnc⟩, by omega⟩) (q := none) (.inl rfl)
    simpa using this

theorem Sim.append (st : St σ w0 h w) {ts : Array TypeId} {T0 : TypeId} {x x' y y' : Value} (hx : VR σ x x') (hy : VR σ y y') : Sim P w0 σ h w (aappend P ts x y) (Builtin.append_ ts T0 #[x', y']) VR := by
  unfold aappend
  intro k s r e
  dsimp only at e
  split at e
  · rename_i t u h0 h1
    split at e
    · rename_i el d hd hu
      split at e
      · rename_i i base len cap n hi hn
        cases hg : (Nat.ble (len + n) 1000000 && Nat.ble i.bytes 100000 && !Nat.beq i.bytes 0 && zsize P el i.size && Nat.ble len cap) with
        | false => rw [hg] at e; cases e
        | true =>
        rw [hg] at e
        simp only [cond_true] at e
        simp only [Bool.and_eq_true, Nat.ble_eq, Bool.not_eq_true'] at hg
        obtain ⟨⟨⟨⟨g2, g3⟩, g4⟩, g5⟩, g6⟩ := hg
        have hb0 : i.bytes ≠ 0 := fun h0 => by rw [h0] at g4; cases g4
        obtain ⟨z0, hz, hzs⟩ := zsize_spec g5
        -- the shape of x'
        have hxs : ∃ base' cap', x' = .slice base' len cap' ∧ cap ≤ cap' ∧ ((base = none ∧ base' = none ∧ cap' = cap ∧ len = 0 ∧ cap = 0) ∨ (∃ m o en qq, base = some ⟨m, o, qq⟩ ∧ base' = some ⟨en.blk, en.shift + o, none⟩ ∧ σ m = some en ∧ capOk en o cap cap' ∧ (qq = none ∨ cap' = cap)) ∨ (len = 0 ∧ cap = 0 ∧ cap' = 0 ∧ ∃ a a', base = some a ∧ base' = some a')) := by
          cases hx with
          | sliceNil => exact ⟨none, 0, rfl, Nat.le_refl _, .inl ⟨rfl, rfl, rfl, rfl, rfl⟩⟩
          | @slice m o _ _ en cap' he hc qq hq =>
            refine ⟨_, cap', rfl, ?_, .inr (.inl ⟨m, o, en, qq, rfl, rfl, he, hc, hq⟩)⟩
            unfold capOk at hc
            cases hs : en.soft with
            | none => rw [hs] at hc; dsimp only at hc; omega
            | some p => obtain ⟨a, b, c⟩ := p; rw [hs] at hc; dsimp only at hc; omega
          | slice0 a a' => exact ⟨_, 0, rfl, Nat.le_refl _, .inr (.inr ⟨rfl, rfl, rfl, a, a', rfl, rfl⟩)⟩
        obtain ⟨base', cap', rfl, hcc, hsh⟩ := hxs
        cases hn0 : Nat.beq n 0 with
        | true =>
          rw [hn0] at e
          simp only [cond_true] at e
          have hnz := Nat.eq_of_beq_eq_true hn0
          subst hnz
          have := (Src.zero (P := P) (i := i) st hy hn hz).fits (T0 := T0) (base := base') (len := len) (cap := cap') h0 h1 hd hu hi g3 (by omega)
          refine ⟨_, s, h, e, _, w, σ, ?_, .refl _, st, hx⟩
          rw [this]
          cases base' <;> simp [storeCells]
        | false =>
          rw [hn0] at e
          simp only [cond_false] at e
          have hnz : n ≠ 0 := fun h0 => by rw [h0] at hn0; cases hn0
          cases hfit : Nat.ble (len + n) cap with
          | true =>
            rw [hfit] at e
            simp only [cond_true] at e
            rw [Nat.ble_eq] at hfit
            split at e
            · rename_i m o qq
              obtain ⟨l, e2, new, hnew, hl⟩ := Src.of (P := P) (w := w) st hy hn hz hzs e
              rcases hsh with ⟨q, _⟩ | ⟨m', o', en, qq', q1, rfl, he, hc, hqq⟩ | ⟨q1, q2, _⟩
              · cases q
              · cases q1
                obtain ⟨_, s', h', e3, _, w', σ', run, le, st', _⟩ := Sim.put (P := P) st he hl _ _ _ e2
                refine ⟨_, s', h', e3, .slice (some ⟨en.blk, en.shift + o, none⟩) (len + n) cap', w', σ', ?_, le, st', .slice _ _ _ _ _ _ (le _ _ he) hc hqq⟩
                rw [hnew.fits (T0 := T0) h0 h1 hd hu hi g3 (by omega)]
                dsimp only
                rw [addr_add, show en.shift + o + len * i.size = en.shift + (o + len * i.size) by omega, run]; rfl
              · omega
            · cases e
          | false =>
            rw [hfit] at e
            simp only [cond_false] at e
            have hgt : cap < len + n := by
              rcases Nat.lt_or_ge cap (len + n) with h | h
              · exact h
              · rw [Nat.ble_eq_true_of_le h] at hfit; cases hfit
            split at e
            · -- nil
              obtain ⟨l, e2, new, hnew, hl⟩ := Src.of (P := P) (w := w) st hy hn hz hzs e
              cases hc2 : (Nat.beq l.length (n * i.size) && Nat.beq len 0) with
              | false => rw [hc2] at e2; cases e2
              | true =>
              rw [hc2] at e2
              simp only [cond_true] at e2
              simp only [Bool.and_eq_true] at hc2
              have hll := Nat.eq_of_beq_eq_true hc2.1
              have hl0 := Nat.eq_of_beq_eq_true hc2.2
              subst hl0
              rcases hsh with ⟨_, rfl, rfl, _, rfl⟩ | ⟨m', o', en, qq', q1, _⟩ | ⟨_, _, _, a, a', q1, _⟩
              · obtain ⟨nc, rest, r1, r2, r3⟩ := hnew.grows (T0 := T0) (x := .slice none 0 0) (old := #[]) (nl := 0 + n) h0 h1 hd hu hi (zeroT_spec hz w).1 rfl hgt g2 g3 hb0 rfl (fun _ _ => rfl) (fun w' _ => (zeroT_spec hz w').1)
                unfold agrown anew at e2
                rw [AM.run_new] at e2
                split at e2
                · cases e2
                · rename_i hsn
                  have hrs : rest.size = (nc - (0 + n)) * i.size := by rw [r2, zeroCells_size, hzs]
                  obtain ⟨σ', le, st', hv⟩ := st.grown (el := el) (z := i.size) (nl := 0 + n) (nc := nc) (cs := l) (cs' := new) (rest := rest) hsn hl (by rw [hll, Nat.zero_add]) hrs r1 rfl
                  refine ⟨_, s + 1, _, e2, _, _, σ', r3, le, ?_, hv⟩
                  simpa using st'
              · cases q1
              · cases q1
            · -- a row
              rename_i m o qq
              obtain ⟨l, e2, new, hnew, hl⟩ := Src.of (P := P) (w := w) st hy hn hz hzs e
              cases hc2 : (Nat.beq l.length (n * i.size) && l.all Value.oneCell') with
              | false => rw [hc2] at e2; cases e2
              | true =>
              rw [hc2] at e2
              simp only [cond_true] at e2
              simp only [Bool.and_eq_true] at hc2
              have hll := Nat.eq_of_beq_eq_true hc2.1
              have hone := hl.oneCells (List.all_eq_true.1 hc2.2)
              -- the entry of m
              have hm : ∃ ob, h.get m = some ob := by
                unfold acells at e2
                rw [AM.run_get] at e2
                split at e2
                · rename_i ob hob; exact ⟨ob, hob⟩
                · cases e2
              obtain ⟨ob, hob⟩ := hm
              obtain ⟨en, he, hx1, hx2⟩ := st.hr.ob m ob hob
              clear hx1 hx2
              obtain ⟨q, e3, oldc, hold, hq, hql⟩ := SimQ.cells (P := P) st he _ _ _ e2
              unfold akill at e3
              rw [AM.run_get, hob] at e3
              dsimp only at e3
              split at e3
              · rename_i c0 t0 f0 f1
                obtain ⟨hbase, cs, u0, fr, q1, q2, q3, q4, q5, q6, q7⟩ := st.row hob he
                -- what the model reads of the elder row
                have hold2 : ∀ w' : World, w'.heap = w.heap → (Builtin.firstCells i.size len (.slice base' len cap')).run P w' = .ok oldc w' := by
                  intro w' hw'
                  rcases hsh with ⟨z, _⟩ | ⟨m', o', en', qq', z1, rfl, z3, _⟩ | ⟨rfl, _, _, a, a', z1, rfl⟩
                  · cases z
                  · cases z1
                    rw [he] at z3; cases z3
                    exact hold w' hw'
                  · have hz1 : q = [] := List.eq_nil_of_length_eq_zero (by simpa using hql)
                    subst hz1
                    have hz2 : oldc = #[] := Array.eq_empty_of_size_eq_zero (by simpa using hq.length)
                    subst hz2
                    simp [Builtin.firstCells, loadCells, loadCellsFrom]
                have hqa : VRs σ (q ++ l) (oldc ++ new).toList := by rw [Array.toList_append]; exact hq.append hl
                have hqn : (q ++ l).length = (len + n) * i.size := by rw [List.length_append, hql, hll, Nat.add_mul]
                by_cases hroom : cap' < len + n
                · -- the model grows, too
                  obtain ⟨nc, rest, r1, r2, r3⟩ := hnew.grows (T0 := T0) (x := .slice base' len cap') (old := oldc) (nl := len + n) h0 h1 hd hu hi (zeroT_spec hz w).1 rfl hroom g2 g3 hb0 rfl hold2 (fun w' _ => (zeroT_spec hz w').1)
                  have hrs : rest.size = (nc - (len + n)) * i.size := by rw [r2, zeroCells_size, hzs]
                  cases hf0 : (qq.isSome || Nat.beq f0 0) with
                  | true =>
                    rw [hf0] at e3
                    simp only [cond_true] at e3
                    unfold agrown anew at e3
                    rw [AM.run_new] at e3
                    split at e3
                    · cases e3
                    · rename_i hsn
                      obtain ⟨σ', le, st', hv⟩ := st.grown (el := el) (z := i.size) (nl := len + n) (nc := nc) (cs := q ++ l) (cs' := oldc ++ new) (rest := rest) hsn hqa hqn hrs r1 rfl
                      exact ⟨_, s + 1, _, e3, _, _, σ', r3, le, st', hv⟩
                  | false =>
                    rw [hf0] at e3
                    simp only [cond_false] at e3
                    cases hf1 : Nat.beq f0 (i.size + 1) with
                    | false => rw [hf1] at e3; cases e3
                    | true =>
                      rw [hf1] at e3
                      simp only [cond_true] at e3
                      rw [AM.run_put, hob] at e3
                      dsimp only at e3
                      have st2 : St σ w0 (h.set m (.pending #[] 0)) w := ⟨(st.hr.kill hob #[] 0).congr (fun x => T.get_set h m x _), st.below⟩
                      unfold agrown anew at e3
                      rw [AM.run_new] at e3
                      split at e3
                      · cases e3
                      · rename_i hsn
                        obtain ⟨σ', le, st', hv⟩ := st2.grown (el := el) (z := i.size) (nl := len + n) (nc := nc) (cs := q ++ l) (cs' := oldc ++ new) (rest := rest) hsn hqa hqn hrs r1 rfl
                        exact ⟨_, s + 1, _, e3, _, _, σ', r3, le, st', hv⟩
                · -- the model writes into the room behind it
                  rcases hsh with ⟨z, _⟩ | ⟨m', o', en', qq', z1, rfl, z3, hc, hqq⟩ | ⟨_, _, z3, _⟩
                  · cases z
                  · cases z1
                    rw [he] at z3; cases z3
                    unfold capOk at hc
                    cases hsoft : en.soft with
                    | none => rw [hsoft] at hc; dsimp only at hc; omega
                    | some p =>
                    obtain ⟨esz, sz, tot⟩ := p
                    rw [hsoft] at hc
                    dsimp only at hc
                    have hfz : ∃ z, f0 = z + 1 := by
                      cases f0 with
                      | zero => have : en.soft = none := q7; rw [hsoft] at this; cases this
                      | succ z => exact ⟨z, rfl⟩
                    obtain ⟨z, rfl⟩ := hfz
                    obtain ⟨sz', tot', q7'⟩ : ∃ sz tot, en.soft = some (z, sz, tot) := q7
                    rw [hsoft] at q7'; cases q7'
                    have hq0 : qq = none := by
                      rcases hqq with z | z
                      · exact z
                      · omega
                    subst hq0
                    simp only [Nat.beq, Option.isSome_none, Bool.false_or, cond_false] at e3
                    cases hf1 : Nat.beq esz i.size with
                    | false => rw [hf1] at e3; cases e3
                    | true =>
                    rw [hf1] at e3
                    have hez := Nat.eq_of_beq_eq_true hf1
                    subst hez
                    simp only [cond_true] at e3
                    rw [AM.run_put, hob] at e3
                    dsimp only at e3
                    unfold agrown anew at e3
                    rw [AM.run_new] at e3
                    split at e3
                    · cases e3
                    · rename_i hsn
                      have hext : Ev.ext en c0.size = tot := by simp [Ev.ext, hsoft]
                      rw [hext] at q2 q4 q5
                      have hszc := q6 _ _ _ hsoft
                      have hms : m ≠ s := fun x => by subst x; simp [T.get_set] at hsn
                      have hsn' : h.get s = none := by simpa [T.get_set, hms] using hsn
                      have hroF : roF (i.size + 1, f1) = false := rfl
                      have hbase := hbase hroF
                      have hm1 : (len + n) * i.size ≤ cap' * i.size := Nat.mul_le_mul_right _ (by omega)
                      have hm2 : (len + n) * i.size = len * i.size + n * i.size := Nat.add_mul _ _ _
                      have hlen' : new.toList.length = n * i.size := by rw [hl.length, hll]
                      obtain ⟨w', r1, r2, r3, r4, r5, r6, cs', r7, r8, r9⟩ := run_storeCells (P := P) en.blk u0 fr new.toList w cs (en.shift + o + len * i.size) 0 q1 (by omega) hone
                        (fun j a b => by have := q4 hroF (j - en.shift) (by omega); rwa [show en.shift + (j - en.shift) = j by omega] at this)
                      have hrun := hnew.fits (T0 := T0) (base := some ⟨en.blk, en.shift + o, none⟩) (len := len) (cap := cap') h0 h1 hd hu hi g3 (by omega)
                      dsimp only at hrun
                      rw [addr_add, r1] at hrun
                      have hle := Emb.ext_le (σ := σ) (n := s) ⟨en.blk, en.shift + o, some (i.size, (⟨q ++ l⟩ : Array Value).size, cap' * i.size)⟩ (st.hr.fresh hsn')
                      refine ⟨_, s + 1, _, e3, _, w', σ.ext s ⟨en.blk, en.shift + o, some (i.size, (⟨q ++ l⟩ : Array Value).size, cap' * i.size)⟩, hrun, hle, ⟨?_, ?_⟩, ?_⟩
                      · refine (st.hr.graft (p0 := .pending #[] 0) hob he hsoft hsn' (o := o) (wd := cap' * i.size) (by omega) (c' := ⟨q ++ l⟩) (t' := el) (f' := (i.size + 1, 0)) rfl rfl rfl r2 r3 ?_ ?_).congr (fun x => by rw [T.get_set, T.get_set])
                        · intro d u1 fs hd'
                          rw [q1] at hd'; cases hd'
                          exact ⟨cs', r7, r8, fun j hj => by rw [r9, if_neg (by omega)]⟩
                        · refine ⟨cs', u0, fr, r7, ?_, ?_, ?_, ?_, ?_, ?_⟩
                          · rw [r8]; simp only [Ev.ext]; omega
                          · intro j x hj
                            have hj' : (q ++ l)[j]? = some x := by simpa using hj
                            obtain ⟨x', v1, v2⟩ := hqa.get j x hj'
                            refine ⟨x', ?_, v2.mono hle⟩
                            dsimp only
                            rw [r9]
                            rw [Array.toList_append] at v1
                            by_cases hlt : j < len * i.size
                            · rw [if_neg (by omega)]
                              rw [List.getElem?_append_left (by rw [hq.length, hql]; exact hlt)] at v1
                              -- the elder cells
                              have w1 := hold2 w rfl
                              have : cs[en.shift + o + j]? = some x' := by
                                have hc0 : j < len * i.size := hlt
                                have hr := hold w rfl
                                have hh := run_loadCells_list (P := P) (w := w) ⟨en.blk, en.shift + o, none⟩ ((cs.toList.drop (en.shift + o)).take (len * i.size)) (fun a b hab => by
                                  rw [addr_add, cell_of w _ _ q1]
                                  rw [List.getElem?_take] at hab
                                  split at hab
                                  · rw [List.getElem?_drop] at hab; simpa using hab
                                  · cases hab)
                                have hlen2 : ((cs.toList.drop (en.shift + o)).take (len * i.size)).length = len * i.size := by
                                  simp only [List.length_take, List.length_drop, Array.length_toList]; omega
                                rw [hlen2, hr] at hh
                                have hh2 : oldc = ((cs.toList.drop (en.shift + o)).take (len * i.size)).toArray := by injection hh
                                rw [hh2] at v1
                                simp only [List.getElem?_take, hlt, if_true, List.getElem?_drop] at v1
                                simpa using v1
                              exact this
                            · have hjl : j < (q ++ l).length := by
                                rcases Nat.lt_or_ge j (q ++ l).length with z | z
                                · exact z
                                · rw [List.getElem?_eq_none z] at hj'; cases hj'
                              rw [if_pos (by omega)]
                              rw [List.getElem?_append_right (by rw [hq.length, hql]; omega), hq.length, hql] at v1
                              rw [← v1]; congr 1; omega
                          · intro _ j hj
                            simp only [Ev.ext] at hj
                            have := q4 hroF (o + j) (by omega)
                            dsimp only
                            rwa [show en.shift + o + j = en.shift + (o + j) by omega]
                          · simp only [Ev.ext, List.size_toArray]; omega
                          · intro a b c hh; cases hh; rfl
                          · exact ⟨_, _, rfl⟩
                      · exact st.below.trans ⟨r4, r5, r6, by omega, fun k hk => r3 k (by omega)⟩
                      · have := VR.slice (σ := σ.ext s ⟨en.blk, en.shift + o, some (i.size, (⟨q ++ l⟩ : Array Value).size, cap' * i.size)⟩) s 0 (len + n) (len + n) _ cap' (Emb.ext_same _ _ _) (by
                          unfold capOk; dsimp only; refine ⟨.inr ⟨by simp only [List.size_toArray]; omega, by omega⟩, by omega⟩) (q := none) (.inl rfl)
                        simpa using this
                  · omega
              · cases e3
      · cases e
    · cases e
  · cases e

end
end Go.Ev
