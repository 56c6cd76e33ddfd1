/- Calls without a body that read or write a cell as one. No condition. -/
import Derived.Test.YtpfnoffadfahmaaGreatEvJ
import Derived.KernelRfl
namespace Go.Ev
open Go Go.RowKit
set_option linter.unusedVariables false
set_option linter.unusedSimpArgs false

inductive AtomK where
  | load
  | store
  | cas
  | add
  | idx
  | dis
  | ena
  | acq
  | rel
  | relm
noncomputable def atomOf (P : Program) (f : FuncId) : Option AtomK := match P.funcs[f]? with
  | some fn => bif fn.body.isNone && fn.origin == "" then
      (bif fn.name == "sync/atomic.LoadUint32" then some .load else bif fn.name == "sync/atomic.StoreUint32" then some .store
        else bif fn.name == "sync/atomic.CompareAndSwapInt32" then some .cas else bif fn.name == "sync/atomic.AddInt32" then some .add else bif fn.name == "internal/bytealg.IndexByte" then some .idx
        else bif fn.name == "internal/race.Disable" then some .dis else bif fn.name == "internal/race.Enable" then some .ena else bif fn.name == "internal/race.Acquire" then some .acq else bif fn.name == "internal/race.Release" then some .rel else bif fn.name == "internal/race.ReleaseMerge" then some .relm else none) else none
  | none => none
noncomputable def rowOf : AtomK → Array Value → Sem Value
  | .load => Extern.Atomic.loadT (.int .u32)
  | .store => Extern.Atomic.storeT
  | .cas => Extern.Atomic.casT (.int .i32)
  | .add => Extern.Atomic.update (Op.intArith .add) .i32 true
  | .idx => Extern.BytealgIndexByte.indexByte
  | .dis => fun _ => do mark .disable; pure Extern.Race.none_
  | .ena => fun _ => do mark .enable; pure Extern.Race.none_
  | .acq => Extern.Race.marked .acquire
  | .rel => Extern.Race.marked .release
  | .relm => Extern.Race.marked .releaseMerge

theorem e1 : Extern.allNextRows.lookup "" = none := by kernel_rfl
theorem e2 : Extern.allGenericRows.lookup "" = none := by kernel_rfl
theorem e3 : Extern.allTypedRows.lookup "" = none := by kernel_rfl
set_option maxRecDepth 100000 in
theorem l1 : Extern.allNextRows.lookup "sync/atomic.LoadUint32" = none ∧ Extern.allGenericRows.lookup "sync/atomic.LoadUint32" = none ∧ Extern.allTypedRows.lookup "sync/atomic.LoadUint32" = none ∧ Extern.allRows.lookup "sync/atomic.LoadUint32" = some (rowOf .load) :=
  ⟨by kernel_rfl, by kernel_rfl, by kernel_rfl, by kernel_rfl⟩
set_option maxRecDepth 100000 in
theorem l2 : Extern.allNextRows.lookup "sync/atomic.StoreUint32" = none ∧ Extern.allGenericRows.lookup "sync/atomic.StoreUint32" = none ∧ Extern.allTypedRows.lookup "sync/atomic.StoreUint32" = none ∧ Extern.allRows.lookup "sync/atomic.StoreUint32" = some (rowOf .store) :=
  ⟨by kernel_rfl, by kernel_rfl, by kernel_rfl, by kernel_rfl⟩
set_option maxRecDepth 100000 in
theorem l3 : Extern.allNextRows.lookup "sync/atomic.CompareAndSwapInt32" = none ∧ Extern.allGenericRows.lookup "sync/atomic.CompareAndSwapInt32" = none ∧ Extern.allTypedRows.lookup "sync/atomic.CompareAndSwapInt32" = none ∧ Extern.allRows.lookup "sync/atomic.CompareAndSwapInt32" = some (rowOf .cas) :=
  ⟨by kernel_rfl, by kernel_rfl, by kernel_rfl, by kernel_rfl⟩
set_option maxRecDepth 100000 in
theorem l4 : Extern.allNextRows.lookup "sync/atomic.AddInt32" = none ∧ Extern.allGenericRows.lookup "sync/atomic.AddInt32" = none ∧ Extern.allTypedRows.lookup "sync/atomic.AddInt32" = none ∧ Extern.allRows.lookup "sync/atomic.AddInt32" = some (rowOf .add) :=
  ⟨by kernel_rfl, by kernel_rfl, by kernel_rfl, by kernel_rfl⟩
set_option maxRecDepth 100000 in
theorem l5 : Extern.allNextRows.lookup "internal/bytealg.IndexByte" = none ∧ Extern.allGenericRows.lookup "internal/bytealg.IndexByte" = none ∧ Extern.allTypedRows.lookup "internal/bytealg.IndexByte" = none ∧ Extern.allRows.lookup "internal/bytealg.IndexByte" = some (rowOf .idx) :=
  ⟨by kernel_rfl, by kernel_rfl, by kernel_rfl, by kernel_rfl⟩

set_option maxRecDepth 100000 in
theorem l6 : Extern.allNextRows.lookup "internal/race.Disable" = none ∧ Extern.allGenericRows.lookup "internal/race.Disable" = none ∧ Extern.allTypedRows.lookup "internal/race.Disable" = none ∧ Extern.allRows.lookup "internal/race.Disable" = some (rowOf .dis) :=
  ⟨by kernel_rfl, by kernel_rfl, by kernel_rfl, by kernel_rfl⟩
set_option maxRecDepth 100000 in
theorem l7 : Extern.allNextRows.lookup "internal/race.Enable" = none ∧ Extern.allGenericRows.lookup "internal/race.Enable" = none ∧ Extern.allTypedRows.lookup "internal/race.Enable" = none ∧ Extern.allRows.lookup "internal/race.Enable" = some (rowOf .ena) :=
  ⟨by kernel_rfl, by kernel_rfl, by kernel_rfl, by kernel_rfl⟩
set_option maxRecDepth 100000 in
theorem l8 : Extern.allNextRows.lookup "internal/race.Acquire" = none ∧ Extern.allGenericRows.lookup "internal/race.Acquire" = none ∧ Extern.allTypedRows.lookup "internal/race.Acquire" = none ∧ Extern.allRows.lookup "internal/race.Acquire" = some (rowOf .acq) :=
  ⟨by kernel_rfl, by kernel_rfl, by kernel_rfl, by kernel_rfl⟩
set_option maxRecDepth 100000 in
theorem l9 : Extern.allNextRows.lookup "internal/race.Release" = none ∧ Extern.allGenericRows.lookup "internal/race.Release" = none ∧ Extern.allTypedRows.lookup "internal/race.Release" = none ∧ Extern.allRows.lookup "internal/race.Release" = some (rowOf .rel) :=
  ⟨by kernel_rfl, by kernel_rfl, by kernel_rfl, by kernel_rfl⟩
set_option maxRecDepth 100000 in
theorem l10 : Extern.allNextRows.lookup "internal/race.ReleaseMerge" = none ∧ Extern.allGenericRows.lookup "internal/race.ReleaseMerge" = none ∧ Extern.allTypedRows.lookup "internal/race.ReleaseMerge" = none ∧ Extern.allRows.lookup "internal/race.ReleaseMerge" = some (rowOf .relm) :=
  ⟨by kernel_rfl, by kernel_rfl, by kernel_rfl, by kernel_rfl⟩
theorem found {fn : Func} {n : String} {r : Array Value → Sem Value} (hn : fn.name = n) (ho : fn.origin = "") (h : Extern.allNextRows.lookup n = none ∧ Extern.allGenericRows.lookup n = none ∧ Extern.allTypedRows.lookup n = none ∧ Extern.allRows.lookup n = some r) :
    Extern.findNext fn = none ∧ Extern.find fn = some r := by
  obtain ⟨h1, h2, h3, h4⟩ := h
  unfold Extern.findNext Extern.find
  rw [hn, ho]
  dsimp only
  rw [h1, h2, h3, h4, e1]
  exact ⟨rfl, rfl⟩

theorem run_atom {P : Program} {f : FuncId} {k : AtomK} (h : atomOf P f = some k) (args : Array Value) (w : World) : (callFunc f args).run P w = ((rowOf k args).run P w).andThen fun v w => .ok (.value v) w := by
  unfold atomOf at h
  split at h
  · rename_i fn hf
    cases hb : (fn.body.isNone && fn.origin == "") with
    | false => rw [hb] at h; cases h
    | true =>
      rw [hb] at h
      simp only [cond_true] at h
      rw [Bool.and_eq_true, beq_iff_eq] at hb
      have key : Extern.findNext fn = none ∧ Extern.find fn = some (rowOf k) ∧ (fn.name == "runtime.NumGoroutine") = false := by
        cases h1 : fn.name == "sync/atomic.LoadUint32" with
        | true => rw [h1] at h; cases h; rw [beq_iff_eq] at h1; obtain ⟨a, b⟩ := found h1 hb.2 l1; exact ⟨a, b, by rw [h1]; rfl⟩
        | false =>
        cases h2 : fn.name == "sync/atomic.StoreUint32" with
        | true => rw [h1, h2] at h; cases h; rw [beq_iff_eq] at h2; obtain ⟨a, b⟩ := found h2 hb.2 l2; exact ⟨a, b, by rw [h2]; rfl⟩
        | false =>
        cases h3 : fn.name == "sync/atomic.CompareAndSwapInt32" with
        | true => rw [h1, h2, h3] at h; cases h; rw [beq_iff_eq] at h3; obtain ⟨a, b⟩ := found h3 hb.2 l3; exact ⟨a, b, by rw [h3]; rfl⟩
        | false =>
        cases h4 : fn.name == "sync/atomic.AddInt32" with
        | true => rw [h1, h2, h3, h4] at h; cases h; rw [beq_iff_eq] at h4; obtain ⟨a, b⟩ := found h4 hb.2 l4; exact ⟨a, b, by rw [h4]; rfl⟩
        | false =>
        cases h5 : fn.name == "internal/bytealg.IndexByte" with
        | true => rw [h1, h2, h3, h4, h5] at h; cases h; rw [beq_iff_eq] at h5; obtain ⟨a, b⟩ := found h5 hb.2 l5; exact ⟨a, b, by rw [h5]; rfl⟩
        | false =>
        cases h6 : fn.name == "internal/race.Disable" with
        | true => rw [h1, h2, h3, h4, h5, h6] at h; cases h; rw [beq_iff_eq] at h6; obtain ⟨a, b⟩ := found h6 hb.2 l6; exact ⟨a, b, by rw [h6]; rfl⟩
        | false =>
        cases h7 : fn.name == "internal/race.Enable" with
        | true => rw [h1, h2, h3, h4, h5, h6, h7] at h; cases h; rw [beq_iff_eq] at h7; obtain ⟨a, b⟩ := found h7 hb.2 l7; exact ⟨a, b, by rw [h7]; rfl⟩
        | false =>
        cases h8 : fn.name == "internal/race.Acquire" with
        | true => rw [h1, h2, h3, h4, h5, h6, h7, h8] at h; cases h; rw [beq_iff_eq] at h8; obtain ⟨a, b⟩ := found h8 hb.2 l8; exact ⟨a, b, by rw [h8]; rfl⟩
        | false =>
        cases h9 : fn.name == "internal/race.Release" with
        | true => rw [h1, h2, h3, h4, h5, h6, h7, h8, h9] at h; cases h; rw [beq_iff_eq] at h9; obtain ⟨a, b⟩ := found h9 hb.2 l9; exact ⟨a, b, by rw [h9]; rfl⟩
        | false =>
        cases h10 : fn.name == "internal/race.ReleaseMerge" with
        | true => rw [h1, h2, h3, h4, h5, h6, h7, h8, h9, h10] at h; cases h; rw [beq_iff_eq] at h10; obtain ⟨a, b⟩ := found h10 hb.2 l10; exact ⟨a, b, by rw [h10]; rfl⟩
        | false => rw [h1, h2, h3, h4, h5, h6, h7, h8, h9, h10] at h; cases h
      obtain ⟨k1, k2, k3⟩ := key
      unfold callFunc
      have hp : (program).run P w = .ok P w := rfl
      have hm : (mark (.extern f)).run P w = .ok () w := rfl
      simp only [Sem.run_bind, hp, Result.andThen_ok, hf, k3, hb.1, Bool.false_eq_true, if_false, if_true, hm, k1, k2, Sem.run_pure]
  · cases h

noncomputable def idxOf (b : ByteArray) (c : UInt8) : Value := match (List.range b.size).find? fun i => b[i]! == c with
  | some i => .int .i64 i
  | none => .int .i64 (-1)
noncomputable def atLoad (args : List Value) : M Value := fun K s => match args with
  | [p] => match aaddr p with
    | some (n, o) => aload n o (fun v s => match v with | .int .u32 x => K (.int .u32 x) s | _ => .fail) s
    | none => .fail
  | _ => .fail
noncomputable def atStore (args : List Value) : M Value := fun K s => match args with
  | [p, v] => match aaddr p with
    | some (n, o) => aput n o [v] (fun _ s => K (.tuple #[]) s) s
    | none => .fail
  | _ => .fail
noncomputable def atCas (args : List Value) : M Value := fun K s => match args with
  | [p, .int _ y, v] => match aaddr p with
    | some (n, o) => .get n fun
      | .cells c t f => bif ro (.cells c t f) || Nat.ble c.size o then .fail else aload n o (fun u s => match u with
        | .int .i32 x => bif x == y then aput n o [v] (fun _ s => K (.bool true) s) s else K (.bool false) s
        | _ => .fail) s
      | _ => .fail
    | none => .fail
  | _ => .fail
noncomputable def atAdd (args : List Value) : M Value := fun K s => match args with
  | [p, .int _ y] => match aaddr p with
    | some (n, o) => aload n o (fun u s => match u with
      | .int .i32 x => aput n o [.int .i32 (IntKind.i32.wrap (x + y))] (fun _ s => K (.int .i32 (IntKind.i32.wrap (x + y))) s) s
      | _ => .fail) s
    | none => .fail
  | _ => .fail
noncomputable def atIdx (args : List Value) : M Value := fun K s => match args with
  | [.slice none _ _, .int .u8 c] => K (.int .i64 (-1)) s
  | [.slice (some ⟨n, o, _⟩) len _, .int .u8 c] => bif Nat.beq len 0 then .fail else acells n o len (fun l s => match bytesL l with | some bs => K (idxOf ⟨⟨bs⟩⟩ c.toNat.toUInt8) s | none => .fail) s
  | _ => .fail
noncomputable def atMark (args : List Value) : M Value := fun K s => match args with
  | p :: _ => match aaddr p with
    | some _ => K (.tuple #[]) s
    | none => .fail
  | _ => .fail
noncomputable def aatom : AtomK → List Value → M Value
  | .load => atLoad
  | .store => atStore
  | .cas => atCas
  | .add => atAdd
  | .idx => atIdx
  | .dis => fun _ K s => K (.tuple #[]) s
  | .ena => fun _ K s => K (.tuple #[]) s
  | .acq => atMark
  | .rel => atMark
  | .relm => atMark

section
variable {P : Program} {w0 : World} {σ : Emb} {h : T} {w : World}
theorem atom_put (st : St σ w0 h w) {n off : Nat} {e : En} (he : σ n = some e) {v v' : Value} (hv : VR σ v v') : Sim P w0 σ h w (aput n off [v]) (store ⟨e.blk, e.shift + off, none⟩ v' .atomic) (fun _ _ _ => True) := by
  intro k s r x
  obtain ⟨a, s', h', e', b, w', σ', run, rest⟩ := Sim.put (P := P) st he (.cons hv .nil) k s r x
  refine ⟨a, s', h', e', (), w', σ', ?_, rest⟩
  have hone : v'.oneCell' = true := by
    unfold aput at x
    rw [AM.run_get] at x
    split at x
    · rename_i o ho
      split at x
      · cases hg : (Nat.ble (off + [v].length) _ && ([v].all Value.oneCell' && !ro (.cells _ _ _))) with
        | false => rw [hg] at x; cases x
        | true =>
          simp only [Bool.and_eq_true, List.all_cons, List.all_nil] at hg
          rw [hv.oneCell]; simpa using hg.2.1
      · cases x
    · cases x
  have r1 : (storeCells ⟨e.blk, e.shift + off, none⟩ [v']).run P w = ((store ⟨e.blk, e.shift + off, none⟩ v' .plain).run P w).andThen fun _ w => .ok () w := by
    show (do store ((⟨e.blk, e.shift + off, none⟩ : Addr).add 0) v'; storeCells ⟨e.blk, e.shift + off, none⟩ [] 1 : Sem Unit).run P w = _
    rw [addr_add, Sem.run_bind]
    rfl
  rw [r1, run_store P w _ v' .plain hone] at run
  rw [run_store P w _ v' .atomic hone]
  cases hc : w.cell? ⟨e.blk, e.shift + off, none⟩ with
  | some u =>
    rw [hc] at run
    dsimp only at run ⊢
    cases hf : w.frozen? ⟨e.blk, e.shift + off, none⟩ with
    | true => rw [hf] at run; simp [Result.andThen] at run
    | false =>
      rw [hf] at run
      simp only [Bool.false_eq_true, if_false, Result.andThen_ok] at run ⊢
      cases run; rfl
  | none =>
    exfalso
    unfold aput at x
    rw [AM.run_get] at x
    split at x
    · rename_i o ho
      split at x
      · rename_i c t f
        cases hg : (Nat.ble (off + [v].length) c.size && ([v].all Value.oneCell' && !ro (.cells c t f))) with
        | false => rw [hg] at x; cases x
        | true =>
          simp only [Bool.and_eq_true, Nat.ble_eq, List.length_singleton] at hg
          obtain ⟨_, cs, t', fr, h1, _, h3, _⟩ := st.row ho he
          obtain ⟨y, hy, _⟩ := h3 off c[off] (by simp)
          rw [cell_of w _ _ h1, hy] at hc; exact absurd hc (by simp)
      · cases x
    · cases x
theorem run_loadBytes (b o : Nat) (w : World) : ∀ (l : List Value) (bs : List UInt8) (acc : ByteArray) (i : Nat), bytesL l = some bs → (∀ (j : Nat) v, l[j]? = some v → w.cell? ⟨b, o + (i + j), none⟩ = some v) →
    (Extern.Bytes.loadBytes ⟨b, o + i, none⟩ l.length acc).run P w = .ok ⟨acc.data ++ bs.toArray⟩ w
  | [], bs, acc, i, hb, hc => by
    simp only [bytesL] at hb; cases hb
    simp [Extern.Bytes.loadBytes]
  | v :: l, bs, acc, i, hb, hc => by
    simp only [bytesL] at hb
    split at hb
    · rename_i c cs h1 h2
      obtain rfl := Option.some.inj hb
      unfold byteOf? at h1
      split at h1
      · rename_i n
        obtain rfl := Option.some.inj h1
        have h0 := hc 0 _ rfl
        have ih := run_loadBytes b o w l cs (acc.push (UInt8.ofNat n.toNat)) (i + 1) h2 (fun j v hj => by rw [show i + 1 + j = i + (j + 1) by omega]; exact hc (j + 1) v (by simpa using hj))
        show (do match ← load ⟨b, o + i, none⟩ with
            | .int .u8 b' => Extern.Bytes.loadBytes ((⟨b, o + i, none⟩ : Addr).add 1) l.length (acc.push b'.toNat.toUInt8)
            | _ => stuck "loadBytes: a byte expected" : Sem ByteArray).run P w = _
        rw [Sem.run_bind, run_load]
        rw [show o + (i + 0) = o + i from rfl] at h0
        rw [h0]
        simp only [Result.andThen_ok]
        rw [addr_add, show o + i + 1 = o + (i + 1) by omega]
        refine ih.trans ?_
        simp [ByteArray.push]
      · cases h1
    · cases hb
theorem loadT_eq (t : Extern.Atomic.T) (a : Value) : Extern.Atomic.loadT t #[a] = (asAddr a >>= fun a => Extern.Atomic.read t a) := rfl
theorem storeT_eq (a v : Value) : Extern.Atomic.storeT #[a, v] = (asAddr a >>= fun a => store a v .atomic >>= fun _ => Pure.pure Extern.Atomic.none_) := rfl
theorem updateT_eq (op : IntKind → Int → Int → Sem Value) (k : IntKind) (b : Bool) (a y : Value) : Extern.Atomic.update op k b #[a, y] = (asAddr a >>= fun a => Extern.Atomic.read (.int k) a >>= fun old => asInt old >>= fun x => asInt y >>= fun y => op k x y >>= fun new => store a new .atomic >>= fun _ => Pure.pure (if b then new else old)) := rfl
theorem indexB_eq (a c : Value) : Extern.BytealgIndexByte.indexByte #[a, c] = (Extern.Bytes.bytesOf a >>= fun b => Extern.Bytes.asByte c >>= fun c => match (List.range b.size).find? fun i => b[i]! == c with | some i => Pure.pure (goInt i) | none => Pure.pure (goInt (-1))) := rfl
theorem cas_run {p v : Value} {a : Addr} {kx ky : IntKind} {x y : Int} (h1 : (asAddr p).run P w = .ok a w) (h2 : (Extern.Atomic.touchesFrozen a).run P w = .ok false w) (h3 : (Extern.Atomic.read (.int .i32) a).run P w = .ok (.int kx x) w) :
    (Extern.Atomic.casT (.int .i32) #[p, .int ky y, v]).run P w = (if (x == y) = true then (store a v .atomic >>= fun _ => Pure.pure (.bool (x == y)) : Sem Value) else Pure.pure (.bool (x == y))).run P w := by
  refine (?_ : Sem.run P (asAddr p >>= _) w = _)
  rw [Sem.run_bind, h1]
  simp only [Result.andThen_ok]
  rw [Sem.run_bind, h2]
  simp only [Result.andThen_ok, Bool.false_eq_true, if_false]
  rw [Sem.run_bind, h3]
  simp only [Result.andThen_ok]
  change Sem.run P ((Pure.pure (x == y) : Sem Bool) >>= fun eq => if eq = true then (store a v .atomic >>= fun _ => Pure.pure (Value.bool eq)) else Pure.pure (Value.bool eq)) w = _
  rw [Sem.run_bind, Sem.run_pure]
  rfl
theorem VRs.one1 {x : Value} {l : Array Value} (hv : VRs σ [x] l.toList) : ∃ x', l = #[x'] ∧ VR σ x x' := by
  obtain ⟨l⟩ := l
  have hv : VRs σ [x] l := hv
  cases hv with | cons h1 t => cases t; exact ⟨_, rfl, h1⟩
theorem VRs.two1 {x y : Value} {l : Array Value} (hv : VRs σ [x, y] l.toList) : ∃ x' y', l = #[x', y'] ∧ VR σ x x' ∧ VR σ y y' := by
  obtain ⟨l⟩ := l
  have hv : VRs σ [x, y] l := hv
  cases hv with | cons h1 t => cases t with | cons h2 t => cases t; exact ⟨_, _, rfl, h1, h2⟩
theorem VRs.three1 {x y z : Value} {l : Array Value} (hv : VRs σ [x, y, z] l.toList) : ∃ x' y' z', l = #[x', y', z'] ∧ VR σ x x' ∧ VR σ y y' ∧ VR σ z z' := by
  obtain ⟨l⟩ := l
  have hv : VRs σ [x, y, z] l := hv
  cases hv with | cons h1 t => cases t with | cons h2 t => cases t with | cons h3 t => cases t; exact ⟨_, _, _, rfl, h1, h2, h3⟩
theorem VR.int' {k : IntKind} {n : Int} {v : Value} (h : VR σ (.int k n) v) : v = .int k n := by cases h; rfl

theorem atLoad_sim (st : St σ w0 h w) {args : List Value} {args' : Array Value} (ha : VRs σ args args'.toList) : Sim P w0 σ h w (atLoad args) (rowOf .load args') VR := by
  unfold atLoad
  intro K s r x
  dsimp only at x
  split at x
  · rename_i p
    obtain ⟨p', rfl, hp⟩ := ha.one1
    split at x
    · rename_i n o hq
      obtain ⟨e, he, rfl⟩ := hp.addr hq
      obtain ⟨v, s1, h1, e1, v', w1, σ1, run, le, st1, hv⟩ := Sim.load (P := P) st he .atomic _ _ _ x
      split at e1
      · obtain rfl := hv.int'
        refine ⟨_, s1, h1, e1, .int .u32 _, w1, σ1, ?_, le, st1, .int _ _⟩
        unfold rowOf; dsimp only; refine (congrArg (fun S : Sem Value => S.run P w) (loadT_eq ..)).trans ?_; unfold asAddr Extern.Atomic.read
        simp only [Sem.run_bind, Sem.run_pure, Result.andThen_ok, run, if_true]
      · cases e1
    · cases x
  · cases x
theorem atStore_sim (st : St σ w0 h w) {args : List Value} {args' : Array Value} (ha : VRs σ args args'.toList) : Sim P w0 σ h w (atStore args) (rowOf .store args') VR := by
  unfold atStore
  intro K s r x
  dsimp only at x
  split at x
  · rename_i p v
    obtain ⟨p', v', rfl, hp, hv⟩ := ha.two1
    split at x
    · rename_i n o hq
      obtain ⟨e, he, rfl⟩ := hp.addr hq
      obtain ⟨_, s1, h1, e1, _, w1, σ1, run, le, st1, _⟩ := atom_put (P := P) st he hv _ _ _ x
      refine ⟨_, s1, h1, e1, .tuple #[], w1, σ1, ?_, le, st1, .of_tuple .nil⟩
      unfold rowOf; dsimp only; refine (congrArg (fun S : Sem Value => S.run P w) (storeT_eq ..)).trans ?_; unfold asAddr
      simp only [Sem.run_bind, Sem.run_pure, Result.andThen_ok, run]
      rfl
    · cases x
  · cases x
theorem atAdd_sim (st : St σ w0 h w) {args : List Value} {args' : Array Value} (ha : VRs σ args args'.toList) : Sim P w0 σ h w (atAdd args) (rowOf .add args') VR := by
  unfold atAdd
  intro K s r x
  dsimp only at x
  split at x
  · rename_i p ky y
    obtain ⟨p', y', rfl, hp, hy⟩ := ha.two1
    obtain rfl := hy.int'
    split at x
    · rename_i n o hq
      obtain ⟨e, he, rfl⟩ := hp.addr hq
      obtain ⟨u, s1, h1, e1, u', w1, σ1, run, le, st1, hu⟩ := Sim.load (P := P) st he .atomic _ _ _ x
      split at e1
      · rename_i xx
        obtain rfl := hu.int'
        obtain ⟨_, s2, h2, e2, _, w2, σ2, run2, le2, st2, _⟩ := atom_put (P := P) st1 (le _ _ he) (.int .i32 (IntKind.i32.wrap (xx + y))) _ _ _ e1
        refine ⟨_, s2, h2, e2, .int .i32 (IntKind.i32.wrap (xx + y)), w2, σ2, ?_, le.trans le2, st2, .int _ _⟩
        unfold rowOf; dsimp only; refine (congrArg (fun S : Sem Value => S.run P w) (updateT_eq ..)).trans ?_; unfold asAddr Extern.Atomic.read Op.intArith asInt asIntOf
        simp only [Sem.run_bind, Sem.run_pure, Result.andThen_ok, run, if_true, run2]
      · cases e1
    · cases x
  · cases x
theorem atCas_sim (st : St σ w0 h w) {args : List Value} {args' : Array Value} (ha : VRs σ args args'.toList) : Sim P w0 σ h w (atCas args) (rowOf .cas args') VR := by
  unfold atCas
  intro K s r x
  dsimp only at x
  split at x
  · rename_i p ky y v
    obtain ⟨p', y', v', rfl, hp, hy, hv⟩ := ha.three1
    obtain rfl := hy.int'
    split at x
    · rename_i n o hq
      obtain ⟨e, he, rfl⟩ := hp.addr hq
      rw [AM.run_get] at x
      split at x
      · rename_i ob hob
        split at x
        · rename_i c t f
          cases hg : (ro (.cells c t f) || Nat.ble c.size o) with
          | true => rw [hg] at x; cases x
          | false =>
            rw [hg] at x
            simp only [cond_false] at x
            rw [Bool.or_eq_false_iff] at hg
            have hro : roF f = false := hg.1
            have hlt : o < c.size := by
              have := hg.2
              rw [← Bool.not_eq_true, Nat.ble_eq] at this; omega
            obtain ⟨_, cs, t', fr, b1, _, _, b4, b5, _⟩ := st.row hob he
            have hfz : w.frozen? ⟨e.blk, e.shift + o, none⟩ = false := by
              rw [frozen_of w _ _ b1]
              have := b4 hro o (by omega)
              simp only [Bool.and_eq_false_iff, decide_eq_false_iff_not]; omega
            have htf : (Extern.Atomic.touchesFrozen ⟨e.blk, e.shift + o, none⟩).run P w = .ok false w := by
              unfold Extern.Atomic.touchesFrozen viewAt
              simp only [Sem.run_bind, run_shape, Result.andThen_ok]
              have : (w.shape? e.blk).isSome = true := by unfold World.shape?; rw [b1]; rfl
              simp only [this, if_true, Sem.run_pure, Result.andThen_ok, run_frozen, hfz]
            obtain ⟨u, s1, h1, e1, u', w1, σ1, run, le, st1, hu⟩ := Sim.load (P := P) st he .atomic _ _ _ x
            split at e1
            · rename_i xx
              obtain rfl := hu.int'
              have hw1 : w1 = w := by
                rw [run_load] at run
                split at run
                · cases run; rfl
                · split at run <;> cases run <;> rfl
              subst hw1
              have key := cas_run (P := P) (w := w1) (p := .pointer (some ⟨e.blk, e.shift + o, none⟩)) (v := v') (ky := ky) (y := y) (kx := .i32) (x := xx) rfl htf (by unfold Extern.Atomic.read; simp only [Sem.run_bind, run, Result.andThen_ok, if_true, Sem.run_pure])
              cases hxy : (xx == y) with
              | true =>
                rw [hxy] at e1
                simp only [cond_true] at e1
                obtain ⟨_, s2, h2, e2, _, w2, σ2, run2, le2, st2, _⟩ := atom_put (P := P) st1 (le _ _ he) (hv.mono le) _ _ _ e1
                refine ⟨_, s2, h2, e2, .bool true, w2, σ2, key.trans ?_, le.trans le2, st2, .bool _⟩
                rw [hxy]
                simp only [if_true, Sem.run_bind, run2, Result.andThen_ok, Sem.run_pure]
              | false =>
                rw [hxy] at e1
                simp only [cond_false] at e1
                refine ⟨_, s1, h1, e1, .bool false, w1, σ1, key.trans ?_, le, st1, .bool _⟩
                rw [hxy]
                simp only [Bool.false_eq_true, if_false, Sem.run_pure]
            · cases e1
        · cases x
      · cases x
    · cases x
  · cases x
theorem atIdx_sim (st : St σ w0 h w) {args : List Value} {args' : Array Value} (ha : VRs σ args args'.toList) : Sim P w0 σ h w (atIdx args) (rowOf .idx args') VR := by
  unfold atIdx
  intro K s r x
  dsimp only at x
  split at x
  · rename_i ln cp c
    obtain ⟨p', y', rfl, hp, hy⟩ := ha.two1
    obtain rfl := hy.int'
    cases hp
    exact ⟨_, s, h, x, .int .i64 (-1), w, σ, rfl, .refl _, st, .int _ _⟩
  · rename_i n o q len cp c
    obtain ⟨p', y', rfl, hp, hy⟩ := ha.two1
    obtain rfl := hy.int'
    cases hz : Nat.beq len 0 with
    | true => rw [hz] at x; cases x
    | false =>
      rw [hz] at x
      simp only [cond_false] at x
      cases hp with
      | slice0 => cases hz
      | slice _ _ _ _ en cap' he hc hq =>
        unfold acells at x
        rw [AM.run_get] at x
        split at x
        · rename_i ob hob
          split at x
          · rename_i cc t f
            obtain ⟨_, cs, t', fr, b1, _, b3, _⟩ := st.row hob he
            dsimp only at x
            cases hl : Nat.beq ((cc.toList.drop o).take len).length len with
            | false => rw [hl] at x; cases x
            | true =>
              rw [hl] at x
              simp only [cond_true] at x
              have hl := Nat.eq_of_beq_eq_true hl
              split at x
              · rename_i bs hbs
                refine ⟨_, s, h, x, idxOf ⟨⟨bs⟩⟩ c.toNat.toUInt8, w, σ, ?_, .refl _, st, ?_⟩
                · have hcell : ∀ (j : Nat) v, ((cc.toList.drop o).take len)[j]? = some v → byteOf? v ≠ none → w.cell? ⟨en.blk, (en.shift + o) + (0 + j), none⟩ = some v := by
                    intro j v hj hv
                    rw [List.getElem?_take] at hj
                    split at hj
                    · rw [List.getElem?_drop] at hj
                      obtain ⟨v', h1, h2⟩ := b3 (o + j) v (by simpa using hj)
                      have : v' = v := by
                        unfold byteOf? at hv
                        split at hv
                        · exact h2.int'
                        · exact absurd rfl hv
                      rw [cell_of w _ _ b1, ← this, ← h1]; congr 1; omega
                    · cases hj
                  have hall : ∀ {l : List Value} {bs : List UInt8}, bytesL l = some bs → ∀ v ∈ l, byteOf? v ≠ none := by
                    intro l
                    induction l with
                    | nil => intro bs _ v hv; cases hv
                    | cons y l ih =>
                      intro bs hb v hv
                      simp only [bytesL] at hb
                      split at hb
                      · rename_i b bs' h1 h2
                        rcases List.mem_cons.1 hv with rfl | hv
                        · rw [h1]; simp
                        · exact ih h2 v hv
                      · cases hb
                  have hld := run_loadBytes (P := P) en.blk (en.shift + o) w _ bs .empty 0 hbs (fun j v hj => hcell j v hj (hall hbs v (List.mem_of_getElem? hj)))
                  rw [hl] at hld
                  unfold rowOf; dsimp only; refine (congrArg (fun S : Sem Value => S.run P w) (indexB_eq ..)).trans ?_; unfold Extern.Bytes.bytesOf Extern.Bytes.asByte
                  simp only [Sem.run_bind, Sem.run_pure, Result.andThen_ok]
                  rw [show en.shift + o + 0 = en.shift + o from rfl] at hld
                  rw [hld]
                  simp only [Result.andThen_ok]
                  have hbe : (⟨ByteArray.empty.data ++ bs.toArray⟩ : ByteArray) = ⟨⟨bs⟩⟩ := by simp [ByteArray.empty, ByteArray.emptyWithCapacity]; rfl
                  rw [hbe]
                  unfold idxOf
                  split <;> rfl
                · unfold idxOf; split <;> exact .int _ _
              · cases x
          · cases x
        · cases x
  · cases x
theorem atQuiet_sim (st : St σ w0 h w) {m : Mark} : Sim P w0 σ h w (fun K s => K (.tuple #[]) s) (do mark m; pure Extern.Race.none_ : Sem Value) VR := by
  intro k s r x
  refine ⟨_, _, h, x, Extern.Race.none_, w, σ, rfl, .refl _, st, ?_⟩
  exact .tuple #[] #[] rfl (fun i x x' hx => by simp at hx)
theorem atMark_sim (st : St σ w0 h w) {m : Addr → Mark} {args : List Value} {args' : Array Value} (ha : VRs σ args args'.toList) : Sim P w0 σ h w (atMark args) (Extern.Race.marked m args') VR := by
  intro k s r x
  unfold atMark at x
  split at x
  · rename_i p l
    split at x
    · rename_i no hp
      obtain ⟨n, o⟩ := no
      obtain ⟨p', h1, h2⟩ := ha.get 0 p rfl
      obtain ⟨e, -, rfl⟩ := h2.addr hp
      refine ⟨_, _, h, x, Extern.Race.none_, w, σ, ?_, .refl _, st, .tuple #[] #[] rfl (fun i x x' hx => by simp at hx)⟩
      have h0 : args'[0]? = some (.pointer (some ⟨e.blk, e.shift + o, none⟩)) := by simpa using h1
      unfold Extern.Race.marked Extern.Race.at_
      rw [h0]
      rfl
    · cases x
  · cases x
theorem Sim.atom (st : St σ w0 h w) {k : AtomK} {args : List Value} {args' : Array Value} (ha : VRs σ args args'.toList) : Sim P w0 σ h w (aatom k args) (rowOf k args') VR := by
  cases k with
  | load => exact atLoad_sim st ha
  | store => exact atStore_sim st ha
  | cas => exact atCas_sim st ha
  | add => exact atAdd_sim st ha
  | idx => exact atIdx_sim st ha
  | dis => exact atQuiet_sim st
  | ena => exact atQuiet_sim st
  | acq => exact atMark_sim st ha
  | rel => exact atMark_sim st ha
  | relm => exact atMark_sim st ha
end
end Go.Ev
