/- Contracts: the loading with the fewest carts. -/
import Derived.Test.YtlbdomhfcghjdaaS15
import Derived.Test.YtlbdomhfcghjdaaAbs29
namespace GA
open Go Go.RowKit Go.Proofs
set_option pp.deepTerms true
set_option maxRecDepth 8000
set_option linter.unusedVariables false
set_option linter.unusedSimpArgs false

abbrev allD (d : Dk) : Nat := 2 ^ d.l.sacks.length - 1
/-- The better one of two carts. -/
def pickB (d : Dk) (many n left : Nat) (p : Nat × List (Int × Nat)) (c : Nat) : Nat × List (Int × Nat) :=
  (if (ofM d 512 (diff left c) p.2).1 + n + 1 = many ∧ (p.1 = 0 ∨ c &&& lowb (c ^^^ p.1) ≠ 0) then c else p.1, (ofM d 512 (diff left c) p.2).2)
def bestB (d : Dk) (many n left : Nat) (m : List (Int × Nat)) : Nat × List (Int × Nat) := (cartsL d left).foldl (pickB d many n left) (0, m)
def fillB (n : Nat) (out : List Nat) (is : List Int) : List Nat := is.foldl (fun o i => o.set i.toNat n) out
structure LS where
  left : Nat
  m : List (Int × Nat)
  out : List Nat
def loadStep (d : Dk) (many : Nat) (s : LS) (n : Nat) : LS := ⟨diff s.left (bestB d many n s.left s.m).1, (bestB d many n s.left s.m).2, fillB n s.out (bits (bestB d many n s.left s.m).1)⟩
def load0 (d : Dk) : LS := ⟨allD d, (ofM d 512 (allD d) [(0, 0)]).2, List.replicate d.l.sacks.length 0⟩
def loadI (d : Dk) (many n : Nat) : LS := (List.range n).foldl (loadStep d many) (load0 d)
def manyD (d : Dk) : Nat := (ofM d 512 (allD d) [(0, 0)]).1
def fewestD (d : Dk) : AV := if 9 < manyD d then .tup [.sl true [], .int .i64 0, .int .i64 6] else .tup [.sl false (nats (loadI d (manyD d) (manyD d)).out), natA (manyD d), .int .i64 0]
def fewestR (l : Ld) : AV := if checkR l = 0 then fewestD (openD l) else .tup [.sl true [], .int .i64 0, .int .i64 (checkR l)]

theorem MOk.zero : MOk [(0, 0)] := ⟨rfl, fun k v h => by simp only [look] at h; split at h <;> cases h; omega⟩
theorem closeF_len (l : Ld) : ∀ (n : Nat) (b : List Nat), (closeF l n b).length = b.length
  | 0, _ => rfl
  | n + 1, b => by
    show (if joinR l b = b then b else closeF l n (joinR l b)).length = _
    split
    · rfl
    · rw [closeF_len l n, joinR_len]
theorem closeF_small (l : Ld) : ∀ (n : Nat) (b : List Nat), (∀ i, b.getD i 0 < 512) → ∀ i, (closeF l n b).getD i 0 < 512
  | 0, _, h => h
  | n + 1, b, h => by
    show ∀ i, (if joinR l b = b then b else closeF l n (joinR l b)).getD i 0 < 512
    split
    · exact h
    · exact closeF_small l n _ (joinR_small l b h)
theorem openD_full {l : Ld} (o : LdOk l) : DkFull (openD l) where
  hv := hvF_len _ _
  nd := by show (closeF l 5000 _).length = 9; rw [closeF_len, ndI_len]
  small := closeF_small l _ _ (ndI_small _)
  big := fun i => by have := hvF_le o (2 ^ l.sacks.length) i; show (hvF _ _).getD i 0 < _; omega
  al := by show l.apart.length ≤ 1000; have := o.na; omega
  ap := fun p hp => by have := o.ap p hp; have := o.n; omega

theorem pick_ok (d : Dk) (many n left : Nat) : ∀ (cs : List Nat) (p : Nat × List (Int × Nat)), MOk p.2 → (∀ c ∈ cs, Sub c left) → Sub p.1 left → MOk (cs.foldl (pickB d many n left) p).2 ∧ Sub (cs.foldl (pickB d many n left) p).1 left
  | [], p, h1, _, h2 => ⟨h1, h2⟩
  | c :: cs, p, h1, h2, h3 => by
    rw [List.foldl_cons]
    refine pick_ok d many n left cs _ ?_ (fun c hc => h2 c (List.mem_cons_of_mem _ hc)) ?_
    · exact (ofM_ok d 512 (diff left c) p.2 h1).2
    · simp only [pickB]; split
      · exact h2 c List.mem_cons_self
      · exact h3
theorem Sub.zero (a : Nat) : Sub 0 a := fun i h => by rw [Nat.zero_testBit] at h; cases h
theorem best_ok (d : Dk) (many n left : Nat) (m : List (Int × Nat)) (h : MOk m) : MOk (bestB d many n left m).2 ∧ Sub (bestB d many n left m).1 left :=
  pick_ok d many n left _ _ h (fun c hc => (carts_sub d hc).1) (Sub.zero _)
theorem fillB_len (n : Nat) : ∀ (is : List Int) (out : List Nat), (fillB n out is).length = out.length
  | [], _ => rfl
  | i :: is, out => by rw [fillB, List.foldl_cons]; exact (fillB_len n is _).trans (by simp)
structure LSOk (d : Dk) (s : LS) : Prop where
  left : s.left ≤ allD d
  m : MOk s.m
  out : s.out.length = d.l.sacks.length
theorem loadStep_ok (d : Dk) (many : Nat) (s : LS) (n : Nat) (h : LSOk d s) : LSOk d (loadStep d many s n) :=
  ⟨Nat.le_trans (diff_le _ _) h.left, (best_ok d many n s.left s.m h.m).1, by simp only [loadStep, fillB_len]; exact h.out⟩
theorem load0_ok (d : Dk) : LSOk d (load0 d) := ⟨Nat.le_refl _, (ofM_ok d 512 _ _ MOk.zero).2, by simp [load0]⟩
theorem loadI_succ (d : Dk) (many n : Nat) : loadI d many (n + 1) = loadStep d many (loadI d many n) n := by
  unfold loadI; rw [List.range_succ, List.foldl_append]; rfl
theorem loadI_ok (d : Dk) (many : Nat) : ∀ n, LSOk d (loadI d many n)
  | 0 => load0_ok d
  | n + 1 => by rw [loadI_succ]; exact loadStep_ok d many _ n (loadI_ok d many n)

theorem fewest_c (l : Ld) (hw : l.nla = true → l.apart = []) (h1 : l.sacks.length ≤ 100000) (h2 : l.apart.length ≤ 1000) (h3 : l.wth.length ≤ 1000) : Comp Try.prog 18 [ldA l] (fewestR l) := by
  refine Comp.body' (T := tab) (res := [.tmp 2, .tmp 3, .tmp 4]) tab_ok [] Try.func18 rfl (by kernel_rfl) Try.ntmps18 rfl (by simp only [List.length_cons, List.length_nil]; decide) (by simp only [lowL, AV.low, ldL]; rfl) ?_; conv => whnf
  refine XCall.ret (opened_c l hw h1 h2 h3) ?_
  unfold openR fewestR
  by_cases hc : checkR l = 0
  · rw [if_pos hc, if_pos hc]
    have ok := (checkR_ok l).1 hc
    have dok := openD_full ok
    have hn : (openD l).l = l := rfl
    have hall : allD (openD l) < 512 := by have := pow9 ok.n; show 2 ^ l.sacks.length - 1 < 512; omega
    conv => whnf
    repeat' first
        | ((with_reducible apply XBr.tt); conv => whnf)
        | ((with_reducible apply XBr.ff); conv => whnf)
        | (with_reducible apply XBr.not)
        | ((with_reducible apply XBr.dec) <;> (intro h; first | (exfalso; omega) | ((try simp only [List.length_map] at h); first | (exfalso; omega) | (conv => whnf))))
        | ((with_reducible apply XBr.beq) <;> (intro h; first | (exfalso; omega) | (conv => whnf)))
        | ((with_reducible apply XBr.bne) <;> (intro h; first | (exfalso; omega) | (conv => whnf)))
        | ((with_reducible refine XInt.i64 (by omega) (by omega) ?_); conv => whnf)
        | ((with_reducible refine XHold.mk ?_ ?_); (first | omega | rfl | decide | exact ⟨rfl, by decide, rfl⟩ | exact wideI _ | exact widePr _ | exact wideSk _ | (unfold Room; constructor <;> ((try simp) <;> omega)) | exact ⟨rfl, by simp only [List.length_map], by unfold Room; constructor <;> ((try simp) <;> omega)⟩ | exact ⟨by omega, by omega, by unfold Room; constructor <;> ((try simp) <;> omega)⟩); conv => whnf)
        | ((with_reducible refine XIx.nat ?_ ?_ ?_); omega; (intro _; rfl); conv => whnf)
        | ((with_reducible refine XIx.map ?_ ?_ ?_ ?_); omega; omega; (intro _; rfl); conv => whnf)
        | (with_reducible apply XAnd.mk)
        | ((with_reducible apply Chk.go); conv => whnf)
        | ((with_reducible apply ChkA.go); conv => whnf)
        | ((with_reducible apply ChkF.go); conv => whnf)
        | ((with_reducible apply ChkB.go); conv => whnf)
        | (exact XSame.mk rfl rfl)
        | (exact XSame.mk (by first | rfl | (simp only [List.map_append, List.length_append, List.length_map]; done) | (simp only [List.map_append, List.length_append, List.length_map]; rfl)) (by first | rfl | (simp only [List.map_append]; done) | (simp only [List.map_append]; rfl)))
        | (with_reducible exact trivial)
        | ((with_reducible refine xdrop_app (by rw [List.length_map]; omega) ?_); conv => whnf)
        | ((with_reducible refine XArr.ints (by omega) (by omega) (by omega) ?_); conv => whnf)
        | ((with_reducible refine XArr.intsA (by omega) (by omega) (by omega) ?_); conv => whnf)
        | ((with_reducible refine XArr.nats ?_ ?_ ?_); omega; omega; conv => whnf)
        | ((with_reducible refine XArr.natsA ?_ ?_ ?_); omega; omega; conv => whnf)
        | ((with_reducible apply XArr.pim0); conv => whnf)
        | ((with_reducible apply XArr.pim1); conv => whnf)
        | ((with_reducible refine XArr.ptr ?_ ?_ ?_); omega; omega; conv => whnf)
        | ((with_reducible apply XBr.mk') <;> (intro h; conv => whnf))
    refine XCall.inl (T := tab) (res := [.cell 2 133]) tab_ok [] Try.func78 rfl (by kernel_rfl) Try.ntmps78 rfl (by simp only [List.length_append, List.length_cons, List.length_nil]; decide) ?_; conv => whnf
    repeat' first
        | ((with_reducible apply XBr.tt); conv => whnf)
        | ((with_reducible apply XBr.ff); conv => whnf)
        | (with_reducible apply XBr.not)
        | ((with_reducible apply XBr.dec) <;> (intro h; first | (exfalso; omega) | ((try simp only [List.length_map] at h); first | (exfalso; omega) | (conv => whnf))))
        | ((with_reducible apply XBr.beq) <;> (intro h; first | (exfalso; omega) | (conv => whnf)))
        | ((with_reducible apply XBr.bne) <;> (intro h; first | (exfalso; omega) | (conv => whnf)))
        | ((with_reducible refine XInt.i64 (by omega) (by omega) ?_); conv => whnf)
        | ((with_reducible refine XHold.mk ?_ ?_); (first | omega | rfl | decide | exact ⟨rfl, by decide, rfl⟩ | exact wideI _ | exact widePr _ | exact wideSk _ | (unfold Room; constructor <;> ((try simp) <;> omega)) | exact ⟨rfl, by simp only [List.length_map], by unfold Room; constructor <;> ((try simp) <;> omega)⟩ | exact ⟨by omega, by omega, by unfold Room; constructor <;> ((try simp) <;> omega)⟩); conv => whnf)
        | ((with_reducible refine XIx.nat ?_ ?_ ?_); omega; (intro _; rfl); conv => whnf)
        | ((with_reducible refine XIx.map ?_ ?_ ?_ ?_); omega; omega; (intro _; rfl); conv => whnf)
        | (with_reducible apply XAnd.mk)
        | ((with_reducible apply Chk.go); conv => whnf)
        | ((with_reducible apply ChkA.go); conv => whnf)
        | ((with_reducible apply ChkF.go); conv => whnf)
        | ((with_reducible apply ChkB.go); conv => whnf)
        | (exact XSame.mk rfl rfl)
        | (exact XSame.mk (by first | rfl | (simp only [List.map_append, List.length_append, List.length_map]; done) | (simp only [List.map_append, List.length_append, List.length_map]; rfl)) (by first | rfl | (simp only [List.map_append]; done) | (simp only [List.map_append]; rfl)))
        | (with_reducible exact trivial)
        | ((with_reducible refine xdrop_app (by rw [List.length_map]; omega) ?_); conv => whnf)
        | ((with_reducible refine XArr.ints (by omega) (by omega) (by omega) ?_); conv => whnf)
        | ((with_reducible refine XArr.intsA (by omega) (by omega) (by omega) ?_); conv => whnf)
        | ((with_reducible refine XArr.nats ?_ ?_ ?_); omega; omega; conv => whnf)
        | ((with_reducible refine XArr.natsA ?_ ?_ ?_); omega; omega; conv => whnf)
        | ((with_reducible apply XArr.pim0); conv => whnf)
        | ((with_reducible apply XArr.pim1); conv => whnf)
        | ((with_reducible refine XArr.ptr ?_ ?_ ?_); omega; omega; conv => whnf)
        | ((with_reducible apply XBr.mk') <;> (intro h; conv => whnf))
    have hof := of_c _ dok 512 (allD (openD l)) [(0, 0)] hall hall MOk.zero
    have hle := (ofM_ok (openD l) 512 (allD (openD l)) _ MOk.zero).1
    have h0 := load0_ok (openD l)
    generalize hq : ofM (openD l) 512 (allD (openD l)) [(0, 0)] = q at hle
    apply Walk.drawX tab_ok mixed_ok [] [4, 5, 6] (hsW _ [id, fun H => H.set 1 (.map (esA q.2)), fun H => H ++ [.cells [.int .i64 0]], fun H => (H.set 1 (.map (esA q.2))) ++ [.cells [.int .i64 0]], id, id, id, fun H => (H.set 1 (.map (esA q.2))) ++ [.cells [natA q.1]]])
      [_, _, _, natA (allD (openD l)), natA q.1, _, _] (by kernel_rfl) rfl
    · skip
      repeat' first
          | ((with_reducible apply XBr.tt); conv => whnf)
          | ((with_reducible apply XBr.ff); conv => whnf)
          | (with_reducible apply XBr.not)
          | ((with_reducible apply XBr.dec) <;> (intro h; first | (exfalso; omega) | ((try simp only [List.length_map] at h); first | (exfalso; omega) | (conv => whnf))))
          | ((with_reducible apply XBr.beq) <;> (intro h; first | (exfalso; omega) | (conv => whnf)))
          | ((with_reducible apply XBr.bne) <;> (intro h; first | (exfalso; omega) | (conv => whnf)))
          | ((with_reducible refine XInt.i64 (by omega) (by omega) ?_); conv => whnf)
          | ((with_reducible refine XHold.mk ?_ ?_); (first | omega | rfl | decide | exact ⟨rfl, by decide, rfl⟩ | exact wideI _ | exact widePr _ | exact wideSk _ | (unfold Room; constructor <;> ((try simp) <;> omega)) | exact ⟨rfl, by simp only [List.length_map], by unfold Room; constructor <;> ((try simp) <;> omega)⟩ | exact ⟨by omega, by omega, by unfold Room; constructor <;> ((try simp) <;> omega)⟩); conv => whnf)
          | ((with_reducible refine XIx.nat ?_ ?_ ?_); omega; (intro _; rfl); conv => whnf)
          | ((with_reducible refine XIx.map ?_ ?_ ?_ ?_); omega; omega; (intro _; rfl); conv => whnf)
          | (with_reducible apply XAnd.mk)
          | ((with_reducible apply Chk.go); conv => whnf)
          | ((with_reducible apply ChkA.go); conv => whnf)
          | ((with_reducible apply ChkF.go); conv => whnf)
          | ((with_reducible apply ChkB.go); conv => whnf)
          | (exact XSame.mk rfl rfl)
          | (exact XSame.mk (by first | rfl | (simp only [List.map_append, List.length_append, List.length_map]; done) | (simp only [List.map_append, List.length_append, List.length_map]; rfl)) (by first | rfl | (simp only [List.map_append]; done) | (simp only [List.map_append]; rfl)))
          | (with_reducible exact trivial)
          | ((with_reducible refine xdrop_app (by rw [List.length_map]; omega) ?_); conv => whnf)
          | ((with_reducible refine XArr.ints (by omega) (by omega) (by omega) ?_); conv => whnf)
          | ((with_reducible refine XArr.intsA (by omega) (by omega) (by omega) ?_); conv => whnf)
          | ((with_reducible refine XArr.nats ?_ ?_ ?_); omega; omega; conv => whnf)
          | ((with_reducible refine XArr.natsA ?_ ?_ ?_); omega; omega; conv => whnf)
          | ((with_reducible apply XArr.pim0); conv => whnf)
          | ((with_reducible apply XArr.pim1); conv => whnf)
          | ((with_reducible refine XArr.ptr ?_ ?_ ?_); omega; omega; conv => whnf)
          | ((refine XCall.ret (all_c (openD l) ok.n) ?_); conv => whnf)
          | ((refine XCall.of hof 1 rfl rfl rfl ?_); rw [hq]; conv => whnf)
          | ((with_reducible apply XBr.mk') <;> (intro h; conv => whnf))
    · skip
      repeat' first
          | ((with_reducible apply XBr.tt); conv => whnf)
          | ((with_reducible apply XBr.ff); conv => whnf)
          | (with_reducible apply XBr.not)
          | ((with_reducible apply XBr.dec) <;> (intro h; first | (exfalso; omega) | ((try simp only [List.length_map] at h); first | (exfalso; omega) | (conv => whnf))))
          | ((with_reducible apply XBr.beq) <;> (intro h; first | (exfalso; omega) | (conv => whnf)))
          | ((with_reducible apply XBr.bne) <;> (intro h; first | (exfalso; omega) | (conv => whnf)))
          | ((with_reducible refine XInt.i64 (by omega) (by omega) ?_); conv => whnf)
          | ((with_reducible refine XHold.mk ?_ ?_); (first | omega | rfl | decide | exact ⟨rfl, by decide, rfl⟩ | exact wideI _ | exact widePr _ | exact wideSk _ | (unfold Room; constructor <;> ((try simp) <;> omega)) | exact ⟨rfl, by simp only [List.length_map], by unfold Room; constructor <;> ((try simp) <;> omega)⟩ | exact ⟨by omega, by omega, by unfold Room; constructor <;> ((try simp) <;> omega)⟩); conv => whnf)
          | ((with_reducible refine XIx.nat ?_ ?_ ?_); omega; (intro _; rfl); conv => whnf)
          | ((with_reducible refine XIx.map ?_ ?_ ?_ ?_); omega; omega; (intro _; rfl); conv => whnf)
          | (with_reducible apply XAnd.mk)
          | ((with_reducible apply Chk.go); conv => whnf)
          | ((with_reducible apply ChkA.go); conv => whnf)
          | ((with_reducible apply ChkF.go); conv => whnf)
          | ((with_reducible apply ChkB.go); conv => whnf)
          | (exact XSame.mk rfl rfl)
          | (exact XSame.mk (by first | rfl | (simp only [List.map_append, List.length_append, List.length_map]; done) | (simp only [List.map_append, List.length_append, List.length_map]; rfl)) (by first | rfl | (simp only [List.map_append]; done) | (simp only [List.map_append]; rfl)))
          | (with_reducible exact trivial)
          | ((with_reducible refine xdrop_app (by rw [List.length_map]; omega) ?_); conv => whnf)
          | ((with_reducible refine XArr.ints (by omega) (by omega) (by omega) ?_); conv => whnf)
          | ((with_reducible refine XArr.intsA (by omega) (by omega) (by omega) ?_); conv => whnf)
          | ((with_reducible refine XArr.nats ?_ ?_ ?_); omega; omega; conv => whnf)
          | ((with_reducible refine XArr.natsA ?_ ?_ ?_); omega; omega; conv => whnf)
          | ((with_reducible apply XArr.pim0); conv => whnf)
          | ((with_reducible apply XArr.pim1); conv => whnf)
          | ((with_reducible refine XArr.ptr ?_ ?_ ?_); omega; omega; conv => whnf)
          | ((refine XCall.ret (all_c (openD l) ok.n) ?_); conv => whnf)
          | ((refine XCall.of hof 1 rfl rfl rfl ?_); rw [hq]; conv => whnf)
          | ((with_reducible apply XBr.mk') <;> (intro h; conv => whnf))
    · conv => whnf
      have hfin : fewestD (openD l) = if 9 < q.1 then .tup [.sl true [], .int .i64 0, .int .i64 6] else .tup [.sl false (nats (loadI (openD l) q.1 q.1).out), natA q.1, .int .i64 0] := by
        unfold fewestD manyD; rw [hq]
      have hI0 : loadI (openD l) q.1 0 = ⟨allD (openD l), q.2, List.replicate l.sacks.length 0⟩ := by
        show load0 (openD l) = _; unfold load0; rw [hq, hn]
      have ha : ∀ x, XCall Try.prog 79 [.pim (deskC (openD l))] x = XCall Try.prog 79 [.pim (deskC (openD l))] x := fun _ => rfl
      have hallc := all_c (openD l) ok.n
      clear h0 hq
      generalize hd : openD l = d at *
      clear hd
      have hdn : d.l.sacks.length = l.sacks.length := by rw [hn]
      repeat' first
          | ((with_reducible apply XBr.tt); conv => whnf)
          | ((with_reducible apply XBr.ff); conv => whnf)
          | (with_reducible apply XBr.not)
          | ((with_reducible apply XBr.dec) <;> (intro h; first | (exfalso; omega) | ((try simp only [List.length_map] at h); first | (exfalso; omega) | (conv => whnf))))
          | ((with_reducible apply XBr.beq) <;> (intro h; first | (exfalso; omega) | (conv => whnf)))
          | ((with_reducible apply XBr.bne) <;> (intro h; first | (exfalso; omega) | (conv => whnf)))
          | ((with_reducible refine XInt.i64 (by omega) (by omega) ?_); conv => whnf)
          | ((with_reducible refine XHold.mk ?_ ?_); (first | omega | rfl | decide | exact ⟨rfl, by decide, rfl⟩ | exact wideI _ | exact widePr _ | exact wideSk _ | (unfold Room; constructor <;> ((try simp) <;> omega)) | exact ⟨rfl, by simp only [List.length_map], by unfold Room; constructor <;> ((try simp) <;> omega)⟩ | exact ⟨by omega, by omega, by unfold Room; constructor <;> ((try simp) <;> omega)⟩); conv => whnf)
          | ((with_reducible refine XIx.nat ?_ ?_ ?_); omega; (intro _; rfl); conv => whnf)
          | ((with_reducible refine XIx.map ?_ ?_ ?_ ?_); omega; omega; (intro _; rfl); conv => whnf)
          | (with_reducible apply XAnd.mk)
          | ((with_reducible apply Chk.go); conv => whnf)
          | ((with_reducible apply ChkA.go); conv => whnf)
          | ((with_reducible apply ChkF.go); conv => whnf)
          | ((with_reducible apply ChkB.go); conv => whnf)
          | (exact XSame.mk rfl rfl)
          | (exact XSame.mk (by first | rfl | (simp only [List.map_append, List.length_append, List.length_map]; done) | (simp only [List.map_append, List.length_append, List.length_map]; rfl)) (by first | rfl | (simp only [List.map_append]; done) | (simp only [List.map_append]; rfl)))
          | (with_reducible exact trivial)
          | ((with_reducible refine xdrop_app (by rw [List.length_map]; omega) ?_); conv => whnf)
          | ((with_reducible refine XArr.ints (by omega) (by omega) (by omega) ?_); conv => whnf)
          | ((with_reducible refine XArr.intsA (by omega) (by omega) (by omega) ?_); conv => whnf)
          | ((with_reducible refine XArr.nats ?_ ?_ ?_); omega; omega; conv => whnf)
          | ((with_reducible refine XArr.natsA ?_ ?_ ?_); omega; omega; conv => whnf)
          | ((with_reducible apply XArr.pim0); conv => whnf)
          | ((with_reducible apply XArr.pim1); conv => whnf)
          | ((with_reducible refine XArr.ptr ?_ ?_ ?_); omega; omega; conv => whnf)
          | ((with_reducible apply XBr.mk') <;> (intro h; conv => whnf))
      · rename_i h
        exact ⟨by rw [hfin, if_pos (by omega)]; exact Froz.low rfl⟩
      · rename_i h
        refine XCall.ret hallc ?_
        conv => whnf
        rw [if_neg (by omega)] at hfin
        refine Walk.loopM tab_ok [] (fun n : Nat => n ≤ q.1) (fun n => [(5, .pim (deskC d)), (7, .ptr 4 0), (8, .ptr 5 0), (9, .gr 6 l.sacks.length), (10, .ptr 7 0), (40, natA q.1), (41, natA n)])
          (fun n => [.cells [ofC d 1], .map (esA (loadI d q.1 n).m), .cells [.mp 1], .cells [ofC d 1], .cells [ofC d 1], .cells [natA q.1], .grow 3 false (nats (loadI d q.1 n).out), .cells [natA (loadI d q.1 n).left]])
          (fun n => q.1 - n) 0 8 (by omega) ?_ rfl ⟨rfl, rfl, rfl, by simp only [List.length_map, Int.toNat_natCast]; rfl, rfl, rfl, rfl, trivial⟩ ?_
        · rw [hI0]
          have e1 : (allD d : Nat) = 2 ^ d.l.sacks.length - 1 := rfl
          simp only [nats, List.map_replicate, e1, List.length_map, Int.toNat_natCast]; rfl
        · intro n hnq
          have sok := loadI_ok d q.1 n
          have hnext := loadI_succ d q.1 n
          generalize hs : loadI d q.1 n = s at sok hnext
          obtain ⟨left, m0, out0⟩ := s
          obtain ⟨k1, k2, k3⟩ := sok
          dsimp only at k1 k2 k3
          have hlen9 := ok.n
          conv => whnf
          repeat' first
              | ((with_reducible apply XBr.tt); conv => whnf)
              | ((with_reducible apply XBr.ff); conv => whnf)
              | (with_reducible apply XBr.not)
              | ((with_reducible apply XBr.dec) <;> (intro h; first | (exfalso; omega) | ((try simp only [List.length_map] at h); first | (exfalso; omega) | (conv => whnf))))
              | ((with_reducible apply XBr.beq) <;> (intro h; first | (exfalso; omega) | (conv => whnf)))
              | ((with_reducible apply XBr.bne) <;> (intro h; first | (exfalso; omega) | (conv => whnf)))
              | ((with_reducible refine XInt.i64 (by omega) (by omega) ?_); conv => whnf)
              | ((with_reducible refine XHold.mk ?_ ?_); (first | omega | rfl | decide | exact ⟨rfl, by decide, rfl⟩ | exact wideI _ | exact widePr _ | exact wideSk _ | (unfold Room; constructor <;> ((try simp) <;> omega)) | exact ⟨rfl, by simp only [List.length_map], by unfold Room; constructor <;> ((try simp) <;> omega)⟩ | exact ⟨by omega, by omega, by unfold Room; constructor <;> ((try simp) <;> omega)⟩); conv => whnf)
              | ((with_reducible refine XIx.nat ?_ ?_ ?_); omega; (intro _; rfl); conv => whnf)
              | ((with_reducible refine XIx.map ?_ ?_ ?_ ?_); omega; omega; (intro _; rfl); conv => whnf)
              | (with_reducible apply XAnd.mk)
              | ((with_reducible apply Chk.go); conv => whnf)
              | ((with_reducible apply ChkA.go); conv => whnf)
              | ((with_reducible apply ChkF.go); conv => whnf)
              | ((with_reducible apply ChkB.go); conv => whnf)
              | (exact XSame.mk rfl rfl)
              | (exact XSame.mk (by first | rfl | (simp only [List.map_append, List.length_append, List.length_map]; done) | (simp only [List.map_append, List.length_append, List.length_map]; rfl)) (by first | rfl | (simp only [List.map_append]; done) | (simp only [List.map_append]; rfl)))
              | (with_reducible exact trivial)
              | ((with_reducible refine xdrop_app (by rw [List.length_map]; omega) ?_); conv => whnf)
              | ((with_reducible refine XArr.ints (by omega) (by omega) (by omega) ?_); conv => whnf)
              | ((with_reducible refine XArr.intsA (by omega) (by omega) (by omega) ?_); conv => whnf)
              | ((with_reducible refine XArr.nats ?_ ?_ ?_); omega; omega; conv => whnf)
              | ((with_reducible refine XArr.natsA ?_ ?_ ?_); omega; omega; conv => whnf)
              | ((with_reducible apply XArr.pim0); conv => whnf)
              | ((with_reducible apply XArr.pim1); conv => whnf)
              | ((with_reducible refine XArr.ptr ?_ ?_ ?_); omega; omega; conv => whnf)
              | ((with_reducible apply XBr.mk') <;> (intro h; conv => whnf))
          · refine XCall.ret (carts_c d left) ?_
            conv => whnf
            refine Walk.range (own := []) tab_ok [(5, .pim (deskC d)), (7, .ptr 4 0), (8, .ptr 5 0), (10, .ptr 7 0), (11, .ptr 8 0), (12, .ptr 9 0)] rfl ⟨rfl, rfl, rfl, rfl, rfl, rfl, trivial⟩ ?_
            intro fn
            refine carts1_c d dok left 11 (by omega) _ _ ?_
            refine IterOk.go (S := Nat × List (Int × Nat)) (fun H s => (H.set 1 (.map (esA s.2))).set 9 (.cells [natA s.1])) (pickB d q.1 n left) (fun s cs => Sub s.1 left ∧ MOk s.2 ∧ ∀ c ∈ cs, Sub c left) (0, m0) rfl ?_ ⟨Sub.zero _, k2, fun c hc => (carts_sub d hc).1⟩ ?_
            · rintro ⟨b, m'⟩ c cs ⟨g0, g1, g2⟩
              dsimp only at g0 g1 g2 ⊢
              have gc := g2 c List.mem_cons_self
              have gc2 := gc.le
              have g02 := g0.le
              obtain ⟨qq, hqq⟩ : ∃ x, ofM d 512 (diff left c) m' = x := ⟨_, rfl⟩
              have hdl := diff_le left c
              have hof2 := of_c d dok 512 (diff left c) m' (by omega) (by omega) g1
              obtain ⟨q1, q2⟩ := ofM_ok d 512 (diff left c) m' g1
              rw [hqq] at q1 q2
              refine ⟨XYield.go (own := []) tab_ok rfl rfl (by decide) ?_, ?_⟩
              · intro ρ
                have e1 : iandn .i64 (left : Int) (c : Int) = ((diff left c : Nat) : Int) := iandn_nat (by omega) (by omega)
                have e2 : ixor .i64 (c : Int) (b : Int) = ((c ^^^ b : Nat) : Int) := ixor_nat (by omega) (by omega)
                have hx9 : c ^^^ b < 512 := Nat.xor_lt_two_pow (n := 9) (by omega) (by omega)
                have e3 := low_int hx9
                have hlb := lowb_le (c ^^^ b)
                have e4 : iand .i64 (c : Int) ((lowb (c ^^^ b) : Nat) : Int) = ((c &&& lowb (c ^^^ b) : Nat) : Int) := iand_nat (by omega) (by omega)
                have hand : c &&& lowb (c ^^^ b) ≤ c := Nat.and_le_left
                conv => whnf
                by_cases hA : qq.1 + n + 1 = q.1
                · have eA : ((qq.1 : Int) == (q.1 : Int) - (n : Int) - 1) = true := by rw [beq_iff_eq]; omega
                  by_cases hB : b = 0
                  · have eB : ((b : Int) == 0) = true := by rw [beq_iff_eq]; omega
                    have hp : pickB d q.1 n left (b, m') c = (c, qq.2) := by simp only [pickB, hqq]; rw [if_pos ⟨hA, .inl hB⟩]
                    apply Walk.drawX tab_ok mixed_ok [] [5] (hsV _ [id, fun H => H.set 1 (.map (esA qq.2))])
                      [_, _, _, _, natA (diff left c), natA qq.1, _, _, _, _, .bool true, _, _, .bool true, _, _, _, _, _, _, _, _, _, _] (by kernel_rfl) rfl
                    · skip
                      repeat' first
                          | ((with_reducible apply XBr.tt); conv => whnf)
                          | ((with_reducible apply XBr.ff); conv => whnf)
                          | (with_reducible apply XBr.not)
                          | ((with_reducible apply XBr.dec) <;> (intro h; first | (exfalso; omega) | ((try simp only [List.length_map] at h); first | (exfalso; omega) | (conv => whnf))))
                          | ((with_reducible apply XBr.beq) <;> (intro h; first | (exfalso; omega) | (conv => whnf)))
                          | ((with_reducible apply XBr.bne) <;> (intro h; first | (exfalso; omega) | (conv => whnf)))
                          | ((with_reducible refine XInt.i64 (by omega) (by omega) ?_); conv => whnf)
                          | ((with_reducible refine XHold.mk ?_ ?_); (first | omega | rfl | decide | exact ⟨rfl, by decide, rfl⟩ | exact wideI _ | exact widePr _ | exact wideSk _ | (unfold Room; constructor <;> ((try simp) <;> omega)) | exact ⟨rfl, by simp only [List.length_map], by unfold Room; constructor <;> ((try simp) <;> omega)⟩ | exact ⟨by omega, by omega, by unfold Room; constructor <;> ((try simp) <;> omega)⟩); conv => whnf)
                          | ((with_reducible refine XIx.nat ?_ ?_ ?_); omega; (intro _; rfl); conv => whnf)
                          | ((with_reducible refine XIx.map ?_ ?_ ?_ ?_); omega; omega; (intro _; rfl); conv => whnf)
                          | (with_reducible apply XAnd.mk)
                          | ((with_reducible apply Chk.go); conv => whnf)
                          | ((with_reducible apply ChkA.go); conv => whnf)
                          | ((with_reducible apply ChkF.go); conv => whnf)
                          | ((with_reducible apply ChkB.go); conv => whnf)
                          | (exact XSame.mk rfl rfl)
                          | (exact XSame.mk (by first | rfl | (simp only [List.map_append, List.length_append, List.length_map]; done) | (simp only [List.map_append, List.length_append, List.length_map]; rfl)) (by first | rfl | (simp only [List.map_append]; done) | (simp only [List.map_append]; rfl)))
                          | (with_reducible exact trivial)
                          | ((with_reducible refine xdrop_app (by rw [List.length_map]; omega) ?_); conv => whnf)
                          | ((with_reducible refine XArr.ints (by omega) (by omega) (by omega) ?_); conv => whnf)
                          | ((with_reducible refine XArr.intsA (by omega) (by omega) (by omega) ?_); conv => whnf)
                          | ((with_reducible refine XArr.nats ?_ ?_ ?_); omega; omega; conv => whnf)
                          | ((with_reducible refine XArr.natsA ?_ ?_ ?_); omega; omega; conv => whnf)
                          | ((with_reducible apply XArr.pim0); conv => whnf)
                          | ((with_reducible apply XArr.pim1); conv => whnf)
                          | ((with_reducible refine XArr.ptr ?_ ?_ ?_); omega; omega; conv => whnf)
                          | (exact XSame.mk (congrArg (AV.int .i64) e1) rfl)
                          | ((refine XCall.of hof2 1 rfl rfl rfl ?_); rw [hqq]; conv => whnf)
                          | (exact XSame.mk (congrArg AV.bool eA) rfl)
                          | (exact XSame.mk (congrArg AV.bool eB) rfl)
                          | (exact XSame.mk (congrArg (AV.int .i64) e2) rfl)
                          | (exact XSame.mk (congrArg (AV.int .i64) e3) rfl)
                          | (exact XSame.mk (congrArg (AV.int .i64) e4) rfl)
                          | ((with_reducible apply XBr.mk') <;> (intro h; conv => whnf))
                    · skip
                      repeat' first
                          | ((with_reducible apply XBr.tt); conv => whnf)
                          | ((with_reducible apply XBr.ff); conv => whnf)
                          | (with_reducible apply XBr.not)
                          | ((with_reducible apply XBr.dec) <;> (intro h; first | (exfalso; omega) | ((try simp only [List.length_map] at h); first | (exfalso; omega) | (conv => whnf))))
                          | ((with_reducible apply XBr.beq) <;> (intro h; first | (exfalso; omega) | (conv => whnf)))
                          | ((with_reducible apply XBr.bne) <;> (intro h; first | (exfalso; omega) | (conv => whnf)))
                          | ((with_reducible refine XInt.i64 (by omega) (by omega) ?_); conv => whnf)
                          | ((with_reducible refine XHold.mk ?_ ?_); (first | omega | rfl | decide | exact ⟨rfl, by decide, rfl⟩ | exact wideI _ | exact widePr _ | exact wideSk _ | (unfold Room; constructor <;> ((try simp) <;> omega)) | exact ⟨rfl, by simp only [List.length_map], by unfold Room; constructor <;> ((try simp) <;> omega)⟩ | exact ⟨by omega, by omega, by unfold Room; constructor <;> ((try simp) <;> omega)⟩); conv => whnf)
                          | ((with_reducible refine XIx.nat ?_ ?_ ?_); omega; (intro _; rfl); conv => whnf)
                          | ((with_reducible refine XIx.map ?_ ?_ ?_ ?_); omega; omega; (intro _; rfl); conv => whnf)
                          | (with_reducible apply XAnd.mk)
                          | ((with_reducible apply Chk.go); conv => whnf)
                          | ((with_reducible apply ChkA.go); conv => whnf)
                          | ((with_reducible apply ChkF.go); conv => whnf)
                          | ((with_reducible apply ChkB.go); conv => whnf)
                          | (exact XSame.mk rfl rfl)
                          | (exact XSame.mk (by first | rfl | (simp only [List.map_append, List.length_append, List.length_map]; done) | (simp only [List.map_append, List.length_append, List.length_map]; rfl)) (by first | rfl | (simp only [List.map_append]; done) | (simp only [List.map_append]; rfl)))
                          | (with_reducible exact trivial)
                          | ((with_reducible refine xdrop_app (by rw [List.length_map]; omega) ?_); conv => whnf)
                          | ((with_reducible refine XArr.ints (by omega) (by omega) (by omega) ?_); conv => whnf)
                          | ((with_reducible refine XArr.intsA (by omega) (by omega) (by omega) ?_); conv => whnf)
                          | ((with_reducible refine XArr.nats ?_ ?_ ?_); omega; omega; conv => whnf)
                          | ((with_reducible refine XArr.natsA ?_ ?_ ?_); omega; omega; conv => whnf)
                          | ((with_reducible apply XArr.pim0); conv => whnf)
                          | ((with_reducible apply XArr.pim1); conv => whnf)
                          | ((with_reducible refine XArr.ptr ?_ ?_ ?_); omega; omega; conv => whnf)
                          | (exact XSame.mk (congrArg (AV.int .i64) e1) rfl)
                          | ((refine XCall.of hof2 1 rfl rfl rfl ?_); rw [hqq]; conv => whnf)
                          | (exact XSame.mk (congrArg AV.bool eA) rfl)
                          | (exact XSame.mk (congrArg AV.bool eB) rfl)
                          | (exact XSame.mk (congrArg (AV.int .i64) e2) rfl)
                          | (exact XSame.mk (congrArg (AV.int .i64) e3) rfl)
                          | (exact XSame.mk (congrArg (AV.int .i64) e4) rfl)
                          | ((with_reducible apply XBr.mk') <;> (intro h; conv => whnf))
                    · rw [hp]
                      conv => whnf
                      repeat' first
                          | ((with_reducible apply XBr.tt); conv => whnf)
                          | ((with_reducible apply XBr.ff); conv => whnf)
                          | (with_reducible apply XBr.not)
                          | ((with_reducible apply XBr.dec) <;> (intro h; first | (exfalso; omega) | ((try simp only [List.length_map] at h); first | (exfalso; omega) | (conv => whnf))))
                          | ((with_reducible apply XBr.beq) <;> (intro h; first | (exfalso; omega) | (conv => whnf)))
                          | ((with_reducible apply XBr.bne) <;> (intro h; first | (exfalso; omega) | (conv => whnf)))
                          | ((with_reducible refine XInt.i64 (by omega) (by omega) ?_); conv => whnf)
                          | ((with_reducible refine XHold.mk ?_ ?_); (first | omega | rfl | decide | exact ⟨rfl, by decide, rfl⟩ | exact wideI _ | exact widePr _ | exact wideSk _ | (unfold Room; constructor <;> ((try simp) <;> omega)) | exact ⟨rfl, by simp only [List.length_map], by unfold Room; constructor <;> ((try simp) <;> omega)⟩ | exact ⟨by omega, by omega, by unfold Room; constructor <;> ((try simp) <;> omega)⟩); conv => whnf)
                          | ((with_reducible refine XIx.nat ?_ ?_ ?_); omega; (intro _; rfl); conv => whnf)
                          | ((with_reducible refine XIx.map ?_ ?_ ?_ ?_); omega; omega; (intro _; rfl); conv => whnf)
                          | (with_reducible apply XAnd.mk)
                          | ((with_reducible apply Chk.go); conv => whnf)
                          | ((with_reducible apply ChkA.go); conv => whnf)
                          | ((with_reducible apply ChkF.go); conv => whnf)
                          | ((with_reducible apply ChkB.go); conv => whnf)
                          | (exact XSame.mk rfl rfl)
                          | (exact XSame.mk (by first | rfl | (simp only [List.map_append, List.length_append, List.length_map]; done) | (simp only [List.map_append, List.length_append, List.length_map]; rfl)) (by first | rfl | (simp only [List.map_append]; done) | (simp only [List.map_append]; rfl)))
                          | (with_reducible exact trivial)
                          | ((with_reducible refine xdrop_app (by rw [List.length_map]; omega) ?_); conv => whnf)
                          | ((with_reducible refine XArr.ints (by omega) (by omega) (by omega) ?_); conv => whnf)
                          | ((with_reducible refine XArr.intsA (by omega) (by omega) (by omega) ?_); conv => whnf)
                          | ((with_reducible refine XArr.nats ?_ ?_ ?_); omega; omega; conv => whnf)
                          | ((with_reducible refine XArr.natsA ?_ ?_ ?_); omega; omega; conv => whnf)
                          | ((with_reducible apply XArr.pim0); conv => whnf)
                          | ((with_reducible apply XArr.pim1); conv => whnf)
                          | ((with_reducible refine XArr.ptr ?_ ?_ ?_); omega; omega; conv => whnf)
                          | ((with_reducible apply XBr.mk') <;> (intro h; conv => whnf))
                      exact ⟨rfl, rfl⟩
                  · have eB : ((b : Int) == 0) = false := by rw [beq_eq_false_iff_ne]; omega
                    apply Walk.drawX tab_ok mixed_ok [] [5] (hsV _ [id, fun H => H.set 1 (.map (esA qq.2))])
                      [_, _, _, _, natA (diff left c), natA qq.1, _, _, _, _, .bool true, _, _, .bool false, _, _, natA (c ^^^ b), natA (c ^^^ b), _, natA (lowb (c ^^^ b)), natA (c &&& lowb (c ^^^ b)), _, _, _] (by kernel_rfl) rfl
                    · skip
                      repeat' first
                          | ((with_reducible apply XBr.tt); conv => whnf)
                          | ((with_reducible apply XBr.ff); conv => whnf)
                          | (with_reducible apply XBr.not)
                          | ((with_reducible apply XBr.dec) <;> (intro h; first | (exfalso; omega) | ((try simp only [List.length_map] at h); first | (exfalso; omega) | (conv => whnf))))
                          | ((with_reducible apply XBr.beq) <;> (intro h; first | (exfalso; omega) | (conv => whnf)))
                          | ((with_reducible apply XBr.bne) <;> (intro h; first | (exfalso; omega) | (conv => whnf)))
                          | ((with_reducible refine XInt.i64 (by omega) (by omega) ?_); conv => whnf)
                          | ((with_reducible refine XHold.mk ?_ ?_); (first | omega | rfl | decide | exact ⟨rfl, by decide, rfl⟩ | exact wideI _ | exact widePr _ | exact wideSk _ | (unfold Room; constructor <;> ((try simp) <;> omega)) | exact ⟨rfl, by simp only [List.length_map], by unfold Room; constructor <;> ((try simp) <;> omega)⟩ | exact ⟨by omega, by omega, by unfold Room; constructor <;> ((try simp) <;> omega)⟩); conv => whnf)
                          | ((with_reducible refine XIx.nat ?_ ?_ ?_); omega; (intro _; rfl); conv => whnf)
                          | ((with_reducible refine XIx.map ?_ ?_ ?_ ?_); omega; omega; (intro _; rfl); conv => whnf)
                          | (with_reducible apply XAnd.mk)
                          | ((with_reducible apply Chk.go); conv => whnf)
                          | ((with_reducible apply ChkA.go); conv => whnf)
                          | ((with_reducible apply ChkF.go); conv => whnf)
                          | ((with_reducible apply ChkB.go); conv => whnf)
                          | (exact XSame.mk rfl rfl)
                          | (exact XSame.mk (by first | rfl | (simp only [List.map_append, List.length_append, List.length_map]; done) | (simp only [List.map_append, List.length_append, List.length_map]; rfl)) (by first | rfl | (simp only [List.map_append]; done) | (simp only [List.map_append]; rfl)))
                          | (with_reducible exact trivial)
                          | ((with_reducible refine xdrop_app (by rw [List.length_map]; omega) ?_); conv => whnf)
                          | ((with_reducible refine XArr.ints (by omega) (by omega) (by omega) ?_); conv => whnf)
                          | ((with_reducible refine XArr.intsA (by omega) (by omega) (by omega) ?_); conv => whnf)
                          | ((with_reducible refine XArr.nats ?_ ?_ ?_); omega; omega; conv => whnf)
                          | ((with_reducible refine XArr.natsA ?_ ?_ ?_); omega; omega; conv => whnf)
                          | ((with_reducible apply XArr.pim0); conv => whnf)
                          | ((with_reducible apply XArr.pim1); conv => whnf)
                          | ((with_reducible refine XArr.ptr ?_ ?_ ?_); omega; omega; conv => whnf)
                          | (exact XSame.mk (congrArg (AV.int .i64) e1) rfl)
                          | ((refine XCall.of hof2 1 rfl rfl rfl ?_); rw [hqq]; conv => whnf)
                          | (exact XSame.mk (congrArg AV.bool eA) rfl)
                          | (exact XSame.mk (congrArg AV.bool eB) rfl)
                          | (exact XSame.mk (congrArg (AV.int .i64) e2) rfl)
                          | (exact XSame.mk (congrArg (AV.int .i64) e3) rfl)
                          | (exact XSame.mk (congrArg (AV.int .i64) e4) rfl)
                          | ((with_reducible apply XBr.mk') <;> (intro h; conv => whnf))
                    · skip
                      repeat' first
                          | ((with_reducible apply XBr.tt); conv => whnf)
                          | ((with_reducible apply XBr.ff); conv => whnf)
                          | (with_reducible apply XBr.not)
                          | ((with_reducible apply XBr.dec) <;> (intro h; first | (exfalso; omega) | ((try simp only [List.length_map] at h); first | (exfalso; omega) | (conv => whnf))))
                          | ((with_reducible apply XBr.beq) <;> (intro h; first | (exfalso; omega) | (conv => whnf)))
                          | ((with_reducible apply XBr.bne) <;> (intro h; first | (exfalso; omega) | (conv => whnf)))
                          | ((with_reducible refine XInt.i64 (by omega) (by omega) ?_); conv => whnf)
                          | ((with_reducible refine XHold.mk ?_ ?_); (first | omega | rfl | decide | exact ⟨rfl, by decide, rfl⟩ | exact wideI _ | exact widePr _ | exact wideSk _ | (unfold Room; constructor <;> ((try simp) <;> omega)) | exact ⟨rfl, by simp only [List.length_map], by unfold Room; constructor <;> ((try simp) <;> omega)⟩ | exact ⟨by omega, by omega, by unfold Room; constructor <;> ((try simp) <;> omega)⟩); conv => whnf)
                          | ((with_reducible refine XIx.nat ?_ ?_ ?_); omega; (intro _; rfl); conv => whnf)
                          | ((with_reducible refine XIx.map ?_ ?_ ?_ ?_); omega; omega; (intro _; rfl); conv => whnf)
                          | (with_reducible apply XAnd.mk)
                          | ((with_reducible apply Chk.go); conv => whnf)
                          | ((with_reducible apply ChkA.go); conv => whnf)
                          | ((with_reducible apply ChkF.go); conv => whnf)
                          | ((with_reducible apply ChkB.go); conv => whnf)
                          | (exact XSame.mk rfl rfl)
                          | (exact XSame.mk (by first | rfl | (simp only [List.map_append, List.length_append, List.length_map]; done) | (simp only [List.map_append, List.length_append, List.length_map]; rfl)) (by first | rfl | (simp only [List.map_append]; done) | (simp only [List.map_append]; rfl)))
                          | (with_reducible exact trivial)
                          | ((with_reducible refine xdrop_app (by rw [List.length_map]; omega) ?_); conv => whnf)
                          | ((with_reducible refine XArr.ints (by omega) (by omega) (by omega) ?_); conv => whnf)
                          | ((with_reducible refine XArr.intsA (by omega) (by omega) (by omega) ?_); conv => whnf)
                          | ((with_reducible refine XArr.nats ?_ ?_ ?_); omega; omega; conv => whnf)
                          | ((with_reducible refine XArr.natsA ?_ ?_ ?_); omega; omega; conv => whnf)
                          | ((with_reducible apply XArr.pim0); conv => whnf)
                          | ((with_reducible apply XArr.pim1); conv => whnf)
                          | ((with_reducible refine XArr.ptr ?_ ?_ ?_); omega; omega; conv => whnf)
                          | (exact XSame.mk (congrArg (AV.int .i64) e1) rfl)
                          | ((refine XCall.of hof2 1 rfl rfl rfl ?_); rw [hqq]; conv => whnf)
                          | (exact XSame.mk (congrArg AV.bool eA) rfl)
                          | (exact XSame.mk (congrArg AV.bool eB) rfl)
                          | (exact XSame.mk (congrArg (AV.int .i64) e2) rfl)
                          | (exact XSame.mk (congrArg (AV.int .i64) e3) rfl)
                          | (exact XSame.mk (congrArg (AV.int .i64) e4) rfl)
                          | ((with_reducible apply XBr.mk') <;> (intro h; conv => whnf))
                    · conv => whnf
                      repeat' first
                          | ((with_reducible apply XBr.tt); conv => whnf)
                          | ((with_reducible apply XBr.ff); conv => whnf)
                          | (with_reducible apply XBr.not)
                          | ((with_reducible apply XBr.dec) <;> (intro h; first | (exfalso; omega) | ((try simp only [List.length_map] at h); first | (exfalso; omega) | (conv => whnf))))
                          | ((with_reducible apply XBr.beq) <;> (intro h; first | (exfalso; omega) | (conv => whnf)))
                          | ((with_reducible apply XBr.bne) <;> (intro h; first | (exfalso; omega) | (conv => whnf)))
                          | ((with_reducible refine XInt.i64 (by omega) (by omega) ?_); conv => whnf)
                          | ((with_reducible refine XHold.mk ?_ ?_); (first | omega | rfl | decide | exact ⟨rfl, by decide, rfl⟩ | exact wideI _ | exact widePr _ | exact wideSk _ | (unfold Room; constructor <;> ((try simp) <;> omega)) | exact ⟨rfl, by simp only [List.length_map], by unfold Room; constructor <;> ((try simp) <;> omega)⟩ | exact ⟨by omega, by omega, by unfold Room; constructor <;> ((try simp) <;> omega)⟩); conv => whnf)
                          | ((with_reducible refine XIx.nat ?_ ?_ ?_); omega; (intro _; rfl); conv => whnf)
                          | ((with_reducible refine XIx.map ?_ ?_ ?_ ?_); omega; omega; (intro _; rfl); conv => whnf)
                          | (with_reducible apply XAnd.mk)
                          | ((with_reducible apply Chk.go); conv => whnf)
                          | ((with_reducible apply ChkA.go); conv => whnf)
                          | ((with_reducible apply ChkF.go); conv => whnf)
                          | ((with_reducible apply ChkB.go); conv => whnf)
                          | (exact XSame.mk rfl rfl)
                          | (exact XSame.mk (by first | rfl | (simp only [List.map_append, List.length_append, List.length_map]; done) | (simp only [List.map_append, List.length_append, List.length_map]; rfl)) (by first | rfl | (simp only [List.map_append]; done) | (simp only [List.map_append]; rfl)))
                          | (with_reducible exact trivial)
                          | ((with_reducible refine xdrop_app (by rw [List.length_map]; omega) ?_); conv => whnf)
                          | ((with_reducible refine XArr.ints (by omega) (by omega) (by omega) ?_); conv => whnf)
                          | ((with_reducible refine XArr.intsA (by omega) (by omega) (by omega) ?_); conv => whnf)
                          | ((with_reducible refine XArr.nats ?_ ?_ ?_); omega; omega; conv => whnf)
                          | ((with_reducible refine XArr.natsA ?_ ?_ ?_); omega; omega; conv => whnf)
                          | ((with_reducible apply XArr.pim0); conv => whnf)
                          | ((with_reducible apply XArr.pim1); conv => whnf)
                          | ((with_reducible refine XArr.ptr ?_ ?_ ?_); omega; omega; conv => whnf)
                          | ((with_reducible apply XBr.mk') <;> (intro h; conv => whnf))
                      · have hp : pickB d q.1 n left (b, m') c = (c, qq.2) := by simp only [pickB, hqq]; rw [if_pos ⟨hA, .inr (by omega)⟩]
                        rw [hp]; exact ⟨rfl, rfl⟩
                      · have hp : pickB d q.1 n left (b, m') c = (b, qq.2) := by simp only [pickB, hqq]; rw [if_neg (by omega)]
                        rw [hp]; exact ⟨rfl, rfl⟩
                · have eA : ((qq.1 : Int) == (q.1 : Int) - (n : Int) - 1) = false := by rw [beq_eq_false_iff_ne]; omega
                  have hp : pickB d q.1 n left (b, m') c = (b, qq.2) := by simp only [pickB, hqq]; rw [if_neg (by omega)]
                  apply Walk.drawX tab_ok mixed_ok [] [5] (hsV _ [id, fun H => H.set 1 (.map (esA qq.2))])
                    [_, _, _, _, natA (diff left c), natA qq.1, _, _, _, _, .bool false, _, _, _, _, _, _, _, _, _, _, _, _, _] (by kernel_rfl) rfl
                  · skip
                    repeat' first
                        | ((with_reducible apply XBr.tt); conv => whnf)
                        | ((with_reducible apply XBr.ff); conv => whnf)
                        | (with_reducible apply XBr.not)
                        | ((with_reducible apply XBr.dec) <;> (intro h; first | (exfalso; omega) | ((try simp only [List.length_map] at h); first | (exfalso; omega) | (conv => whnf))))
                        | ((with_reducible apply XBr.beq) <;> (intro h; first | (exfalso; omega) | (conv => whnf)))
                        | ((with_reducible apply XBr.bne) <;> (intro h; first | (exfalso; omega) | (conv => whnf)))
                        | ((with_reducible refine XInt.i64 (by omega) (by omega) ?_); conv => whnf)
                        | ((with_reducible refine XHold.mk ?_ ?_); (first | omega | rfl | decide | exact ⟨rfl, by decide, rfl⟩ | exact wideI _ | exact widePr _ | exact wideSk _ | (unfold Room; constructor <;> ((try simp) <;> omega)) | exact ⟨rfl, by simp only [List.length_map], by unfold Room; constructor <;> ((try simp) <;> omega)⟩ | exact ⟨by omega, by omega, by unfold Room; constructor <;> ((try simp) <;> omega)⟩); conv => whnf)
                        | ((with_reducible refine XIx.nat ?_ ?_ ?_); omega; (intro _; rfl); conv => whnf)
                        | ((with_reducible refine XIx.map ?_ ?_ ?_ ?_); omega; omega; (intro _; rfl); conv => whnf)
                        | (with_reducible apply XAnd.mk)
                        | ((with_reducible apply Chk.go); conv => whnf)
                        | ((with_reducible apply ChkA.go); conv => whnf)
                        | ((with_reducible apply ChkF.go); conv => whnf)
                        | ((with_reducible apply ChkB.go); conv => whnf)
                        | (exact XSame.mk rfl rfl)
                        | (exact XSame.mk (by first | rfl | (simp only [List.map_append, List.length_append, List.length_map]; done) | (simp only [List.map_append, List.length_append, List.length_map]; rfl)) (by first | rfl | (simp only [List.map_append]; done) | (simp only [List.map_append]; rfl)))
                        | (with_reducible exact trivial)
                        | ((with_reducible refine xdrop_app (by rw [List.length_map]; omega) ?_); conv => whnf)
                        | ((with_reducible refine XArr.ints (by omega) (by omega) (by omega) ?_); conv => whnf)
                        | ((with_reducible refine XArr.intsA (by omega) (by omega) (by omega) ?_); conv => whnf)
                        | ((with_reducible refine XArr.nats ?_ ?_ ?_); omega; omega; conv => whnf)
                        | ((with_reducible refine XArr.natsA ?_ ?_ ?_); omega; omega; conv => whnf)
                        | ((with_reducible apply XArr.pim0); conv => whnf)
                        | ((with_reducible apply XArr.pim1); conv => whnf)
                        | ((with_reducible refine XArr.ptr ?_ ?_ ?_); omega; omega; conv => whnf)
                        | (exact XSame.mk (congrArg (AV.int .i64) e1) rfl)
                        | ((refine XCall.of hof2 1 rfl rfl rfl ?_); rw [hqq]; conv => whnf)
                        | (exact XSame.mk (congrArg AV.bool eA) rfl)
                        | (exact XSame.mk (congrArg AV.bool eB) rfl)
                        | (exact XSame.mk (congrArg (AV.int .i64) e2) rfl)
                        | (exact XSame.mk (congrArg (AV.int .i64) e3) rfl)
                        | (exact XSame.mk (congrArg (AV.int .i64) e4) rfl)
                        | ((with_reducible apply XBr.mk') <;> (intro h; conv => whnf))
                  · skip
                    repeat' first
                        | ((with_reducible apply XBr.tt); conv => whnf)
                        | ((with_reducible apply XBr.ff); conv => whnf)
                        | (with_reducible apply XBr.not)
                        | ((with_reducible apply XBr.dec) <;> (intro h; first | (exfalso; omega) | ((try simp only [List.length_map] at h); first | (exfalso; omega) | (conv => whnf))))
                        | ((with_reducible apply XBr.beq) <;> (intro h; first | (exfalso; omega) | (conv => whnf)))
                        | ((with_reducible apply XBr.bne) <;> (intro h; first | (exfalso; omega) | (conv => whnf)))
                        | ((with_reducible refine XInt.i64 (by omega) (by omega) ?_); conv => whnf)
                        | ((with_reducible refine XHold.mk ?_ ?_); (first | omega | rfl | decide | exact ⟨rfl, by decide, rfl⟩ | exact wideI _ | exact widePr _ | exact wideSk _ | (unfold Room; constructor <;> ((try simp) <;> omega)) | exact ⟨rfl, by simp only [List.length_map], by unfold Room; constructor <;> ((try simp) <;> omega)⟩ | exact ⟨by omega, by omega, by unfold Room; constructor <;> ((try simp) <;> omega)⟩); conv => whnf)
                        | ((with_reducible refine XIx.nat ?_ ?_ ?_); omega; (intro _; rfl); conv => whnf)
                        | ((with_reducible refine XIx.map ?_ ?_ ?_ ?_); omega; omega; (intro _; rfl); conv => whnf)
                        | (with_reducible apply XAnd.mk)
                        | ((with_reducible apply Chk.go); conv => whnf)
                        | ((with_reducible apply ChkA.go); conv => whnf)
                        | ((with_reducible apply ChkF.go); conv => whnf)
                        | ((with_reducible apply ChkB.go); conv => whnf)
                        | (exact XSame.mk rfl rfl)
                        | (exact XSame.mk (by first | rfl | (simp only [List.map_append, List.length_append, List.length_map]; done) | (simp only [List.map_append, List.length_append, List.length_map]; rfl)) (by first | rfl | (simp only [List.map_append]; done) | (simp only [List.map_append]; rfl)))
                        | (with_reducible exact trivial)
                        | ((with_reducible refine xdrop_app (by rw [List.length_map]; omega) ?_); conv => whnf)
                        | ((with_reducible refine XArr.ints (by omega) (by omega) (by omega) ?_); conv => whnf)
                        | ((with_reducible refine XArr.intsA (by omega) (by omega) (by omega) ?_); conv => whnf)
                        | ((with_reducible refine XArr.nats ?_ ?_ ?_); omega; omega; conv => whnf)
                        | ((with_reducible refine XArr.natsA ?_ ?_ ?_); omega; omega; conv => whnf)
                        | ((with_reducible apply XArr.pim0); conv => whnf)
                        | ((with_reducible apply XArr.pim1); conv => whnf)
                        | ((with_reducible refine XArr.ptr ?_ ?_ ?_); omega; omega; conv => whnf)
                        | (exact XSame.mk (congrArg (AV.int .i64) e1) rfl)
                        | ((refine XCall.of hof2 1 rfl rfl rfl ?_); rw [hqq]; conv => whnf)
                        | (exact XSame.mk (congrArg AV.bool eA) rfl)
                        | (exact XSame.mk (congrArg AV.bool eB) rfl)
                        | (exact XSame.mk (congrArg (AV.int .i64) e2) rfl)
                        | (exact XSame.mk (congrArg (AV.int .i64) e3) rfl)
                        | (exact XSame.mk (congrArg (AV.int .i64) e4) rfl)
                        | ((with_reducible apply XBr.mk') <;> (intro h; conv => whnf))
                  · rw [hp]
                    conv => whnf
                    repeat' first
                        | ((with_reducible apply XBr.tt); conv => whnf)
                        | ((with_reducible apply XBr.ff); conv => whnf)
                        | (with_reducible apply XBr.not)
                        | ((with_reducible apply XBr.dec) <;> (intro h; first | (exfalso; omega) | ((try simp only [List.length_map] at h); first | (exfalso; omega) | (conv => whnf))))
                        | ((with_reducible apply XBr.beq) <;> (intro h; first | (exfalso; omega) | (conv => whnf)))
                        | ((with_reducible apply XBr.bne) <;> (intro h; first | (exfalso; omega) | (conv => whnf)))
                        | ((with_reducible refine XInt.i64 (by omega) (by omega) ?_); conv => whnf)
                        | ((with_reducible refine XHold.mk ?_ ?_); (first | omega | rfl | decide | exact ⟨rfl, by decide, rfl⟩ | exact wideI _ | exact widePr _ | exact wideSk _ | (unfold Room; constructor <;> ((try simp) <;> omega)) | exact ⟨rfl, by simp only [List.length_map], by unfold Room; constructor <;> ((try simp) <;> omega)⟩ | exact ⟨by omega, by omega, by unfold Room; constructor <;> ((try simp) <;> omega)⟩); conv => whnf)
                        | ((with_reducible refine XIx.nat ?_ ?_ ?_); omega; (intro _; rfl); conv => whnf)
                        | ((with_reducible refine XIx.map ?_ ?_ ?_ ?_); omega; omega; (intro _; rfl); conv => whnf)
                        | (with_reducible apply XAnd.mk)
                        | ((with_reducible apply Chk.go); conv => whnf)
                        | ((with_reducible apply ChkA.go); conv => whnf)
                        | ((with_reducible apply ChkF.go); conv => whnf)
                        | ((with_reducible apply ChkB.go); conv => whnf)
                        | (exact XSame.mk rfl rfl)
                        | (exact XSame.mk (by first | rfl | (simp only [List.map_append, List.length_append, List.length_map]; done) | (simp only [List.map_append, List.length_append, List.length_map]; rfl)) (by first | rfl | (simp only [List.map_append]; done) | (simp only [List.map_append]; rfl)))
                        | (with_reducible exact trivial)
                        | ((with_reducible refine xdrop_app (by rw [List.length_map]; omega) ?_); conv => whnf)
                        | ((with_reducible refine XArr.ints (by omega) (by omega) (by omega) ?_); conv => whnf)
                        | ((with_reducible refine XArr.intsA (by omega) (by omega) (by omega) ?_); conv => whnf)
                        | ((with_reducible refine XArr.nats ?_ ?_ ?_); omega; omega; conv => whnf)
                        | ((with_reducible refine XArr.natsA ?_ ?_ ?_); omega; omega; conv => whnf)
                        | ((with_reducible apply XArr.pim0); conv => whnf)
                        | ((with_reducible apply XArr.pim1); conv => whnf)
                        | ((with_reducible refine XArr.ptr ?_ ?_ ?_); omega; omega; conv => whnf)
                        | ((with_reducible apply XBr.mk') <;> (intro h; conv => whnf))
                    exact ⟨rfl, rfl⟩
              · refine ⟨?_, by simp only [pickB, hqq]; exact q2, fun c hc => g2 c (List.mem_cons_of_mem _ hc)⟩
                simp only [pickB]; split
                · exact gc
                · exact g0
            · have hbest := best_ok d q.1 n left m0 k2
              have hbd : (cartsL d left).foldl (pickB d q.1 n left) (0, m0) = bestB d q.1 n left m0 := rfl
              rw [hbd]
              have hst : loadI d q.1 (n + 1) = ⟨diff left (bestB d q.1 n left m0).1, (bestB d q.1 n left m0).2, fillB n out0 (bits (bestB d q.1 n left m0).1)⟩ := hnext
              generalize bestB d q.1 n left m0 = bb at hbest hst
              obtain ⟨b, m2⟩ := bb
              dsimp only at hbest hst ⊢
              have hb2 := hbest.2.le
              conv => whnf
              repeat' first
                  | ((with_reducible apply XBr.tt); conv => whnf)
                  | ((with_reducible apply XBr.ff); conv => whnf)
                  | (with_reducible apply XBr.not)
                  | ((with_reducible apply XBr.dec) <;> (intro h; first | (exfalso; omega) | ((try simp only [List.length_map] at h); first | (exfalso; omega) | (conv => whnf))))
                  | ((with_reducible apply XBr.beq) <;> (intro h; first | (exfalso; omega) | (conv => whnf)))
                  | ((with_reducible apply XBr.bne) <;> (intro h; first | (exfalso; omega) | (conv => whnf)))
                  | ((with_reducible refine XInt.i64 (by omega) (by omega) ?_); conv => whnf)
                  | ((with_reducible refine XHold.mk ?_ ?_); (first | omega | rfl | decide | exact ⟨rfl, by decide, rfl⟩ | exact wideI _ | exact widePr _ | exact wideSk _ | (unfold Room; constructor <;> ((try simp) <;> omega)) | exact ⟨rfl, by simp only [List.length_map], by unfold Room; constructor <;> ((try simp) <;> omega)⟩ | exact ⟨by omega, by omega, by unfold Room; constructor <;> ((try simp) <;> omega)⟩); conv => whnf)
                  | ((with_reducible refine XIx.nat ?_ ?_ ?_); omega; (intro _; rfl); conv => whnf)
                  | ((with_reducible refine XIx.map ?_ ?_ ?_ ?_); omega; omega; (intro _; rfl); conv => whnf)
                  | (with_reducible apply XAnd.mk)
                  | ((with_reducible apply Chk.go); conv => whnf)
                  | ((with_reducible apply ChkA.go); conv => whnf)
                  | ((with_reducible apply ChkF.go); conv => whnf)
                  | ((with_reducible apply ChkB.go); conv => whnf)
                  | (exact XSame.mk rfl rfl)
                  | (exact XSame.mk (by first | rfl | (simp only [List.map_append, List.length_append, List.length_map]; done) | (simp only [List.map_append, List.length_append, List.length_map]; rfl)) (by first | rfl | (simp only [List.map_append]; done) | (simp only [List.map_append]; rfl)))
                  | (with_reducible exact trivial)
                  | ((with_reducible refine xdrop_app (by rw [List.length_map]; omega) ?_); conv => whnf)
                  | ((with_reducible refine XArr.ints (by omega) (by omega) (by omega) ?_); conv => whnf)
                  | ((with_reducible refine XArr.intsA (by omega) (by omega) (by omega) ?_); conv => whnf)
                  | ((with_reducible refine XArr.nats ?_ ?_ ?_); omega; omega; conv => whnf)
                  | ((with_reducible refine XArr.natsA ?_ ?_ ?_); omega; omega; conv => whnf)
                  | ((with_reducible apply XArr.pim0); conv => whnf)
                  | ((with_reducible apply XArr.pim1); conv => whnf)
                  | ((with_reducible refine XArr.ptr ?_ ?_ ?_); omega; omega; conv => whnf)
                  | ((with_reducible apply XBr.mk') <;> (intro h; conv => whnf))
              refine XCall.ret (list_c b (by omega)) ?_
              conv => whnf
              have hbb : ∀ x ∈ bits b, 0 ≤ x ∧ x < (d.l.sacks.length : Int) := fun x hx => by
                have hp2 : b < 2 ^ d.l.sacks.length := by have := Nat.two_pow_pos d.l.sacks.length; show b < _; unfold allD at k1; omega
                have := bitsF_bound 62 0 b d.l.sacks.length hp2 x hx; omega
              have hbl := bits_len b
              refine Walk.loop tab_ok [] (fun j : Nat => j ≤ (bits b).length) (fun j => [(5, .pim (deskC d)), (7, .ptr 4 0), (8, .ptr 5 0), (9, .gr 6 l.sacks.length), (10, .ptr 7 0), (11, .ptr 8 0), (12, .ptr 9 0), (40, natA q.1), (41, natA n), (77, slA (bits b)), (78, natA (bits b).length), (79, natA j)])
                (fun j => [.cells [ofC d 1], .map (esA m2), .cells [.mp 1], .cells [ofC d 1], .cells [ofC d 1], .cells [natA q.1], .grow 3 false (nats (fillB n out0 ((bits b).take j))), .cells [natA left], .cells [natA n], .cells [natA b], .raw (.deferred (some [])), .dead])
                (fun j => (bits b).length - j) 0 (by omega) rfl ⟨rfl, rfl, rfl, rfl, rfl, rfl, rfl, rfl, rfl, rfl, by simp only [ints, List.length_map]; rfl, rfl, trivial⟩ ?_
              intro j hj
              have hfl := fillB_len n ((bits b).take j) out0
              conv => whnf
              repeat' first
                  | ((with_reducible apply XBr.tt); conv => whnf)
                  | ((with_reducible apply XBr.ff); conv => whnf)
                  | (with_reducible apply XBr.not)
                  | ((with_reducible apply XBr.dec) <;> (intro h; first | (exfalso; omega) | ((try simp only [List.length_map] at h); first | (exfalso; omega) | (conv => whnf))))
                  | ((with_reducible apply XBr.beq) <;> (intro h; first | (exfalso; omega) | (conv => whnf)))
                  | ((with_reducible apply XBr.bne) <;> (intro h; first | (exfalso; omega) | (conv => whnf)))
                  | ((with_reducible refine XInt.i64 (by omega) (by omega) ?_); conv => whnf)
                  | ((with_reducible refine XHold.mk ?_ ?_); (first | omega | rfl | decide | exact ⟨rfl, by decide, rfl⟩ | exact wideI _ | exact widePr _ | exact wideSk _ | (unfold Room; constructor <;> ((try simp) <;> omega)) | exact ⟨rfl, by simp only [List.length_map], by unfold Room; constructor <;> ((try simp) <;> omega)⟩ | exact ⟨by omega, by omega, by unfold Room; constructor <;> ((try simp) <;> omega)⟩); conv => whnf)
                  | ((with_reducible refine XIx.nat ?_ ?_ ?_); omega; (intro _; rfl); conv => whnf)
                  | ((with_reducible refine XIx.map ?_ ?_ ?_ ?_); omega; omega; (intro _; rfl); conv => whnf)
                  | (with_reducible apply XAnd.mk)
                  | ((with_reducible apply Chk.go); conv => whnf)
                  | ((with_reducible apply ChkA.go); conv => whnf)
                  | ((with_reducible apply ChkF.go); conv => whnf)
                  | ((with_reducible apply ChkB.go); conv => whnf)
                  | (exact XSame.mk rfl rfl)
                  | (exact XSame.mk (by first | rfl | (simp only [List.map_append, List.length_append, List.length_map]; done) | (simp only [List.map_append, List.length_append, List.length_map]; rfl)) (by first | rfl | (simp only [List.map_append]; done) | (simp only [List.map_append]; rfl)))
                  | (with_reducible exact trivial)
                  | ((with_reducible refine xdrop_app (by rw [List.length_map]; omega) ?_); conv => whnf)
                  | ((with_reducible refine XArr.ints (by omega) (by omega) (by omega) ?_); conv => whnf)
                  | ((with_reducible refine XArr.intsA (by omega) (by omega) (by omega) ?_); conv => whnf)
                  | ((with_reducible refine XArr.nats ?_ ?_ ?_); omega; omega; conv => whnf)
                  | ((with_reducible refine XArr.natsA ?_ ?_ ?_); omega; omega; conv => whnf)
                  | ((with_reducible apply XArr.pim0); conv => whnf)
                  | ((with_reducible apply XArr.pim1); conv => whnf)
                  | ((with_reducible refine XArr.ptr ?_ ?_ ?_); omega; omega; conv => whnf)
                  | ((with_reducible apply XBr.mk') <;> (intro h; conv => whnf))
              · rename_i hjl
                have hmem := getD_mem (xs := bits b) (i := j) (d := default) (by omega)
                have hv := hbb _ hmem
                refine XHold.mk ⟨by rw [List.length_map, hfl, k3, hdn], rfl, by omega, by omega⟩ ?_
                conv => whnf
                refine XPut.map n rfl (by rw [hfl, k3, hdn]) (by omega) ?_
                conv => whnf
                repeat' first
                    | ((with_reducible apply XBr.tt); conv => whnf)
                    | ((with_reducible apply XBr.ff); conv => whnf)
                    | (with_reducible apply XBr.not)
                    | ((with_reducible apply XBr.dec) <;> (intro h; first | (exfalso; omega) | ((try simp only [List.length_map] at h); first | (exfalso; omega) | (conv => whnf))))
                    | ((with_reducible apply XBr.beq) <;> (intro h; first | (exfalso; omega) | (conv => whnf)))
                    | ((with_reducible apply XBr.bne) <;> (intro h; first | (exfalso; omega) | (conv => whnf)))
                    | ((with_reducible refine XInt.i64 (by omega) (by omega) ?_); conv => whnf)
                    | ((with_reducible refine XHold.mk ?_ ?_); (first | omega | rfl | decide | exact ⟨rfl, by decide, rfl⟩ | exact wideI _ | exact widePr _ | exact wideSk _ | (unfold Room; constructor <;> ((try simp) <;> omega)) | exact ⟨rfl, by simp only [List.length_map], by unfold Room; constructor <;> ((try simp) <;> omega)⟩ | exact ⟨by omega, by omega, by unfold Room; constructor <;> ((try simp) <;> omega)⟩); conv => whnf)
                    | ((with_reducible refine XIx.nat ?_ ?_ ?_); omega; (intro _; rfl); conv => whnf)
                    | ((with_reducible refine XIx.map ?_ ?_ ?_ ?_); omega; omega; (intro _; rfl); conv => whnf)
                    | (with_reducible apply XAnd.mk)
                    | ((with_reducible apply Chk.go); conv => whnf)
                    | ((with_reducible apply ChkA.go); conv => whnf)
                    | ((with_reducible apply ChkF.go); conv => whnf)
                    | ((with_reducible apply ChkB.go); conv => whnf)
                    | (exact XSame.mk rfl rfl)
                    | (exact XSame.mk (by first | rfl | (simp only [List.map_append, List.length_append, List.length_map]; done) | (simp only [List.map_append, List.length_append, List.length_map]; rfl)) (by first | rfl | (simp only [List.map_append]; done) | (simp only [List.map_append]; rfl)))
                    | (with_reducible exact trivial)
                    | ((with_reducible refine xdrop_app (by rw [List.length_map]; omega) ?_); conv => whnf)
                    | ((with_reducible refine XArr.ints (by omega) (by omega) (by omega) ?_); conv => whnf)
                    | ((with_reducible refine XArr.intsA (by omega) (by omega) (by omega) ?_); conv => whnf)
                    | ((with_reducible refine XArr.nats ?_ ?_ ?_); omega; omega; conv => whnf)
                    | ((with_reducible refine XArr.natsA ?_ ?_ ?_); omega; omega; conv => whnf)
                    | ((with_reducible apply XArr.pim0); conv => whnf)
                    | ((with_reducible apply XArr.pim1); conv => whnf)
                    | ((with_reducible refine XArr.ptr ?_ ?_ ?_); omega; omega; conv => whnf)
                    | ((with_reducible apply XBr.mk') <;> (intro h; conv => whnf))
                refine XAgain.go (j + 1) (by omega) (by omega) ?_ ⟨rfl, rfl, rfl, rfl, rfl, rfl, rfl, rfl, rfl, rfl, rfl, rfl, trivial⟩
                rw [take_next (by omega)]
                unfold fillB
                rw [List.foldl_append]; rfl
              · rename_i hjl
                have hje : j = (bits b).length := by omega
                subst hje
                refine XAgainM.go (n + 1) [.cells [natA n], .cells [natA b], .raw (.deferred (some [])), .dead] (by omega) (by omega) ?_ ⟨rfl, rfl, rfl, rfl, rfl, rfl, rfl, trivial⟩ (Nat.le_refl _) ?_ ?_ ?_ ?_
                · rw [hst, List.take_length]
                  have e1 : iandn .i64 (left : Int) (b : Int) = ((diff left b : Nat) : Int) := iandn_nat (by omega) (by omega)
                  simp only [List.cons_append, List.nil_append, natA, e1]
                · intro x hx
                  simp only [List.mem_cons, List.not_mem_nil, or_false] at hx
                  rcases hx with rfl | rfl | rfl | rfl | rfl | rfl | rfl | rfl <;> first | exact low_esA _ | exact lowN _ | rfl | (simp only [Blk.low, ofC, lowL, AV.low, lowDk, List.length_cons, List.length_nil]; rfl)
                · intro p hp
                  simp only [List.mem_cons, List.not_mem_nil, or_false] at hp
                  rcases hp with rfl | rfl | rfl | rfl | rfl | rfl | rfl <;> first | rfl | exact lowDk _
                · simp
                · intro i hi; simp at hi; subst hi; exact ⟨Nat.le_of_ble_eq_true rfl, rfl⟩
          · have hne : n = q.1 := by omega
            subst hne
            rw [hfin, hs]
            apply Walk.drawX tab_ok mixed_ok [] [] (hsK _) [_, _, _, _, _] (by kernel_rfl) rfl
            · skip
              repeat' first
                  | ((with_reducible apply XBr.tt); conv => whnf)
                  | ((with_reducible apply XBr.ff); conv => whnf)
                  | (with_reducible apply XBr.not)
                  | ((with_reducible apply XBr.dec) <;> (intro h; first | (exfalso; omega) | ((try simp only [List.length_map] at h); first | (exfalso; omega) | (conv => whnf))))
                  | ((with_reducible apply XBr.beq) <;> (intro h; first | (exfalso; omega) | (conv => whnf)))
                  | ((with_reducible apply XBr.bne) <;> (intro h; first | (exfalso; omega) | (conv => whnf)))
                  | ((with_reducible refine XInt.i64 (by omega) (by omega) ?_); conv => whnf)
                  | ((with_reducible refine XHold.mk ?_ ?_); (first | omega | rfl | decide | exact ⟨rfl, by decide, rfl⟩ | exact wideI _ | exact widePr _ | exact wideSk _ | (unfold Room; constructor <;> ((try simp) <;> omega)) | exact ⟨rfl, by simp only [List.length_map], by unfold Room; constructor <;> ((try simp) <;> omega)⟩ | exact ⟨by omega, by omega, by unfold Room; constructor <;> ((try simp) <;> omega)⟩); conv => whnf)
                  | ((with_reducible refine XIx.nat ?_ ?_ ?_); omega; (intro _; rfl); conv => whnf)
                  | ((with_reducible refine XIx.map ?_ ?_ ?_ ?_); omega; omega; (intro _; rfl); conv => whnf)
                  | (with_reducible apply XAnd.mk)
                  | ((with_reducible apply Chk.go); conv => whnf)
                  | ((with_reducible apply ChkA.go); conv => whnf)
                  | ((with_reducible apply ChkF.go); conv => whnf)
                  | ((with_reducible apply ChkB.go); conv => whnf)
                  | (exact XSame.mk rfl rfl)
                  | (exact XSame.mk (by first | rfl | (simp only [List.map_append, List.length_append, List.length_map]; done) | (simp only [List.map_append, List.length_append, List.length_map]; rfl)) (by first | rfl | (simp only [List.map_append]; done) | (simp only [List.map_append]; rfl)))
                  | (with_reducible exact trivial)
                  | ((with_reducible refine xdrop_app (by rw [List.length_map]; omega) ?_); conv => whnf)
                  | ((with_reducible refine XArr.ints (by omega) (by omega) (by omega) ?_); conv => whnf)
                  | ((with_reducible refine XArr.intsA (by omega) (by omega) (by omega) ?_); conv => whnf)
                  | ((with_reducible refine XArr.nats ?_ ?_ ?_); omega; omega; conv => whnf)
                  | ((with_reducible refine XArr.natsA ?_ ?_ ?_); omega; omega; conv => whnf)
                  | ((with_reducible apply XArr.pim0); conv => whnf)
                  | ((with_reducible apply XArr.pim1); conv => whnf)
                  | ((with_reducible refine XArr.ptr ?_ ?_ ?_); omega; omega; conv => whnf)
                  | ((with_reducible apply XBr.mk') <;> (intro h; conv => whnf))
            · skip
              repeat' first
                  | ((with_reducible apply XBr.tt); conv => whnf)
                  | ((with_reducible apply XBr.ff); conv => whnf)
                  | (with_reducible apply XBr.not)
                  | ((with_reducible apply XBr.dec) <;> (intro h; first | (exfalso; omega) | ((try simp only [List.length_map] at h); first | (exfalso; omega) | (conv => whnf))))
                  | ((with_reducible apply XBr.beq) <;> (intro h; first | (exfalso; omega) | (conv => whnf)))
                  | ((with_reducible apply XBr.bne) <;> (intro h; first | (exfalso; omega) | (conv => whnf)))
                  | ((with_reducible refine XInt.i64 (by omega) (by omega) ?_); conv => whnf)
                  | ((with_reducible refine XHold.mk ?_ ?_); (first | omega | rfl | decide | exact ⟨rfl, by decide, rfl⟩ | exact wideI _ | exact widePr _ | exact wideSk _ | (unfold Room; constructor <;> ((try simp) <;> omega)) | exact ⟨rfl, by simp only [List.length_map], by unfold Room; constructor <;> ((try simp) <;> omega)⟩ | exact ⟨by omega, by omega, by unfold Room; constructor <;> ((try simp) <;> omega)⟩); conv => whnf)
                  | ((with_reducible refine XIx.nat ?_ ?_ ?_); omega; (intro _; rfl); conv => whnf)
                  | ((with_reducible refine XIx.map ?_ ?_ ?_ ?_); omega; omega; (intro _; rfl); conv => whnf)
                  | (with_reducible apply XAnd.mk)
                  | ((with_reducible apply Chk.go); conv => whnf)
                  | ((with_reducible apply ChkA.go); conv => whnf)
                  | ((with_reducible apply ChkF.go); conv => whnf)
                  | ((with_reducible apply ChkB.go); conv => whnf)
                  | (exact XSame.mk rfl rfl)
                  | (exact XSame.mk (by first | rfl | (simp only [List.map_append, List.length_append, List.length_map]; done) | (simp only [List.map_append, List.length_append, List.length_map]; rfl)) (by first | rfl | (simp only [List.map_append]; done) | (simp only [List.map_append]; rfl)))
                  | (with_reducible exact trivial)
                  | ((with_reducible refine xdrop_app (by rw [List.length_map]; omega) ?_); conv => whnf)
                  | ((with_reducible refine XArr.ints (by omega) (by omega) (by omega) ?_); conv => whnf)
                  | ((with_reducible refine XArr.intsA (by omega) (by omega) (by omega) ?_); conv => whnf)
                  | ((with_reducible refine XArr.nats ?_ ?_ ?_); omega; omega; conv => whnf)
                  | ((with_reducible refine XArr.natsA ?_ ?_ ?_); omega; omega; conv => whnf)
                  | ((with_reducible apply XArr.pim0); conv => whnf)
                  | ((with_reducible apply XArr.pim1); conv => whnf)
                  | ((with_reducible refine XArr.ptr ?_ ?_ ?_); omega; omega; conv => whnf)
                  | ((with_reducible apply XBr.mk') <;> (intro h; conv => whnf))
            · conv => whnf
              repeat' first
                  | ((with_reducible apply XBr.tt); conv => whnf)
                  | ((with_reducible apply XBr.ff); conv => whnf)
                  | (with_reducible apply XBr.not)
                  | ((with_reducible apply XBr.dec) <;> (intro h; first | (exfalso; omega) | ((try simp only [List.length_map] at h); first | (exfalso; omega) | (conv => whnf))))
                  | ((with_reducible apply XBr.beq) <;> (intro h; first | (exfalso; omega) | (conv => whnf)))
                  | ((with_reducible apply XBr.bne) <;> (intro h; first | (exfalso; omega) | (conv => whnf)))
                  | ((with_reducible refine XInt.i64 (by omega) (by omega) ?_); conv => whnf)
                  | ((with_reducible refine XHold.mk ?_ ?_); (first | omega | rfl | decide | exact ⟨rfl, by decide, rfl⟩ | exact wideI _ | exact widePr _ | exact wideSk _ | (unfold Room; constructor <;> ((try simp) <;> omega)) | exact ⟨rfl, by simp only [List.length_map], by unfold Room; constructor <;> ((try simp) <;> omega)⟩ | exact ⟨by omega, by omega, by unfold Room; constructor <;> ((try simp) <;> omega)⟩); conv => whnf)
                  | ((with_reducible refine XIx.nat ?_ ?_ ?_); omega; (intro _; rfl); conv => whnf)
                  | ((with_reducible refine XIx.map ?_ ?_ ?_ ?_); omega; omega; (intro _; rfl); conv => whnf)
                  | (with_reducible apply XAnd.mk)
                  | ((with_reducible apply Chk.go); conv => whnf)
                  | ((with_reducible apply ChkA.go); conv => whnf)
                  | ((with_reducible apply ChkF.go); conv => whnf)
                  | ((with_reducible apply ChkB.go); conv => whnf)
                  | (exact XSame.mk rfl rfl)
                  | (exact XSame.mk (by first | rfl | (simp only [List.map_append, List.length_append, List.length_map]; done) | (simp only [List.map_append, List.length_append, List.length_map]; rfl)) (by first | rfl | (simp only [List.map_append]; done) | (simp only [List.map_append]; rfl)))
                  | (with_reducible exact trivial)
                  | ((with_reducible refine xdrop_app (by rw [List.length_map]; omega) ?_); conv => whnf)
                  | ((with_reducible refine XArr.ints (by omega) (by omega) (by omega) ?_); conv => whnf)
                  | ((with_reducible refine XArr.intsA (by omega) (by omega) (by omega) ?_); conv => whnf)
                  | ((with_reducible refine XArr.nats ?_ ?_ ?_); omega; omega; conv => whnf)
                  | ((with_reducible refine XArr.natsA ?_ ?_ ?_); omega; omega; conv => whnf)
                  | ((with_reducible apply XArr.pim0); conv => whnf)
                  | ((with_reducible apply XArr.pim1); conv => whnf)
                  | ((with_reducible refine XArr.ptr ?_ ?_ ?_); omega; omega; conv => whnf)
                  | ((with_reducible apply XBr.mk') <;> (intro h; conv => whnf))
              exact ⟨Froz.tup (.cons (Froz.grow rfl (by simp only [nats, List.length_map, k3, hdn]) (lowN _)) (.cons (Froz.low rfl) (.cons (Froz.low rfl) .nil)))⟩
  · rw [if_neg hc, if_neg hc]
    conv => whnf
    repeat' first
        | ((with_reducible apply XBr.tt); conv => whnf)
        | ((with_reducible apply XBr.ff); conv => whnf)
        | (with_reducible apply XBr.not)
        | ((with_reducible apply XBr.dec) <;> (intro h; first | (exfalso; omega) | ((try simp only [List.length_map] at h); first | (exfalso; omega) | (conv => whnf))))
        | ((with_reducible apply XBr.beq) <;> (intro h; first | (exfalso; omega) | (conv => whnf)))
        | ((with_reducible apply XBr.bne) <;> (intro h; first | (exfalso; omega) | (conv => whnf)))
        | ((with_reducible refine XInt.i64 (by omega) (by omega) ?_); conv => whnf)
        | ((with_reducible refine XHold.mk ?_ ?_); (first | omega | rfl | decide | exact ⟨rfl, by decide, rfl⟩ | exact wideI _ | exact widePr _ | exact wideSk _ | (unfold Room; constructor <;> ((try simp) <;> omega)) | exact ⟨rfl, by simp only [List.length_map], by unfold Room; constructor <;> ((try simp) <;> omega)⟩ | exact ⟨by omega, by omega, by unfold Room; constructor <;> ((try simp) <;> omega)⟩); conv => whnf)
        | ((with_reducible refine XIx.nat ?_ ?_ ?_); omega; (intro _; rfl); conv => whnf)
        | ((with_reducible refine XIx.map ?_ ?_ ?_ ?_); omega; omega; (intro _; rfl); conv => whnf)
        | (with_reducible apply XAnd.mk)
        | ((with_reducible apply Chk.go); conv => whnf)
        | ((with_reducible apply ChkA.go); conv => whnf)
        | ((with_reducible apply ChkF.go); conv => whnf)
        | ((with_reducible apply ChkB.go); conv => whnf)
        | (exact XSame.mk rfl rfl)
        | (exact XSame.mk (by first | rfl | (simp only [List.map_append, List.length_append, List.length_map]; done) | (simp only [List.map_append, List.length_append, List.length_map]; rfl)) (by first | rfl | (simp only [List.map_append]; done) | (simp only [List.map_append]; rfl)))
        | (with_reducible exact trivial)
        | ((with_reducible refine xdrop_app (by rw [List.length_map]; omega) ?_); conv => whnf)
        | ((with_reducible refine XArr.ints (by omega) (by omega) (by omega) ?_); conv => whnf)
        | ((with_reducible refine XArr.intsA (by omega) (by omega) (by omega) ?_); conv => whnf)
        | ((with_reducible refine XArr.nats ?_ ?_ ?_); omega; omega; conv => whnf)
        | ((with_reducible refine XArr.natsA ?_ ?_ ?_); omega; omega; conv => whnf)
        | ((with_reducible apply XArr.pim0); conv => whnf)
        | ((with_reducible apply XArr.pim1); conv => whnf)
        | ((with_reducible refine XArr.ptr ?_ ?_ ?_); omega; omega; conv => whnf)
        | ((with_reducible apply XBr.mk') <;> (intro h; conv => whnf))
    exact ⟨Froz.low rfl⟩
end GA
