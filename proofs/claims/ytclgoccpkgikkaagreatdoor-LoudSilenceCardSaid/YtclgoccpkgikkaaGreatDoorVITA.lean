/- Calls and rounds: a dead block may be any other. -/
import Derived.Test.YtclgoccpkgikkaaGreatDoorVIT
set_option linter.unusedVariables false
set_option linter.unusedSimpArgs false
namespace Go.VI
set_option linter.unusedSectionVars false
variable [Globs] [Rounds]
section
variable {clo : Nat → Bool} {call : Callee} {i v : Nat} {b : Nat × Blk}
theorem resOne_ext {env : Env} {h : Heap} {r : XRes} {a : AV} (hx : resOne env h r = some a) (hd : h[i]? = some (v, .dead)) : resOne env (h.set i b) r = some a := by
 cases r with
 | tmp t => exact hx
 | cell t sh =>
  simp only [resOne] at hx ⊢
  obtain ⟨cs, h1, h2⟩ := Option.bind_eq_some_iff.mp hx
  exact Option.bind_eq_some_iff.mpr ⟨cs, pcells_ext h1 hd, h2⟩
theorem resAll_ext {env : Env} {h : Heap} : ∀ {rs : List XRes} {as : List AV}, resAll env h rs = some as → h[i]? = some (v, .dead) → resAll env (h.set i b) rs = some as
 | [], as, hx, _ => hx
 | r :: rs, as, hx, hd => by
  simp only [resAll] at hx ⊢
  obtain ⟨a, h1, hx⟩ := Option.bind_eq_some_iff.mp hx
  obtain ⟨as', h2, rfl⟩ := Option.map_eq_some_iff.mp hx
  exact Option.bind_eq_some_iff.mpr ⟨a, resOne_ext h1 hd, Option.map_eq_some_iff.mpr ⟨as', resAll_ext h2 hd, rfl⟩⟩
theorem resVal_ext {env : Env} {h : Heap} {rs : List XRes} {a : AV} (hx : resVal env h rs = some a) (hd : h[i]? = some (v, .dead)) : resVal env (h.set i b) rs = some a := by
 unfold resVal at hx ⊢
 split at hx
 ·exact resOne_ext hx hd
 ·obtain ⟨as, h1, rfl⟩ := Option.map_eq_some_iff.mp hx
  exact Option.map_eq_some_iff.mpr ⟨as, resAll_ext h1 hd, rfl⟩
theorem give_ext {base : Nat} {a a' : AV} {h h' : Heap} (hx : give base a h = some (a', h')) (hd : h[i]? = some (v, .dead)) (hi : i < base) : h'[i]? = some (v, .dead) ∧ give base a (h.set i b) = some (a', h'.set i b) := by
 unfold give at hx ⊢
 split at hx
 ·simp only [Option.some.injEq, Prod.mk.injEq] at hx ⊢
  obtain ⟨rfl, rfl⟩ := hx
  exact ⟨hd, rfl, rfl⟩
 ·split at hx
  ·rename_i hc
   rw [if_pos hc]
   obtain ⟨es, h1, he⟩ := Option.map_eq_some_iff.mp hx
   simp only [Prod.mk.injEq] at he
   obtain ⟨rfl, rfl⟩ := he
   refine ⟨set_dead (by omega) hd, Option.map_eq_some_iff.mpr ⟨es, asList0_ext h1 hd, ?_⟩⟩
   rw [List.set_comm _ _ (by omega)]
  ·rename_i hc
   rw [if_neg hc]
   exact frz_ext _ _ _ _ hx hd hi
 ·exact frz_ext _ _ _ _ hx hd hi
theorem giveL_ext {base : Nat} (hi : i < base) : ∀ {as as' : List AV} {h h' : Heap}, giveL base as h = some (as', h') → h[i]? = some (v, .dead) → h'[i]? = some (v, .dead) ∧ giveL base as (h.set i b) = some (as', h'.set i b)
 | [], as', h, h', hx, hd => by
  simp only [giveL, Option.some.injEq, Prod.mk.injEq] at hx ⊢
  obtain ⟨rfl, rfl⟩ := hx
  exact ⟨hd, rfl, rfl⟩
 | a :: as, as', h, h', hx, hd => by
  simp only [giveL] at hx ⊢
  obtain ⟨⟨a1, h1⟩, h2, hx⟩ := Option.bind_eq_some_iff.mp hx
  obtain ⟨⟨as1, h3⟩, h4, he⟩ := Option.map_eq_some_iff.mp hx
  simp only [Prod.mk.injEq] at he
  obtain ⟨rfl, rfl⟩ := he
  obtain ⟨k1, k2⟩ := give_ext (b := b) h2 hd hi
  obtain ⟨k3, k4⟩ := giveL_ext hi h4 k1
  exact ⟨k3, Option.bind_eq_some_iff.mpr ⟨_, k2, Option.map_eq_some_iff.mpr ⟨_, k4, rfl⟩⟩⟩
theorem giveRes_ext {base : Nat} {a r : AV} {h : Heap} (hx : giveRes base a h = some r) (hd : h[i]? = some (v, .dead)) (hi : i < base) : giveRes base a (h.set i b) = some r := by
 unfold giveRes at hx ⊢
 split at hx
 ·obtain ⟨⟨as, h1⟩, h2, rfl⟩ := Option.map_eq_some_iff.mp hx
  exact Option.map_eq_some_iff.mpr ⟨_, (giveL_ext hi h2 hd).2, rfl⟩
 ·obtain ⟨⟨as, h1⟩, h2, rfl⟩ := Option.map_eq_some_iff.mp hx
  exact Option.map_eq_some_iff.mpr ⟨_, (give_ext h2 hd hi).2, rfl⟩
theorem enter_ext {n : Nat} (hc : CallExt clo call) {x : XFn} {args : List AV} {h : Heap} {lo : Nat} {r : AV} {h' : Heap} (he : enter x (fun cx => exec call cx n) args h lo = some (r, h')) (hd : h[i]? = some (v, .dead)) (hi : i < lo ∨ x.isOpen = false) :
  h'[i]? = some (v, .dead) ∧ enter x (fun cx => exec call cx n) args (h.set i b) lo = some (r, h'.set i b) := by
 have hlt : i < h.length := (List.getElem?_eq_some_iff.mp hd).1
 unfold enter at he ⊢
 simp only [List.length_set] at he ⊢
 split at he
 ·rename_i hal
  rw [if_pos hal]
  obtain ⟨⟨e, env', h1⟩, hx, he⟩ := Option.bind_eq_some_iff.mp he
  have hset : h.set i b ++ List.replicate x.ns (0, Blk.dead) = (h ++ List.replicate x.ns (0, Blk.dead)).set i b := by rw [List.set_append_left _ _ hlt]
  rw [hset]
  have hd0 : (h ++ List.replicate x.ns (0, Blk.dead))[i]? = some (v, .dead) := by rw [List.getElem?_append_left hlt]; exact hd
  have hcx : i < (if x.isOpen = true then lo else h.length) := by
   split
   ·rename_i ho; rcases hi with h | h
    ·exact h
    ·rw [h] at ho; cases ho
   ·exact hlt
  have hle : (if x.isOpen = true then lo else h.length) ≤ h.length := by
   split
   ·rename_i ho; exact hal.2 ho
   ·exact Nat.le_refl _
  obtain ⟨k1, k2⟩ := exec_ext (b := b) hc (cx := ⟨if x.isOpen = true then lo else h.length, h.length, x.ns, none⟩) hle (fun _ _ h => by cases h) n x.code hx hd0 hcx
  rw [k2]
  simp only [Option.bind_some]
  have fin : ∀ (hr : ((resVal env' h1 x.res).bind fun v => (giveRes h.length v h1).map fun r => (r, if x.isOpen then h1.take h.length else h)) = some (r, h')),
    h'[i]? = some (v, .dead) ∧ ((resVal env' (h1.set i b) x.res).bind fun v => (giveRes h.length v (h1.set i b)).map fun r => (r, if x.isOpen then (h1.set i b).take h.length else h.set i b)) = some (r, h'.set i b) := by
   intro hr
   obtain ⟨a, g1, g2⟩ := Option.bind_eq_some_iff.mp hr
   obtain ⟨r', g3, g4⟩ := Option.map_eq_some_iff.mp g2
   simp only [Prod.mk.injEq] at g4
   obtain ⟨rfl, rfl⟩ := g4
   refine ⟨?_, Option.bind_eq_some_iff.mpr ⟨a, resVal_ext g1 k1, Option.map_eq_some_iff.mpr ⟨_, giveRes_ext g3 k1 hlt, ?_⟩⟩⟩
   ·split
    ·rw [take_get hlt]; exact k1
    ·exact hd
   ·split
    ·rw [List.take_set]
    ·rfl
  cases e with
  | exit id => cases he
  | norm => exact fin he
  | ret => exact fin he
 ·cases he
theorem round_ext {n : Nat} (hc : CallExt clo call) {x : XRnd} {d : Rcd} {id ver : Nat} {args : List AV} {h : Heap} {e : Ex} {h' : Heap} (hr : round x (fun cx => exec call cx n) d id ver args h = some (e, h')) (hd : h[i]? = some (v, .dead)) (hi : i < d.lo) (hlo : d.lo ≤ d.base) (hid : d.lo ≤ id) :
  h'[i]? = some (v, .dead) ∧ round x (fun cx => exec call cx n) d id ver args (h.set i b) = some (e, h'.set i b) := by
 unfold round at hr ⊢
 split at hr
 ·rename_i hal
  rw [if_pos hal]
  dsimp only
  obtain ⟨⟨e1, env1, h1⟩, g1, g2⟩ := Option.bind_eq_some_iff.mp hr
  clear hr
  obtain ⟨k1, k2⟩ := exec_ext (b := b) hc (cx := { lo := d.lo, base := d.base, ns := d.ns, rnd := some (id, ver) }) hlo (fun id' ver' h => by cases h; omega) n x.asg g1 hd hi
  rw [k2]
  simp only [Option.bind_some]
  dsimp only at g2
  split at g2
  ·rename_i he
   rw [if_pos he, List.getElem?_set_ne (by omega)]
   split at g2
   ·rename_i v1 d1 hid1
    rw [hid1]
    dsimp only
    split at g2
    ·rename_i hv
     rw [if_pos hv]
     obtain ⟨⟨e2, env2, h3⟩, g3, g4⟩ := Option.bind_eq_some_iff.mp g2
     clear g2
     obtain ⟨k3, k4⟩ := exec_ext (b := b) hc (cx := { lo := d.lo, base := d.base, ns := d.ns, rnd := some (id, ver) }) hlo (fun id' ver' h => by cases h; omega) n x.body g3 (set_dead (by omega) k1) hi
     rw [List.set_comm _ _ (by omega), k4]
     simp only [Option.bind_some]
     dsimp only at g4
     rw [List.getElem?_set_ne (by omega)]
     split at g4
     ·rename_i v2 d2 hid2
      rw [hid2]
      dsimp only
      split at g4
      ·rename_i hv2
       rw [if_pos hv2]
       simp only [Option.some.injEq, Prod.mk.injEq] at g4 ⊢
       obtain ⟨rfl, rfl⟩ := g4
       exact ⟨set_dead (by omega) k3, rfl, List.set_comm _ _ (by omega)⟩
      ·cases g4
     ·cases g4
    ·cases g2
   ·cases g2
  ·cases g2
 ·cases hr
end
mutual
theorem view_ext {i v : Nat} {b : Nat × Blk} {h : Heap} : ∀ (x y : AV), view h x = some y → h[i]? = some (v, Blk.dead) → view (h.set i b) x = some y
 | .agg cs, y, hv, hd => by
  simp only [view, Option.map_eq_some_iff] at hv ⊢
  obtain ⟨cs', h1, rfl⟩ := hv
  exact ⟨cs', viewL_ext cs cs' h1 hd, rfl⟩
 | .fn f cs, y, hv, hd => by
  simp only [view, Option.map_eq_some_iff] at hv ⊢
  obtain ⟨cs', h1, rfl⟩ := hv
  exact ⟨cs', viewL_ext cs cs' h1 hd, rfl⟩
 | .ref id ver z off len fill, y, hv, hd => by
  simp only [view, Option.map_eq_some_iff] at hv ⊢
  obtain ⟨es, h1, rfl⟩ := hv
  exact ⟨es, asList0_ext h1 hd, rfl⟩
 | .own .., y, hv, hd | .tuple .., y, hv, hd | .bptr .., y, hv, hd | .iptr .., y, hv, hd | .yld .., y, hv, hd | .undef, y, hv, hd | .ifc .., y, hv, hd => by simp [view] at hv
 | .bool _, y, hv, hd | .int _ _, y, hv, hd | .str _, y, hv, hd | .nilFn, y, hv, hd | .nilIf, y, hv, hd | .nilSl, y, hv, hd | .lst _ _, y, hv, hd | .lsf _ _, y, hv, hd | .nilPtr, y, hv, hd | .cptr _, y, hv, hd => by simpa [view] using hv
theorem viewL_ext {i v : Nat} {b : Nat × Blk} {h : Heap} : ∀ (xs ys : List AV), viewL h xs = some ys → h[i]? = some (v, Blk.dead) → viewL (h.set i b) xs = some ys
 | [], ys, hv, hd => by simpa [viewL] using hv
 | x :: xs, ys, hv, hd => by
  simp only [viewL, Option.bind_eq_some_iff, Option.map_eq_some_iff] at hv ⊢
  obtain ⟨y, h1, ys', h2, rfl⟩ := hv
  exact ⟨y, view_ext x y h1 hd, ys', viewL_ext xs ys' h2 hd, rfl⟩
end
theorem enterB_ext {clo : Nat → Bool} {call : Callee} (hc : CallExt clo call) {n : Nat} {x : XFn} {w : Bool} {args : List AV} {h : Heap} {lo : Nat} {r : AV} {h' : Heap} {i v : Nat} {b : Nat × Blk} (he : enterB x (fun cx => exec call cx n) w args h lo = some (r, h')) (hd : h[i]? = some (v, .dead))
  (hi : i < lo ∨ x.isOpen = false) : h'[i]? = some (v, .dead) ∧ enterB x (fun cx => exec call cx n) w args (h.set i b) lo = some (r, h'.set i b) := by
 unfold enterB at he ⊢
 split at he
 ·rename_i hw
  obtain ⟨vs, h1, h2⟩ := Option.bind_eq_some_iff.mp he
  obtain ⟨q, h3, h4⟩ := Option.bind_eq_some_iff.mp h2
  split at h4
  ·rename_i hf
   simp only [Option.some.injEq, Prod.mk.injEq] at h4
   obtain ⟨rfl, rfl⟩ := h4
   refine ⟨hd, ?_⟩
   rw [if_pos hw]
   refine Option.bind_eq_some_iff.mpr ⟨vs, viewL_ext _ _ h1 hd, Option.bind_eq_some_iff.mpr ⟨q, h3, ?_⟩⟩
   rw [if_pos hf]
  ·cases h4
 ·rename_i hw
  rw [if_neg hw]
  exact enter_ext hc he hd hi
theorem ex_ext {clo : Nat → Bool} {L : Lib} (hf : ∀ f x, L.fns f = some x → clo f = true → x.isOpen = false) (ho : ∀ f args h r, L.orc f args h = some r → ∀ i v b, h[i]? = some (v, Blk.dead) → L.orc f args (h.set i b) = some r) (hn : ∀ f args h, L.orc f args h = none → ∀ i v b, h[i]? = some (v, Blk.dead) → (L.fns f).isSome = true → L.orc f args (h.set i b) = none) : ∀ n, CallExt clo (ex L n)
 | 0 => ⟨fun {f args h lo r h'} hx => by simp [ex] at hx, fun {d id ver args h e h'} hx => by simp [ex] at hx⟩
 | n + 1 => by
  have ih := ex_ext hf ho hn n
  refine ⟨fun {f args h lo r h'} hx {i v b} hd hi => ?_, fun {d id ver args h e h'} hx {i v b} hd hi hlo hid => ?_⟩
  ·simp only [ex] at hx ⊢
   split at hx
   ·rename_i q hq
    simp only [Option.some.injEq, Prod.mk.injEq] at hx
    obtain ⟨rfl, rfl⟩ := hx
    rw [ho f args h q hq i v b hd]
    exact ⟨hd, rfl⟩
   ·rename_i hq
    obtain ⟨x, hx1, hx2⟩ := Option.bind_eq_some_iff.mp hx
    obtain ⟨k1, k2⟩ := enterB_ext (b := b) ih hx2 hd (hi.imp (fun h => h) (hf f x hx1))
    rw [hn f args h hq i v b hd (by rw [hx1]; rfl)]
    exact ⟨k1, Option.bind_eq_some_iff.mpr ⟨x, hx1, k2⟩⟩
  ·simp only [ex] at hx ⊢
   obtain ⟨x, hx1, hx2⟩ := Option.bind_eq_some_iff.mp hx
   obtain ⟨k1, k2⟩ := round_ext (b := b) ih hx2 hd hi hlo hid
   exact ⟨k1, Option.bind_eq_some_iff.mpr ⟨x, hx1, k2⟩⟩
end Go.VI
