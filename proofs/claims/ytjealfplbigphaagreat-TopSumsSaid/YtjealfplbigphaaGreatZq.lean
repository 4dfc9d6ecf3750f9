/- Worlds of the program and walks of its functions. -/
import Derived.Test.YtjealfplbigphaaGreatZp
import Derived.Test.YtjealfplbigphaaGreatZk
namespace Go.Proofs.YtjealfplbigphaaGreat
noncomputable section
open Go Go.X Go.Arm Go.Mt Go.Nu
theorem zk0 {h : AH} {X : Nat} (hX : X < MM) : Arm.Calls Tryz.prog 26 [.agg ⟨wl (word X)⟩] h (fun r => r.1 = .bool (neg? X) /\ Sm Nix h r.2) := by
 refine Q5 (n := 7) (fn := Tryz.f26) kr rfl rfl (Nat.le_of_ble_eq_true rfl) trivial ⟨.inl (fun e => by cases e), rfl⟩ ?_
 have T0 : Sm Nix h h := .refl
 refine q7 (q6 (Q1 (wl (word X)) .ptr rfl rfl kr fun h13 c13 t13 n13 => ?_))
 have T13 := T0.ext t13
 have N13 := T13.nx
 refine L_g 1 kr (q5 (q7 (q6 (Z8 _ rfl rfl kr kr (ixA0 (b := h.next) (i := 35) kr (by decide)) (z9 _ rfl rfl kr (c13.ld (o := 35) kr (E2 (by decide))) (L_p (uv (word X 35 / 2 ^ 63)) rfl (ev_bin (o := _) rfl kr kr (qj3 (k := .u64) (s := 63) (by decide))) (L_p (.bool (neg? X)) rfl (ev_bin (o := _) rfl kr kr (yk8 (b := 1) (uv0 hX))) (L_g 1 kr (q5 (j7 ?_))))))))))
 refine rr ?_
 refine z0 (v := .bool (neg? X)) (.inl rfl) kr ?_
 exact ⟨rfl, T13⟩
theorem yq6 {h : AH} {X : Nat} (hX : X < MM) : Arm.Calls Tryz.prog 27 [.agg ⟨wl (word X)⟩] h (fun r => r.1 = .agg ⟨wl (word (absN X))⟩ /\ Sm Nix h r.2) := by
 refine Q5 (n := 8) (fn := Tryz.f27) kr rfl rfl (Nat.le_of_ble_eq_true rfl) trivial ⟨.inl (fun e => by cases e), rfl⟩ ?_
 have T0 : Sm Nix h h := .refl
 refine q7 (q6 (Q1 (wl (word X)) .ptr rfl rfl kr fun h14 c14 t14 n14 => ?_))
 have T14 := T0.ext t14
 have N14 := T14.nx
 refine Q1 (wl (fun _ => 0)) .ptr rfl rfl kr fun h15 c15 t15 n15 => ?_
 replace c14 := c14.ext t15
 have T15 := T14.ext t15
 have N15 := T15.nx
 refine q5 (q7 (q7 (q6 (z9 _ rfl rfl kr (Cl.allN (n := 36) c14 (u5 _) kr) (L_c rfl rfl kr (zk0 hX) ?_)))))
 rintro v16 h16 ⟨e16, t16⟩
 try dsimp only at e16 t16
 subst e16
 replace c14 := c14.ext t16
 replace c15 := c15.ext t16
 have T16 := T15.ext t16
 have N16 := T16.nx
 have M16 := t16.nx
 refine q5 ?_
 refine Q0 (neg? X) kr (fun hb => ?_) (fun hb => ?_)
 ·
  have ea := absN_t hb
  refine q7 (q6 (z9 _ rfl rfl kr (Cl.allN (n := 36) c14 (u5 _) kr) (L_c rfl rfl kr (yz2 hX) ?_)))
  rintro v17 h17 ⟨e17, t17⟩
  try dsimp only at e17 t17
  subst e17
  replace c15 := c15.ext t17
  have T17 := T16.ext t17
  have N17 := T17.nx
  have M17 := t17.nx
  obtain ⟨h18, e18, d18, t18, n18⟩ := Cl.storeN (P := Tryz.prog) (T := 79) (n := 36) (v := .agg ⟨(wl (word (negN X)))⟩) (cs := (wl (word (negN X)))) c15 (u5 _) kr rfl (u5 _) K7
  replace c15 := d18
  have T18 := T17.tr t18
  have N18 := T18.nx
  refine Q3 _ rfl rfl rfl kr kr (e18) (q5 (j7 ?_))
  refine rr ?_
  refine z0 (.inl rfl) (E4 kr kr (Cl.allN (n := 36) c15 (u5 _) kr)) ?_
  exact ⟨by rw [ea], T18⟩
 ·
  have ea := uk4 hb
  refine z6 (q7 (q6 (z9 _ rfl rfl kr (Cl.allN (n := 36) c14 (u5 _) kr) ?_)))
  obtain ⟨h19, e19, d19, t19, n19⟩ := Cl.storeN (P := Tryz.prog) (T := 79) (n := 36) (v := .agg ⟨(wl (word X))⟩) (cs := (wl (word X))) c15 (u5 _) kr rfl (u5 _) K7
  replace c15 := d19
  have T19 := T16.tr t19
  have N19 := T19.nx
  refine Q3 _ rfl rfl rfl kr kr (e19) (q5 (j7 ?_))
  refine rr ?_
  refine z0 (.inl rfl) (E4 kr kr (Cl.allN (n := 36) c15 (u5 _) kr)) ?_
  exact ⟨by rw [ea], T19⟩
theorem qz5 {h : AH} {x : Nat} (hx : x < 256) : aConv Tryz.prog 24 5 (uv x) h = some (.int .u8 (x : Int)) := by
 have e : aConv Tryz.prog 24 5 (uv x) h = some (.int .u8 (IntKind.u8.wrap (x : Int))) := by kernel_rfl
 have e2 : IntKind.u8.wrap (x : Int) = x := by
  have : ∀ k : Fin 256, IntKind.u8.wrap (k.val : Int) = (k.val : Int) := by decide +kernel
  exact this ⟨x, hx⟩
 rw [e, e2]
theorem K3 {h : AH} {x : Nat} (hx : x < 256) : aConv Tryz.prog 5 3 (.int .u8 (x : Int)) h = some (nv (x : Int)) := by
 have e : aConv Tryz.prog 5 3 (.int .u8 (x : Int)) h = some (.int .i64 (IntKind.i64.wrap (x : Int))) := by kernel_rfl
 rw [e, wrapI (by omega)]; rfl
theorem uz8 {h : AH} {x : Nat} (hx : x < BB) : Arm.Calls Tryz.prog 48 [uv x] h (fun r => r.1 = nv (bl x : Int) /\ Sm Nix h r.2) := by
 have hx' : x < 18446744073709551616 := hx
 refine Q5 (n := 25) (fn := Tryz.f48) kr rfl rfl (Nat.le_of_ble_eq_true rfl) trivial ⟨.inl (fun e => by cases e), rfl⟩ ?_
 have T0 : Sm Nix h h := .refl
 refine z1 1 kr (q5 (q7 (z1 1 kr (L_p (.bool (decide (4294967296 ≤ x))) rfl (ev_bin (o := _) rfl kr kr (xx6 (b := 4294967296) rfl)) (q5 ?_)))))
 refine Q0 (decide (4294967296 ≤ x)) kr (fun hb => ?_) (fun hb => ?_)
 ·
  have g1 : 4294967296 ≤ x := by simpa using hb
  refine z1 1 kr (L_p (uv (x / 4294967296)) rfl (ev_bin (o := _) rfl kr kr (qj3 (k := .u64) (s := 32) (by decide))) (L_g 1 kr (q5 (Z3 1 kr (q5 (q7 (q7 (q6 ?_))))))))
  refine L_g 1 kr (L_p (.bool (decide (65536 ≤ (x / 4294967296)))) rfl (ev_bin (o := _) rfl kr kr (xx6 (b := 65536) rfl)) (q5 ?_))
  refine Q0 (decide (65536 ≤ (x / 4294967296))) kr (fun hb => ?_) (fun hb => ?_)
  ·
   have g2 : 65536 ≤ (x / 4294967296) := by simpa using hb
   refine z1 1 kr (L_p (uv ((x / 4294967296) / 65536)) rfl (ev_bin (o := _) rfl kr kr (qj3 (k := .u64) (s := 16) (by decide))) (L_g 1 kr (q5 (Z3 3 kr (q5 (q7 (q7 (q6 ?_))))))))
   refine L_g 1 kr (L_p (.bool (decide (256 ≤ ((x / 4294967296) / 65536)))) rfl (ev_bin (o := _) rfl kr kr (xx6 (b := 256) rfl)) (q5 ?_))
   refine Q0 (decide (256 ≤ ((x / 4294967296) / 65536))) kr (fun hb => ?_) (fun hb => ?_)
   ·
    have g3 : 256 ≤ ((x / 4294967296) / 65536) := by simpa using hb
    refine z1 1 kr (L_p (uv (((x / 4294967296) / 65536) / 256)) rfl (ev_bin (o := _) rfl kr kr (qj3 (k := .u64) (s := 8) (by decide))) (L_g 1 kr (q5 (Z3 3 kr (q5 (q7 (q6 (L_g 2 kr ?_))))))))
    refine L_p (.int .u8 (((((x / 4294967296) / 65536) / 256) : Nat) : Int)) rfl (ev_conv (o := _) rfl kr (qz5 (by omega))) (L_p (.int .u8 (bl (((x / 4294967296) / 65536) / 256) : Int)) rfl (qu1 (o := _) rfl (a := .string ⟨⟨tab8⟩⟩) kr kr (qz2 (v := (((x / 4294967296) / 65536) / 256)) kr (by omega))) (L_p (nv (bl (((x / 4294967296) / 65536) / 256) : Int)) rfl (ev_conv (o := _) rfl kr (K3 (Nat.lt_of_le_of_lt (E5 (v := (((x / 4294967296) / 65536) / 256)) (k := 8) (by omega)) (by decide)))) (L_p (nv (((((0 + 32) + 16) + 8) + bl (((x / 4294967296) / 65536) / 256) : Nat) : Int)) rfl (ev_bin (o := _) rfl kr kr (qk3 (a := (((0 + 32) + 16) + 8)) (b := bl (((x / 4294967296) / 65536) / 256)) (by have := E5 (v := (((x / 4294967296) / 65536) / 256)) (k := 8) (by omega); omega))) (L_g 1 kr (q5 (j7 ?_))))))
    refine rr ?_
    refine z0 (v := nv (((((0 + 32) + 16) + 8) + bl (((x / 4294967296) / 65536) / 256) : Nat) : Int)) (.inl rfl) kr ?_
    exact ⟨congrArg (fun q : Nat => nv (q : Int)) (by have q32 := yy7 g1; have q16 := yy8 g2; have q8 := xg1 g3; omega), T0⟩
   ·
    have g3 : ((x / 4294967296) / 65536) < 256 := by simpa using hb
    refine z6 (z1 2 kr (L_p (.int .u8 ((((x / 4294967296) / 65536) : Nat) : Int)) rfl (ev_conv (o := _) rfl kr (qz5 (by omega))) (L_p (.int .u8 (bl ((x / 4294967296) / 65536) : Int)) rfl (qu1 (o := _) rfl (a := .string ⟨⟨tab8⟩⟩) kr kr (qz2 (v := ((x / 4294967296) / 65536)) kr (by omega))) (L_p (nv (bl ((x / 4294967296) / 65536) : Int)) rfl (ev_conv (o := _) rfl kr (K3 (Nat.lt_of_le_of_lt (E5 (v := ((x / 4294967296) / 65536)) (k := 8) (by omega)) (by decide)))) (L_p (nv ((((0 + 32) + 16) + bl ((x / 4294967296) / 65536) : Nat) : Int)) rfl (ev_bin (o := _) rfl kr kr (qk3 (a := ((0 + 32) + 16)) (b := bl ((x / 4294967296) / 65536)) (by have := E5 (v := ((x / 4294967296) / 65536)) (k := 8) (by omega); omega))) (L_g 1 kr (q5 (j7 ?_))))))))
    refine rr ?_
    refine z0 (v := nv ((((0 + 32) + 16) + bl ((x / 4294967296) / 65536) : Nat) : Int)) (.inl rfl) kr ?_
    exact ⟨congrArg (fun q : Nat => nv (q : Int)) (by have q32 := yy7 g1; have q16 := yy8 g2; skip; omega), T0⟩
  ·
   have g2 : (x / 4294967296) < 65536 := by simpa using hb
   refine z6 (q7 (z1 1 kr (L_p (.bool (decide (256 ≤ (x / 4294967296)))) rfl (ev_bin (o := _) rfl kr kr (xx6 (b := 256) rfl)) (q5 ?_))))
   refine Q0 (decide (256 ≤ (x / 4294967296))) kr (fun hb => ?_) (fun hb => ?_)
   ·
    have g3 : 256 ≤ (x / 4294967296) := by simpa using hb
    refine z1 1 kr (L_p (uv ((x / 4294967296) / 256)) rfl (ev_bin (o := _) rfl kr kr (qj3 (k := .u64) (s := 8) (by decide))) (L_g 1 kr (q5 (Z3 3 kr (q5 (q7 (q6 (L_g 2 kr ?_))))))))
    refine L_p (.int .u8 ((((x / 4294967296) / 256) : Nat) : Int)) rfl (ev_conv (o := _) rfl kr (qz5 (by omega))) (L_p (.int .u8 (bl ((x / 4294967296) / 256) : Int)) rfl (qu1 (o := _) rfl (a := .string ⟨⟨tab8⟩⟩) kr kr (qz2 (v := ((x / 4294967296) / 256)) kr (by omega))) (L_p (nv (bl ((x / 4294967296) / 256) : Int)) rfl (ev_conv (o := _) rfl kr (K3 (Nat.lt_of_le_of_lt (E5 (v := ((x / 4294967296) / 256)) (k := 8) (by omega)) (by decide)))) (L_p (nv ((((0 + 32) + 8) + bl ((x / 4294967296) / 256) : Nat) : Int)) rfl (ev_bin (o := _) rfl kr kr (qk3 (a := ((0 + 32) + 8)) (b := bl ((x / 4294967296) / 256)) (by have := E5 (v := ((x / 4294967296) / 256)) (k := 8) (by omega); omega))) (L_g 1 kr (q5 (j7 ?_))))))
    refine rr ?_
    refine z0 (v := nv ((((0 + 32) + 8) + bl ((x / 4294967296) / 256) : Nat) : Int)) (.inl rfl) kr ?_
    exact ⟨congrArg (fun q : Nat => nv (q : Int)) (by have q32 := yy7 g1; skip; have q8 := xg1 g3; omega), T0⟩
   ·
    have g3 : (x / 4294967296) < 256 := by simpa using hb
    refine z6 (z1 2 kr (L_p (.int .u8 (((x / 4294967296) : Nat) : Int)) rfl (ev_conv (o := _) rfl kr (qz5 (by omega))) (L_p (.int .u8 (bl (x / 4294967296) : Int)) rfl (qu1 (o := _) rfl (a := .string ⟨⟨tab8⟩⟩) kr kr (qz2 (v := (x / 4294967296)) kr (by omega))) (L_p (nv (bl (x / 4294967296) : Int)) rfl (ev_conv (o := _) rfl kr (K3 (Nat.lt_of_le_of_lt (E5 (v := (x / 4294967296)) (k := 8) (by omega)) (by decide)))) (L_p (nv (((0 + 32) + bl (x / 4294967296) : Nat) : Int)) rfl (ev_bin (o := _) rfl kr kr (qk3 (a := (0 + 32)) (b := bl (x / 4294967296)) (by have := E5 (v := (x / 4294967296)) (k := 8) (by omega); omega))) (L_g 1 kr (q5 (j7 ?_))))))))
    refine rr ?_
    refine z0 (v := nv (((0 + 32) + bl (x / 4294967296) : Nat) : Int)) (.inl rfl) kr ?_
    exact ⟨congrArg (fun q : Nat => nv (q : Int)) (by have q32 := yy7 g1; skip; skip; omega), T0⟩
 ·
  have g1 : x < 4294967296 := by simpa using hb
  refine z6 (q7 (z1 1 kr (L_p (.bool (decide (65536 ≤ x))) rfl (ev_bin (o := _) rfl kr kr (xx6 (b := 65536) rfl)) (q5 ?_))))
  refine Q0 (decide (65536 ≤ x)) kr (fun hb => ?_) (fun hb => ?_)
  ·
   have g2 : 65536 ≤ x := by simpa using hb
   refine z1 1 kr (L_p (uv (x / 65536)) rfl (ev_bin (o := _) rfl kr kr (qj3 (k := .u64) (s := 16) (by decide))) (L_g 1 kr (q5 (Z3 3 kr (q5 (q7 (q7 (q6 ?_))))))))
   refine L_g 1 kr (L_p (.bool (decide (256 ≤ (x / 65536)))) rfl (ev_bin (o := _) rfl kr kr (xx6 (b := 256) rfl)) (q5 ?_))
   refine Q0 (decide (256 ≤ (x / 65536))) kr (fun hb => ?_) (fun hb => ?_)
   ·
    have g3 : 256 ≤ (x / 65536) := by simpa using hb
    refine z1 1 kr (L_p (uv ((x / 65536) / 256)) rfl (ev_bin (o := _) rfl kr kr (qj3 (k := .u64) (s := 8) (by decide))) (L_g 1 kr (q5 (Z3 3 kr (q5 (q7 (q6 (L_g 2 kr ?_))))))))
    refine L_p (.int .u8 ((((x / 65536) / 256) : Nat) : Int)) rfl (ev_conv (o := _) rfl kr (qz5 (by omega))) (L_p (.int .u8 (bl ((x / 65536) / 256) : Int)) rfl (qu1 (o := _) rfl (a := .string ⟨⟨tab8⟩⟩) kr kr (qz2 (v := ((x / 65536) / 256)) kr (by omega))) (L_p (nv (bl ((x / 65536) / 256) : Int)) rfl (ev_conv (o := _) rfl kr (K3 (Nat.lt_of_le_of_lt (E5 (v := ((x / 65536) / 256)) (k := 8) (by omega)) (by decide)))) (L_p (nv ((((0 + 16) + 8) + bl ((x / 65536) / 256) : Nat) : Int)) rfl (ev_bin (o := _) rfl kr kr (qk3 (a := ((0 + 16) + 8)) (b := bl ((x / 65536) / 256)) (by have := E5 (v := ((x / 65536) / 256)) (k := 8) (by omega); omega))) (L_g 1 kr (q5 (j7 ?_))))))
    refine rr ?_
    refine z0 (v := nv ((((0 + 16) + 8) + bl ((x / 65536) / 256) : Nat) : Int)) (.inl rfl) kr ?_
    exact ⟨congrArg (fun q : Nat => nv (q : Int)) (by skip; have q16 := yy8 g2; have q8 := xg1 g3; omega), T0⟩
   ·
    have g3 : (x / 65536) < 256 := by simpa using hb
    refine z6 (z1 2 kr (L_p (.int .u8 (((x / 65536) : Nat) : Int)) rfl (ev_conv (o := _) rfl kr (qz5 (by omega))) (L_p (.int .u8 (bl (x / 65536) : Int)) rfl (qu1 (o := _) rfl (a := .string ⟨⟨tab8⟩⟩) kr kr (qz2 (v := (x / 65536)) kr (by omega))) (L_p (nv (bl (x / 65536) : Int)) rfl (ev_conv (o := _) rfl kr (K3 (Nat.lt_of_le_of_lt (E5 (v := (x / 65536)) (k := 8) (by omega)) (by decide)))) (L_p (nv (((0 + 16) + bl (x / 65536) : Nat) : Int)) rfl (ev_bin (o := _) rfl kr kr (qk3 (a := (0 + 16)) (b := bl (x / 65536)) (by have := E5 (v := (x / 65536)) (k := 8) (by omega); omega))) (L_g 1 kr (q5 (j7 ?_))))))))
    refine rr ?_
    refine z0 (v := nv (((0 + 16) + bl (x / 65536) : Nat) : Int)) (.inl rfl) kr ?_
    exact ⟨congrArg (fun q : Nat => nv (q : Int)) (by skip; have q16 := yy8 g2; skip; omega), T0⟩
  ·
   have g2 : x < 65536 := by simpa using hb
   refine z6 (q7 (z1 1 kr (L_p (.bool (decide (256 ≤ x))) rfl (ev_bin (o := _) rfl kr kr (xx6 (b := 256) rfl)) (q5 ?_))))
   refine Q0 (decide (256 ≤ x)) kr (fun hb => ?_) (fun hb => ?_)
   ·
    have g3 : 256 ≤ x := by simpa using hb
    refine z1 1 kr (L_p (uv (x / 256)) rfl (ev_bin (o := _) rfl kr kr (qj3 (k := .u64) (s := 8) (by decide))) (L_g 1 kr (q5 (Z3 3 kr (q5 (q7 (q6 (L_g 2 kr ?_))))))))
    refine L_p (.int .u8 (((x / 256) : Nat) : Int)) rfl (ev_conv (o := _) rfl kr (qz5 (by omega))) (L_p (.int .u8 (bl (x / 256) : Int)) rfl (qu1 (o := _) rfl (a := .string ⟨⟨tab8⟩⟩) kr kr (qz2 (v := (x / 256)) kr (by omega))) (L_p (nv (bl (x / 256) : Int)) rfl (ev_conv (o := _) rfl kr (K3 (Nat.lt_of_le_of_lt (E5 (v := (x / 256)) (k := 8) (by omega)) (by decide)))) (L_p (nv (((0 + 8) + bl (x / 256) : Nat) : Int)) rfl (ev_bin (o := _) rfl kr kr (qk3 (a := (0 + 8)) (b := bl (x / 256)) (by have := E5 (v := (x / 256)) (k := 8) (by omega); omega))) (L_g 1 kr (q5 (j7 ?_))))))
    refine rr ?_
    refine z0 (v := nv (((0 + 8) + bl (x / 256) : Nat) : Int)) (.inl rfl) kr ?_
    exact ⟨congrArg (fun q : Nat => nv (q : Int)) (by skip; skip; have q8 := xg1 g3; omega), T0⟩
   ·
    have g3 : x < 256 := by simpa using hb
    refine z6 (z1 2 kr (L_p (.int .u8 ((x : Nat) : Int)) rfl (ev_conv (o := _) rfl kr (qz5 (by omega))) (L_p (.int .u8 (bl x : Int)) rfl (qu1 (o := _) rfl (a := .string ⟨⟨tab8⟩⟩) kr kr (qz2 (v := x) kr (by omega))) (L_p (nv (bl x : Int)) rfl (ev_conv (o := _) rfl kr (K3 (Nat.lt_of_le_of_lt (E5 (v := x) (k := 8) (by omega)) (by decide)))) (L_p (nv ((0 + bl x : Nat) : Int)) rfl (ev_bin (o := _) rfl kr kr (qk3 (a := 0) (b := bl x) (by have := E5 (v := x) (k := 8) (by omega); omega))) (L_g 1 kr (q5 (j7 ?_))))))))
    refine rr ?_
    refine z0 (v := nv ((0 + bl x : Nat) : Int)) (.inl rfl) kr ?_
    exact ⟨congrArg (fun q : Nat => nv (q : Int)) (by skip; skip; skip; omega), T0⟩
theorem zz0 {h : AH} {X : Nat} : Arm.Calls Tryz.prog 28 [.agg ⟨wl (word X)⟩] h (fun r => r.1 = nv (lenN X : Int) /\ Sm Nix h r.2) := by
 refine Q5 (n := 19) (fn := Tryz.f28) kr rfl rfl (Nat.le_of_ble_eq_true rfl) trivial ⟨.inl (fun e => by cases e), rfl⟩ ?_
 have T0 : Sm Nix h h := .refl
 refine q7 (q6 (Q1 (wl (word X)) .ptr rfl rfl kr fun h20 c20 t20 n20 => ?_))
 have T20 := T0.ext t20
 have N20 := T20.nx
 refine L_g 1 kr (q5 (q7 (z1 1 kr (q5 (u3 ?_)))))
 refine J5 (fun mm fr hh => ∃ (i : Nat) (k : Int), (i ≤ 36) /\ (k = (i : Int) - 1) /\ (lenN X = lenW (word X) i) /\ mm = i /\ fr 1 = ptr (h.next) /\ fr 3 = .int .i64 k /\ Sm Nix h hh /\ Cl hh (h.next) (wl (word X))) (36) ?_ ?_
 ·
  exact ⟨36, _, (by decide), rfl, rfl, rfl, kr, kr, T20, c20⟩
 rintro mm21 fr21 h21 ⟨i, k, hi, hk, hl, hm21, y21_1, y21_3, T21, c20⟩
 have N21 := T21.nx
 have B21_t1 := c20.lt
 refine j8 (k := 1) y21_1 (j8 (k := 3) y21_3 (q7 (z1 1 kr (L_i (k) (0) (.bool (decide ((0 : Int) ≤ k))) rfl rfl kr kr rfl (rfl) (q5 ?_)))))
 refine Q0 (decide ((0 : Int) ≤ k)) kr (fun hb => ?_) (fun hb => ?_)
 ·
  have hk0 : 0 ≤ k := by simpa using hb
  obtain ⟨j, rfl⟩ : ∃ j : Nat, k = j := ⟨i - 1, by omega⟩
  obtain rfl : i = j + 1 := by omega
  have hlt : j < 36 := by omega
  refine z6 (q7 (u3 (z1 1 kr (Z8 _ rfl rfl kr kr (ixA0 (b := h.next) (i := j) kr (hlt)) (z9 _ rfl rfl kr (c20.ld (o := j) kr (E2 hlt)) (L_p (.bool (!decide (word X j = 0))) rfl (ev_bin (o := _) rfl kr kr (ne_u (b := 0) rfl)) (q5 ?_)))))))
  refine Q0 (!decide (word X j = 0)) kr (fun hb => ?_) (fun hb => ?_)
  ·
   have hbl : bl (word X j) ≤ 64 := E5 (qz1 X j)
   refine z1 1 kr (L_p (nv ((64 * j : Nat) : Int)) rfl (ev_bin (o := _) rfl kr kr (uq9 (a := 64) (b := j) (by omega))) (L_g 1 kr (Z8 _ rfl rfl kr kr (ixA0 (b := h.next) (i := j) kr (hlt)) (z9 _ rfl rfl kr (c20.ld (o := j) kr (E2 hlt)) (L_c rfl rfl kr (uz8 (qz1 X j)) ?_)))))
   rintro v22 h22 ⟨e22, t22⟩
   try dsimp only at e22 t22
   subst e22
   have T22 := T21.ext t22
   have N22 := T22.nx
   have M22 := t22.nx
   refine L_p (nv ((64 * j + bl (word X j) : Nat) : Int)) rfl (ev_bin (o := _) rfl kr kr (qk3 (a := 64 * j) (b := bl (word X j)) (by omega))) (L_g 1 kr (q5 (j7 ?_)))
   refine rr ?_
   refine z0 (v := nv (((64 * j + bl (word X j)) : Nat) : Int)) (.inl rfl) kr ?_
   exact ⟨congrArg (fun q : Nat => nv (q : Int)) (hl.trans (lenW_t hb)).symm, T22⟩
  ·
   refine z6 (Z3 1 kr (L_i ((j : Int)) (1) (.int .i64 ((j : Int) - 1)) rfl rfl kr kr rfl (decI (by omega)) (L_g 1 kr (q5 ?_))))
   exact ⟨j, by omega, j, (j : Int) - 1, by omega, rfl, hl.trans (lenW_f hb), rfl, kr, kr, T21, c20⟩
 ·
  have hk0 : ¬ 0 ≤ k := by simpa using hb
  obtain rfl : i = 0 := by omega
  refine J8 ?_
  refine rx ?_
  refine Q7 (z1 1 kr (q5 (j7 ?_)))
  refine rr ?_
  refine z0 (v := nv ((0 : Nat) : Int)) (.inl rfl) kr ?_
  exact ⟨congrArg (fun q : Nat => nv (q : Int)) (hl).symm, T21⟩
theorem qk5 {h : AH} {m k : Nat} (hm : m < BB) (hk : k < 2240) : Arm.Calls Tryz.prog 47 [uv m, nv (k : Int)] h (fun r => r.1 = .agg ⟨wl (word (m * 2 ^ k))⟩ /\ Sm Nix h r.2) := by
 refine Q5 (n := 26) (fn := Tryz.f47) kr rfl rfl (Nat.le_of_ble_eq_true rfl) trivial ⟨.inl (fun e => by cases e), rfl⟩ ?_
 have T0 : Sm Nix h h := .refl
 refine q7 (q6 (Q1 (wl (fun _ => 0)) .ptr rfl rfl kr fun h23 c23 t23 n23 => ?_))
 have T23 := T0.ext t23
 have N23 := T23.nx
 refine q5 (q7 (q6 (Q1 (wl (fun _ => 0)) .ptr rfl rfl kr fun h24 c24 t24 n24 => ?_)))
 replace c23 := c23.ext t24
 have T24 := T23.ext t24
 have N24 := T24.nx
 refine q5 (z1 1 kr (L_p (nv ((k / 64 : Nat) : Int)) rfl (ev_bin (o := _) rfl kr kr (qk0 (b := 63) (by omega))) (L_g 2 kr (L_p (nv ((k % 64 : Nat) : Int)) rfl (ev_bin (o := _) rfl kr kr (qj9 (b := 63))) (L_p (uv (m * 2 ^ (k % 64) % BB)) rfl (ev_bin (o := _) rfl kr kr (zy1 (k := .i64) (s := k % 64) (by omega))) (Z8 _ rfl rfl kr kr (ixA0 (b := h23.next) (i := k / 64) kr (by omega)) ?_))))))
 obtain ⟨h25, e25, d25, t25, n25⟩ := c24.store (P := Tryz.prog) (T := 24) (o := (k / 64)) (v := uv (m * 2 ^ (k % 64) % BB)) kr rfl rfl (by rw [u5]; omega)
 rw [qk4 (by omega)] at d25
 replace c23 := c23.sn t25
 replace c24 := d25
 have T25 := T24.tr t25
 have N25 := T25.nx
 refine Q3 _ rfl rfl rfl kr kr (e25) (q5 (q7 (z1 1 kr (L_p (nv ((k % 64 : Nat) : Int)) rfl (ev_bin (o := _) rfl kr kr (qj9 (b := 63))) (L_i (((k % 64 : Nat) : Int)) (0) (.bool (decide (0 < k % 64))) rfl rfl kr kr rfl (gtI _) (q5 ?_))))))
 refine Q0 (decide (0 < k % 64)) kr (fun hb => ?_) (fun hb => ?_)
 ·
  have hr : 0 < k % 64 := by simpa using hb
  refine Z3 1 kr (L_p (nv ((k / 64 : Nat) : Int)) rfl (ev_bin (o := _) rfl kr kr (qk0 (b := 63) (by omega))) (L_i (((k / 64 : Nat) : Int)) (1) (nv ((k / 64 + 1 : Nat) : Int)) rfl rfl kr kr rfl (Z4 (by omega)) (L_g 2 kr (L_p (nv ((k % 64 : Nat) : Int)) rfl (ev_bin (o := _) rfl kr kr (qj9 (b := 63))) (L_p (nv ((64 - k % 64 : Nat) : Int)) rfl (ev_bin (o := _) rfl kr kr (qj2 (a := 64) (b := k % 64) (by omega) (by decide))) (L_p (uv (m / 2 ^ (64 - k % 64))) rfl (ev_bin (o := _) rfl kr kr (qj3 (k := .i64) (s := 64 - k % 64) (by omega))) (Z8 _ rfl rfl kr kr (ixA0 (b := h23.next) (i := (k / 64 + 1)) kr (by omega)) ?_)))))))
  obtain ⟨h26, e26, d26, t26, n26⟩ := c24.store (P := Tryz.prog) (T := 24) (o := (k / 64 + 1)) (v := uv (m / 2 ^ (64 - k % 64))) kr rfl rfl (by rw [u5]; omega)
  rw [qk4 (by omega), shl_c1 hm] at d26
  replace c23 := c23.sn t26
  replace c24 := d26
  have T26 := T25.tr t26
  have N26 := T26.nx
  refine Q3 _ rfl rfl rfl kr kr (e26) (q5 (q7 (q6 (z9 _ rfl rfl kr (Cl.allN (n := 36) c24 (u5 _) kr) ?_))))
  obtain ⟨h27, e27, d27, t27, n27⟩ := Cl.storeN (P := Tryz.prog) (T := 79) (n := 36) (v := .agg ⟨(wl (word (m * 2 ^ k)))⟩) (cs := (wl (word (m * 2 ^ k)))) c23 (u5 _) kr rfl (u5 _) K7
  replace c23 := d27
  have T27 := T26.tr t27
  have N27 := T27.nx
  refine Q3 _ rfl rfl rfl kr kr (e27) (q5 (j7 ?_))
  refine rr ?_
  refine z0 (.inl rfl) (E4 kr kr (Cl.allN (n := 36) c23 (u5 _) kr)) ?_
  exact ⟨rfl, T27⟩
 ·
  have hr : k % 64 = 0 := by simp at hb; omega
  rw [shl_c2 hm hr] at c24
  refine z6 (q7 (q6 (z9 _ rfl rfl kr (Cl.allN (n := 36) c24 (u5 _) kr) ?_)))
  obtain ⟨h28, e28, d28, t28, n28⟩ := Cl.storeN (P := Tryz.prog) (T := 79) (n := 36) (v := .agg ⟨(wl (word (m * 2 ^ k)))⟩) (cs := (wl (word (m * 2 ^ k)))) c23 (u5 _) kr rfl (u5 _) K7
  replace c23 := d28
  have T28 := T25.tr t28
  have N28 := T28.nx
  refine Q3 _ rfl rfl rfl kr kr (e28) (q5 (j7 ?_))
  refine rr ?_
  refine z0 (.inl rfl) (E4 kr kr (Cl.allN (n := 36) c23 (u5 _) kr)) ?_
  exact ⟨rfl, T28⟩
theorem ux0 {h : AH} {b : Nat} (hb0 : b < BB) : Arm.Calls Tryz.prog 46 [uv b] h (fun r => r.1 = .bool (nanB b) /\ Sm Nix h r.2) := by
 refine Q5 (n := 6) (fn := Tryz.f46) kr rfl rfl (Nat.le_of_ble_eq_true rfl) trivial ⟨.inl (fun e => by cases e), rfl⟩ ?_
 have T0 : Sm Nix h h := .refl
 refine z1 1 kr (q5 (z1 1 kr (L_p (uv (b % 9223372036854775808)) rfl (ev_bin (o := _) rfl kr kr (yg5 hb0)) (L_p (.bool (nanB b)) rfl (ev_bin (o := _) rfl kr kr (gt_u (b := 9218868437227405312) rfl)) (L_g 1 kr (q5 (j7 ?_)))))))
 refine rr ?_
 refine z0 (v := .bool (nanB b)) (.inl rfl) kr ?_
 exact ⟨rfl, T0⟩
end
end Go.Proofs.YtjealfplbigphaaGreat
namespace Go.Arm
noncomputable section
open Go Go.X Go.Nu
section
variable {P : Program} {h : AH} {Ts : List TypeId} {k : IntKind} {a b : Int}
theorem qx9 : aBuiltin P .max Ts [.int k a, .int k b] h = some [(.val (.int k (max a b)), h)] := by
 have e : Builtin.max_ #[] 0 ⟨[Value.int k a, .int k b]⟩ = (pure (.int k (max a b)) : Sem Value) := by
  have : (if b > a then b else a) = max a b := by split <;> omega
  simp only [Builtin.max_, List.foldlM_cons, List.foldlM_nil, Builtin.max2, this]
  rfl
 show ov (aPure P (Builtin.max_ #[] 0 ⟨[Value.int k a, .int k b]⟩)) h = _
 rw [e]; rfl
theorem yy9 : aBuiltin P .min Ts [.int k a, .int k b] h = some [(.val (.int k (min a b)), h)] := by
 have e : Builtin.min_ #[] 0 ⟨[Value.int k a, .int k b]⟩ = (pure (.int k (min a b)) : Sem Value) := by
  have : (if b < a then b else a) = min a b := by split <;> omega
  simp only [Builtin.min_, List.foldlM_cons, List.foldlM_nil, Builtin.min2, this]
  rfl
 show ov (aPure P (Builtin.min_ #[] 0 ⟨[Value.int k a, .int k b]⟩)) h = _
 rw [e]; rfl
end
theorem eqI (a b : Nat) : Value.bool ((a : Int) == (b : Int)) = .bool (decide (a = b)) := by
 congr 1
 by_cases hx : a = b
 . subst hx; simp
 . rw [decide_eq_false hx]; exact beq_eq_false_iff_ne.2 (fun e => hx (Int.ofNat.inj e))
theorem eqI0 (a : Nat) : Value.bool ((a : Int) == (0 : Int)) = .bool (decide (a = 0)) := eqI a 0
theorem gtII (a b : Nat) : Value.bool (decide ((a : Int) > (b : Int))) = .bool (decide (b < a)) := by
 congr 1; rw [decide_eq_decide]; omega
section
variable {w : Nat -> Nat} {k i : Nat}
theorem hiM_0 (h : k = 0) : hiM w k = w 0 := if_pos h
theorem hiM_t (h : k ≠ 0) (hr : 0 < k % 64) (h36 : k / 64 + 1 < 36) : hiM w k = w (k / 64) / 2 ^ (k % 64) ||| (w (k / 64 + 1) * 2 ^ (64 - k % 64) % BB) := by
 unfold hiM; rw [if_neg h, if_pos ⟨hr, h36⟩]
theorem hiM_f (h : k ≠ 0) (hr : ¬ 0 < k % 64) : hiM w k = w (k / 64) / 2 ^ (k % 64) := by
 unfold hiM; rw [if_neg h, if_neg (fun x => hr x.1)]
theorem jx1 : wl w = wl (fun j => if j < 0 then leftW w k j else w j) := E1 fun j _ => by rw [if_neg (Nat.not_lt_zero j)]
theorem uz9 : wl (fun j => if j < 36 then leftW w k j else w j) = wl (leftW w k) := E1 fun j hj => by rw [if_pos hj]
theorem xk4 (v : Nat) (hv : leftW w k i = v) : wl (fun j => if j = i then v else if j < i then leftW w k j else w j) = wl (fun j => if j < i + 1 then leftW w k j else w j) := E1 fun j _ => by
 by_cases e : j = i
 . subst e; rw [if_pos rfl, if_pos (Nat.lt_succ_self _), hv]
 . rw [if_neg e]
   by_cases h : j < i
   . rw [if_pos h, if_pos (by omega)]
   . rw [if_neg h, if_neg (by omega)]
theorem left_n (hv : leftW w k i = w i) : wl (fun j => if j < i then leftW w k j else w j) = wl (fun j => if j < i + 1 then leftW w k j else w j) := E1 fun j _ => by
 by_cases e : j = i
 . subst e; rw [if_neg (Nat.lt_irrefl _), if_pos (Nat.lt_succ_self _), hv]
 . by_cases h : j < i
   . rw [if_pos h, if_pos (by omega)]
   . rw [if_neg h, if_neg (by omega)]
theorem left_1 (h : i = k / 64) : leftW w k i = w i &&& (2 ^ (k % 64) - 1) := if_pos h
theorem left_2 (h : ¬ i = k / 64) (h2 : k / 64 < i) : leftW w k i = 0 := by unfold leftW; rw [if_neg h, if_pos h2]
theorem left_3 (h : ¬ i = k / 64) (h2 : ¬ k / 64 < i) : leftW w k i = w i := by unfold leftW; rw [if_neg h, if_neg h2]
theorem shl_1 {s : Nat} (hs : s < 64) : 1 * 2 ^ s % BB = 2 ^ s := by
 rw [Nat.one_mul]
 exact Nat.mod_eq_of_lt (by rw [bb]; exact Nat.pow_lt_pow_right (by decide) hs)
theorem xy7 {s : Nat} (hs : s < 64) : 2 ^ s < BB := by rw [bb]; exact Nat.pow_lt_pow_right (by decide) hs
variable {x y : Nat -> Nat}
theorem cmp_lt (h : decide (x i < y i) = true) : cmpW x y (i + 1) = -1 := by unfold cmpW; rw [if_pos (by simpa using h)]
theorem cmp_gt (h : decide (x i < y i) = false) (h2 : decide (y i < x i) = true) : cmpW x y (i + 1) = 1 := by unfold cmpW; rw [if_neg (by simpa using h), if_pos (by simpa using h2)]
theorem cmp_n (h : decide (x i < y i) = false) (h2 : decide (y i < x i) = false) : cmpW x y (i + 1) = cmpW x y i := by rw [cmpW, if_neg (by simpa using h), if_neg (by simpa using h2)]
theorem hiC_0 (h : k = 0) : hiC w k = -1 := if_pos h
theorem hiC_n (h : k ≠ 0) : hiC w k = cmpW (leftW w k) (word (1 * 2 ^ (k - 1))) 36 := if_neg h
end
theorem jk0 (m : Nat) (c : Int) : (0 < c /\ upB m c = true) ∨ (¬ 0 < c /\ c = 0 /\ m % 2 = 1 /\ upB m c = true) ∨ (¬ 0 < c /\ c = 0 /\ ¬ m % 2 = 1 /\ upB m c = false) ∨ (¬ 0 < c /\ ¬ c = 0 /\ upB m c = false) := by
 unfold upB
 by_cases h1 : 0 < c
 . exact .inl ⟨h1, by rw [decide_eq_true h1]; rfl⟩
 . by_cases h2 : c = 0
   . by_cases h3 : m % 2 = 1
     . exact .inr (.inl ⟨h1, h2, h3, by rw [decide_eq_true h2, decide_eq_true h3]; simp⟩)
     . exact .inr (.inr (.inl ⟨h1, h2, h3, by rw [decide_eq_false h1, decide_eq_false h3]; simp⟩))
   . exact .inr (.inr (.inr ⟨h1, h2, by rw [decide_eq_false h1, decide_eq_false h2]; rfl⟩))
theorem Qq2 {x : Nat} (h : 2045 < lenN x - 53) : rndN x = inf := by unfold rndN; dsimp only; rw [if_pos h]
theorem jg2 {x : Nat} (h : ¬ 2045 < lenN x - 53) (hu : upB (hiM (word x) (lenN x - 53)) (hiC (word x) (lenN x - 53)) = true) : rndN x = min inf (((lenN x - 53) * 2 ^ 52 % BB + (hiM (word x) (lenN x - 53) + 1) % BB) % BB) := by
 unfold rndN; dsimp only; rw [if_neg h, hu]
theorem jg3 {x : Nat} (h : ¬ 2045 < lenN x - 53) (hu : upB (hiM (word x) (lenN x - 53)) (hiC (word x) (lenN x - 53)) = false) : rndN x = min inf (((lenN x - 53) * 2 ^ 52 % BB + hiM (word x) (lenN x - 53)) % BB) := by
 unfold rndN; dsimp only; rw [if_neg h, hu]
theorem xk0 (a b : Nat) : Value.int .u64 (min (a : Int) (b : Int)) = uv (min a b) := by
 congr 1; omega
theorem Qy5 (L : Nat) : (max 0 ((L : Int) - 53)) = ((L - 53 : Nat) : Int) := by omega
theorem sub53 {L : Nat} (h : L < 1000000000) : Value.int .i64 (IntKind.i64.wrap ((L : Int) - 53)) = .int .i64 ((L : Int) - 53) := by
 rw [IntKind.wrap_i64]; congr 1; omega
theorem lenW_le {w : Nat -> Nat} (hw : ∀ i, w i < BB) : ∀ n, lenW w n ≤ 64 * n
 | 0 => Nat.le_refl _
 | n + 1 => by
  unfold lenW
  split
  . have := E5 (v := w n) (k := 64) (hw n); omega
  . have := lenW_le hw n; omega
theorem qg3 (x : Nat) : lenN x ≤ 2304 := lenW_le (qz1 x) 36
section
variable {P : Program} {h : AH} {T : TypeId} {xo yo : Operand} {a : Nat}
theorem and_m (s : Nat) {m : Nat} (ha : a < BB) (hs : s < 64) (hm : m = 2 ^ s - 1) : aBin P .and T xo yo (uv a) (uv m) h = some (uv (a % 2 ^ s)) := by
 subst hm
 rw [uv5 ha (by have := xy7 hs; omega), Nat.and_two_pow_sub_one_eq_mod]
def sgb (b : Nat) : Nat := if sgn ≤ b then sgn else 0
theorem xg4 (ha : a < BB) : aBin P .and T xo yo (uv a) (uv 9223372036854775808) h = some (uv (sgb a)) := by
 rw [uv5 ha (by decide)]
 have e : a &&& 9223372036854775808 = sgb a := by
  have h2 : a.testBit 63 = decide (sgn ≤ a) := by
    rw [Nat.testBit_eq_decide_div_mod_eq, decide_eq_decide]
    have ha : a < 18446744073709551616 := ha
    unfold sgn
    omega
  have h0 : (9223372036854775808 : Nat) = 2 ^ 63 := by decide
  unfold sgb
  apply Nat.eq_of_testBit_eq
  intro i
  rw [h0, Nat.testBit_and, Nat.testBit_two_pow]
  by_cases h3 : sgn ≤ a
  . rw [if_pos h3, show sgn = 2 ^ 63 from by decide, Nat.testBit_two_pow]
    by_cases hi : 63 = i
    . subst hi; rw [h2, decide_eq_true h3]; rfl
    . rw [decide_eq_false hi, Bool.and_false]
  . rw [if_neg h3, Nat.zero_testBit]
    by_cases hi : 63 = i
    . subst hi; rw [h2, decide_eq_false h3]; rfl
    . rw [decide_eq_false hi, Bool.and_false]
 rw [e]
theorem or_52 (hm : a < 2 ^ 52) : aBin P .or T xo yo (uv a) (uv 4503599627370496) h = some (uv (a + 2 ^ 52)) := by
 rw [or_u (by show _ < 18446744073709551616; omega) (by decide)]
 have e : a ||| 4503599627370496 = a + 2 ^ 52 := by
  have := Nat.two_pow_add_eq_or_of_lt hm 1
  rw [Nat.or_comm, Nat.add_comm]
  exact this.symm
 rw [e]
end
theorem jw6 (b : Nat) : decide (sgb b = 0) = decide (b < sgn) := by
 unfold sgb
 by_cases h : sgn ≤ b
 . rw [if_pos h, decide_eq_false (by decide), decide_eq_false (by omega)]
 . rw [if_neg h, decide_eq_true rfl, decide_eq_true (by omega)]
theorem xz7 (b : Nat) : (!decide (sgb b = 0)) = decide (sgn ≤ b) := by
 rw [jw6]
 by_cases h : sgn ≤ b
 . rw [decide_eq_false (by omega), decide_eq_true h]; rfl
 . rw [decide_eq_true (by omega), decide_eq_false h]; rfl
theorem qy6 {a : Sa} {x : Nat} : a.cells.take 0 ++ wl (word x) ++ a.cells.drop (0 + (wl (word x)).length) = Sa.cells { a with s := x } := by
 rw [u5]
 unfold Sa.cells
 rw [List.take_zero, List.nil_append, Nat.zero_add, List.drop_append, u5, List.drop_of_length_le (by rw [u5]; decide)]
 rfl
theorem qx7 {a : Sa} {k : Nat} {v : Value} (l : List Value) (hl : [Value.bool a.na, .bool a.pl, .bool a.mi, nv (a.ze : Int)].set k v = l) : a.cells.set (36 + k) v = wl (word a.s) ++ l := by
 unfold Sa.cells
 rw [List.set_append_right _ _ (by rw [u5]; omega), u5, Nat.add_sub_cancel_left, hl]
section
variable {s ze z : Nat} {na pl mi v : Bool}
theorem yw4 : (Sa.cells ⟨s, na, pl, mi, ze⟩).set 36 (.bool v) = Sa.cells ⟨s, v, pl, mi, ze⟩ := qx7 (k := 0) _ rfl
theorem yw3 : (Sa.cells ⟨s, na, pl, mi, ze⟩).set 37 (.bool v) = Sa.cells ⟨s, na, v, mi, ze⟩ := qx7 (k := 1) _ rfl
theorem yw5 : (Sa.cells ⟨s, na, pl, mi, ze⟩).set 38 (.bool v) = Sa.cells ⟨s, na, pl, v, ze⟩ := qx7 (k := 2) _ rfl
theorem yw2 : (Sa.cells ⟨s, na, pl, mi, ze⟩).set 39 (nv (z : Int)) = Sa.cells ⟨s, na, pl, mi, z⟩ := qx7 (k := 3) _ rfl
end
section
variable {b : Nat}
theorem Qz9 (h : nanB b = true) : oneB b = ⟨0, true, false, false, 2⟩ := if_pos h
theorem Qy0 (h : nanB b = false) (h2 : decide (b % 9223372036854775808 = 9218868437227405312) = true) : oneB b = ⟨0, false, decide (b < sgn), decide (sgn ≤ b), 2⟩ := by
 unfold oneB; rw [if_neg (by rw [h]; decide), if_pos (show b % sgn = inf from of_decide_eq_true h2)]
theorem Qz8 (h : nanB b = false) (h2 : decide (b % 9223372036854775808 = 9218868437227405312) = false) (h3 : decide (b = 9223372036854775808) = true) : oneB b = ⟨0, false, false, false, 1⟩ := by
 unfold oneB; rw [if_neg (by rw [h]; decide), if_neg (show ¬ b % sgn = inf from of_decide_eq_false h2), if_pos (show b = sgn from of_decide_eq_true h3)]
theorem zx2 (h : nanB b = false) (h2 : decide (b % 9223372036854775808 = 9218868437227405312) = false) (h3 : decide (b = 9223372036854775808) = false) : oneB b = ⟨if sgn ≤ b then negN (oneX b) else oneX b, false, false, false, 2⟩ := by
 unfold oneB; rw [if_neg (by rw [h]; decide), if_neg (show ¬ b % sgn = inf from of_decide_eq_false h2), if_neg (show ¬ b = sgn from of_decide_eq_false h3)]
theorem oneX_lt : oneX b < 2 ^ 2100 := by
 unfold oneX
 have h1 : b % 2 ^ 52 < 2 ^ 52 := Nat.mod_lt _ (p0 _)
 have h2 : b / 2 ^ 52 % 2048 < 2048 := Nat.mod_lt _ (by decide)
 split
 . rw [Nat.pow_zero, Nat.mul_one]
   have h9 := pwle 52 2100 (by decide); exact Nat.lt_of_lt_of_le h1 h9
 . have h3 := pwle (b / 2 ^ 52 % 2048 - 1) 2047 (by omega)
   have h4 : b % 2 ^ 52 + 2 ^ 52 < 2 ^ 53 := by
    have : (2 : Nat) ^ 53 = 2 ^ 52 + 2 ^ 52 := by decide
    omega
   have h5 := pwadd 53 2047 2100 rfl
   rw [h5]
   have h6 := Nat.mul_le_mul_left (b % 2 ^ 52 + 2 ^ 52) h3; have h7 := Nat.mul_lt_mul_of_pos_right h4 (p0 2047); exact Nat.lt_of_le_of_lt h6 h7
theorem xv8 : oneX b < MM := by have h9 := pwle 2100 2304 (by decide); unfold MM; exact Nat.lt_of_lt_of_le oneX_lt h9
end
end
end Go.Arm
namespace Go.Proofs.YtjealfplbigphaaGreat
noncomputable section
open Go Go.X Go.Arm Go.Mt Go.Nu
theorem Qx1 {h : AH} {X k : Nat} (hk : k ≤ 2045) : Arm.Calls Tryz.prog 59 [.agg ⟨wl (word X)⟩, nv (k : Int)] h (fun r => r.1 = .tuple ⟨[uv (hiM (word X) k), .int .i64 (hiC (word X) k)]⟩ /\ Sm Nix h r.2) := by
 refine Q5 (n := 94) (fn := Tryz.f59) kr rfl rfl (Nat.le_of_ble_eq_true rfl) trivial ⟨.inl (fun e => by cases e), rfl⟩ ?_
 have T0 : Sm Nix h h := .refl
 refine q7 (q6 (Q1 (wl (word X)) .ptr rfl rfl kr fun h29 c29 t29 n29 => ?_))
 have T29 := T0.ext t29
 have N29 := T29.nx
 refine L_g 2 kr (q5 (q7 (z1 1 kr (L_i ((k : Int)) (0) (.bool (decide (k = 0))) rfl rfl kr kr rfl (eqI0 k) (q5 ?_)))))
 refine Q0 (decide (k = 0)) kr (fun hb => ?_) (fun hb => ?_)
 ·
  have hk0 : k = 0 := by simpa using hb
  refine q7 (q6 (Z8 _ rfl rfl kr kr (ixA0 (b := h.next) (i := 0) kr (by decide)) (z9 _ rfl rfl kr (c29.ld (o := 0) kr (E2 (by decide))) (L_g 2 kr (q5 (j7 ?_))))))
  refine rr ?_
  refine z0 (v := .tuple ⟨[uv ((word X 0)), .int .i64 (-1)]⟩) (.inl rfl) kr ?_
  exact ⟨by rw [(hiC_0 hk0), hiM_0 hk0], T29⟩
 ·
  have hk0 : k ≠ 0 := by simpa using hb
  refine z6 (z1 1 kr (L_p (nv ((k / 64 : Nat) : Int)) rfl (ev_bin (o := _) rfl kr kr (qk0 (b := 63) (by omega))) (Z8 _ rfl rfl kr kr (ixA0 (b := h.next) (i := (k / 64)) kr (by omega)) (z9 _ rfl rfl kr (c29.ld (o := k / 64) kr (E2 (by omega))) (L_g 1 kr (L_p (nv ((k % 64 : Nat) : Int)) rfl (ev_bin (o := _) rfl kr kr (qj9 (b := 63))) (L_p (uv (word X (k / 64) / 2 ^ (k % 64))) rfl (ev_bin (o := _) rfl kr kr (qj3 (k := .i64) (s := k % 64) (by omega))) (L_g 1 kr (q5 ?_)))))))))
  refine zy0 (fun fr hh => Arm.Cl hh h.next (wl (word X)) /\ Sm Nix h hh /\ fr 1 = nv (k : Int) /\ fr 2 = ptr (h.next) /\ fr 6 = uv (hiM (word X) k)) ?_ ?_
  ·
   refine q7 ?_
   by_cases hr : 0 < k % 64
   ·
    refine Z3 1 kr (L_p (nv ((k % 64 : Nat) : Int)) rfl (ev_bin (o := _) rfl kr kr (qj9 (b := 63))) (L_i (((k % 64 : Nat) : Int)) (0) (.bool true) rfl rfl kr kr rfl ((gtI _).trans (by rw [decide_eq_true hr])) (L_g 2 kr (u9 kr (L_p (nv ((k / 64 : Nat) : Int)) rfl (ev_bin (o := _) rfl kr kr (qk0 (b := 63) (by omega))) (u9 kr (L_i (((k / 64 : Nat) : Int)) (1) (nv ((k / 64 + 1 : Nat) : Int)) rfl rfl kr kr rfl (Z4 (by omega)) (u9 kr (L_i (((k / 64 + 1 : Nat) : Int)) (36) (.bool true) rfl rfl kr kr rfl (congrArg Value.bool (decide_eq_true (by omega))) (L_g 1 kr ?_))))))))))
    refine q5 (U7 kr (Z3 2 kr (L_p (nv ((k / 64 : Nat) : Int)) rfl (ev_bin (o := _) rfl kr kr (qk0 (b := 63) (by omega))) (L_i (((k / 64 : Nat) : Int)) (1) (nv ((k / 64 + 1 : Nat) : Int)) rfl rfl kr kr rfl (Z4 (by omega)) (Z8 _ rfl rfl kr kr (ixA0 (b := h.next) (i := (k / 64 + 1)) kr (by omega)) (z9 _ rfl rfl kr (c29.ld (o := k / 64 + 1) kr (E2 (by omega))) (L_g 1 kr (L_p (nv ((k % 64 : Nat) : Int)) rfl (ev_bin (o := _) rfl kr kr (qj9 (b := 63))) (L_p (nv ((64 - k % 64 : Nat) : Int)) rfl (ev_bin (o := _) rfl kr kr (qj2 (a := 64) (b := k % 64) (by omega) (by decide))) (L_p (uv (word X (k / 64 + 1) * 2 ^ (64 - k % 64) % BB)) rfl (ev_bin (o := _) rfl kr kr (zy1 (k := .i64) (s := 64 - k % 64) (by omega))) ?_))))))))))
    refine L_p (uv (hiM (word X) k)) rfl (ev_bin (o := _) rfl kr kr ((or_u (Nat.lt_of_le_of_lt (Nat.div_le_self _ _) (qz1 X _)) (Nat.mod_lt _ (by decide))).trans (by rw [hiM_t hk0 hr (by omega)]))) (L_g 1 kr (q5 ?_))
    exact ⟨c29, T29, kr, kr, kr⟩
   ·
    have hm0 := hiM_f (w := word X) hk0 hr
    refine Z3 1 kr (L_p (nv ((k % 64 : Nat) : Int)) rfl (ev_bin (o := _) rfl kr kr (qj9 (b := 63))) (L_i (((k % 64 : Nat) : Int)) (0) (.bool false) rfl rfl kr kr rfl ((gtI _).trans (by rw [decide_eq_false hr])) (L_g 6 kr (q5 (Q2 kr (z6 ?_))))))
    exact ⟨c29, T29, kr, kr, by rw [hm0]; kernel_rfl⟩
  ·
   rintro fc hc ⟨c2, TL, y1, y2, y6⟩
   refine j8 (k := 1) y1 (j8 (k := 2) y2 (j8 (k := 6) y6 ?_))
   have NL := TL.nx
   have B2 := c2.lt
   refine q7 (q6 (z9 _ rfl rfl kr (Cl.allN (n := 36) c2 (u5 _) kr) (Q1 (wl (fun _ => 0)) .ptr rfl rfl kr fun h30 c30 t30 n30 => ?_)))
   replace c2 := c2.ext t30
   have T30 := TL.ext t30
   have N30 := T30.nx
   obtain ⟨h31, e31, d31, t31, n31⟩ := Cl.storeN (P := Tryz.prog) (T := 79) (n := 36) (v := .agg ⟨(wl (word X))⟩) (cs := (wl (word X))) c30 (u5 _) kr rfl (u5 _) K7
   replace c2 := c2.sn t31
   replace c30 := d31
   have T31 := T30.tr t31
   have N31 := T31.nx
   refine Q3 _ rfl rfl rfl kr kr (e31) (q5 (q7 (z1 1 kr (q5 (u3 ?_)))))
   refine J5 (fun mm fr hh => ∃ (i : Nat), (i ≤ 36) /\ mm = 36 - i /\ fr 1 = nv (k : Int) /\ fr 2 = ptr (h.next) /\ fr 6 = uv (hiM (word X) k) /\ fr 7 = ptr (hc.next) /\ fr 43 = nv (i : Int) /\ Sm Nix h hh /\ Cl hh (h.next) (wl (word X)) /\ Cl hh (hc.next) (wl fun j => if j < i then leftW (word X) k j else word X j)) (36) ?_ ?_
   ·
    rw [jx1 (k := k)] at c30
    exact ⟨0, (by decide), rfl, kr, kr, kr, kr, kr, T31, c2, c30⟩
   rintro mm32 fr32 h32 ⟨i, hi, hm32, y32_1, y32_2, y32_6, y32_7, y32_43, T32, c2, c30⟩
   have N32 := T32.nx
   have B32_t2 := c2.lt
   have B32_t7 := c30.lt
   refine j8 (k := 1) y32_1 (j8 (k := 2) y32_2 (j8 (k := 6) y32_6 (j8 (k := 7) y32_7 (j8 (k := 43) y32_43 (q7 (q6 (L_i ((i : Int)) (36) (.bool (decide ((i : Int) < 36))) rfl rfl kr kr rfl (rfl) (q5 (q7 ?_)))))))))
   refine Q0 (decide ((i : Int) < (36 : Int))) kr (fun hb => ?_) (fun hb => ?_)
   ·
    have hlt : i < 36 := by simp at hb; omega
    refine z6 (q7 (u3 (z1 2 kr (q5 (u3 (z1 2 kr (L_p (nv ((k / 64 : Nat) : Int)) rfl (ev_bin (o := _) rfl kr kr (qk0 (b := 63) (by omega))) ?_)))))))
    refine L_i ((i : Int)) (((k / 64 : Nat) : Int)) (.bool (decide (i = k / 64))) rfl rfl kr kr rfl (eqI _ _) (L_g 1 kr (q5 ?_))
    refine Q0 (decide (i = k / 64)) kr (fun hb => ?_) (fun hb => ?_)
    ·
     have hq : i = k / 64 := by simpa using hb
     refine u4 kr (D_e (e := 9) (l := [0,1,2,3,4,5,6,7,8]) (s' := []) kr kr rfl kr z4 (z2 1 kr (U0 _ rfl rfl kr kr kr kr (ixA0 (b := hc.next) (i := i) kr (hlt)) (q9 _ rfl rfl kr kr kr (c30.ld (o := i) kr ((E2 hlt).trans (by rw [if_neg (Nat.lt_irrefl i)]))) (z2 1 kr (U8 (nv ((k % 64 : Nat) : Int)) rfl kr rfl kr (ev_bin (o := _) rfl kr kr (qj9 (b := 63))) (U8 (uv (2 ^ (k % 64))) rfl kr rfl kr (ev_bin (o := _) rfl kr kr ((zy1 (k := .i64) (a := 1) (s := k % 64) (by omega)).trans (by rw [shl_1 (by omega)]))) (U8 (uv (2 ^ (k % 64) - 1)) rfl kr rfl kr (ev_bin (o := _) rfl kr kr (sub_u (b := 1) (Nat.pow_pos (by decide)) (xy7 (by omega)))) (U8 (uv (word X i &&& (2 ^ (k % 64) - 1))) rfl kr rfl kr (ev_bin (o := _) rfl kr kr (uv5 (qz1 X i) (Nat.lt_of_le_of_lt (Nat.sub_le _ _) (xy7 (by omega))))) (U0 _ rfl rfl kr kr kr kr (ixA0 (b := hc.next) (i := i) kr (hlt)) (z5 ?_)))))))))))
     obtain ⟨h33, e33, d33, t33, n33⟩ := c30.store (P := Tryz.prog) (T := 24) (o := i) (v := uv (word X i &&& (2 ^ (k % 64) - 1))) kr rfl rfl (by rw [u5]; exact hlt)
     rw [qk4 hlt, xk4 _ (left_1 hq)] at d33
     replace c2 := c2.sn t33
     replace c30 := d33
     have T33 := T32.tr t33
     have N33 := T33.nx
     refine Q3 _ rfl rfl rfl kr kr (e33) ?_
     refine q5 ⟨rfl, ?_⟩
     refine D_l (l := []) kr kr z4 (z5 (q6 (L_i ((i : Int)) (1) (nv ((i + 1 : Nat) : Int)) rfl rfl kr kr rfl (Z4 (by omega)) (L_g 1 kr (q5 ?_)))))
     exact ⟨36 - (i + 1), by omega, i + 1, (by omega), rfl, kr, kr, kr, kr, kr, T33, c2, c30⟩
    ·
     have hq : ¬ i = k / 64 := by simpa using hb
     refine z1 2 kr (L_p (nv ((k / 64 : Nat) : Int)) rfl (ev_bin (o := _) rfl kr kr (qk0 (b := 63) (by omega))) (L_i ((i : Int)) (((k / 64 : Nat) : Int)) (.bool (decide (k / 64 < i))) rfl rfl kr kr rfl (gtII _ _) (L_g 1 kr (q5 ?_))))
     refine Q0 (decide (k / 64 < i)) kr (fun hb => ?_) (fun hb => ?_)
     ·
      have hq2 : k / 64 < i := by simpa using hb
      refine Z3 1 kr (Z8 _ rfl rfl kr kr (ixA0 (b := hc.next) (i := i) kr (hlt)) ?_)
      obtain ⟨h34, e34, d34, t34, n34⟩ := c30.store (P := Tryz.prog) (T := 24) (o := i) (v := uv 0) kr rfl rfl (by rw [u5]; exact hlt)
      rw [qk4 hlt, xk4 _ (left_2 hq hq2)] at d34
      replace c2 := c2.sn t34
      replace c30 := d34
      have T34 := T32.tr t34
      have N34 := T34.nx
      refine Q3 _ rfl rfl rfl kr kr (e34) (q5 (q6 (L_i ((i : Int)) (1) (nv ((i + 1 : Nat) : Int)) rfl rfl kr kr rfl (Z4 (by omega)) (L_g 1 kr (q5 ?_)))))
      exact ⟨36 - (i + 1), by omega, i + 1, (by omega), rfl, kr, kr, kr, kr, kr, T34, c2, c30⟩
     ·
      have hq2 : ¬ k / 64 < i := by simpa using hb
      rw [left_n (left_3 hq hq2)] at c30
      refine z6 (q6 (L_i ((i : Int)) (1) (nv ((i + 1 : Nat) : Int)) rfl rfl kr kr rfl (Z4 (by omega)) (L_g 1 kr (q5 ?_))))
      exact ⟨36 - (i + 1), by omega, i + 1, (by omega), rfl, kr, kr, kr, kr, kr, T32, c2, c30⟩
   ·
    have hge : i = 36 := by simp at hb; omega
    subst hge
    rw [uz9] at c30
    refine J8 ?_
    refine rx ?_
    refine Q7 (z1 1 kr (L_p (nv ((k - 1 : Nat) : Int)) rfl (ev_bin (o := _) rfl kr kr (qj2 (a := k) (b := 1) (by omega) (by omega))) (L_c rfl rfl kr (qk5 (m := 1) (k := k - 1) (by decide) (by omega)) ?_)))
    rintro v35 h35 ⟨e35, t35⟩
    try dsimp only at e35 t35
    subst e35
    replace c30 := c30.ext t35
    have T35 := T32.ext t35
    have N35 := T35.nx
    have M35 := t35.nx
    refine Q1 (wl (fun _ => 0)) .ptr rfl rfl kr fun h36 c36 t36 n36 => ?_
    replace c30 := c30.ext t36
    have T36 := T35.ext t36
    have N36 := T36.nx
    obtain ⟨h37, e37, d37, t37, n37⟩ := Cl.storeN (P := Tryz.prog) (T := 79) (n := 36) (v := .agg ⟨(wl (word (1 * 2 ^ (k - 1))))⟩) (cs := (wl (word (1 * 2 ^ (k - 1))))) c36 (u5 _) kr rfl (u5 _) K7
    replace c30 := c30.sn t37
    replace c36 := d37
    have T37 := T36.tr t37
    have N37 := T37.nx
    refine Q3 _ rfl rfl rfl kr kr (e37) (q5 (q7 (z1 1 kr (q5 (u3 ?_)))))
    refine J5 (fun mm fr hh => ∃ (i : Nat) (kk : Int), (i ≤ 36) /\ (kk = (i : Int) - 1) /\ (hiC (word X) k = cmpW (leftW (word X) k) (word (1 * 2 ^ (k - 1))) i) /\ mm = i /\ fr 6 = uv (hiM (word X) k) /\ fr 7 = ptr (hc.next) /\ fr 9 = ptr (h35.next) /\ fr 10 = .int .i64 kk /\ Sm Nix h hh /\ Cl hh (hc.next) (wl (leftW (word X) k)) /\ Cl hh (h35.next) (wl (word (1 * 2 ^ (k - 1))))) (36) ?_ ?_
    ·
     exact ⟨36, _, (by decide), rfl, (hiC_n hk0), rfl, kr, kr, kr, kr, T37, c30, c36⟩
    rintro mm38 fr38 h38 ⟨i, kk, hi, hk, hl, hm38, y38_6, y38_7, y38_9, y38_10, T38, c30, c36⟩
    have N38 := T38.nx
    have B38_t7 := c30.lt
    have B38_t9 := c36.lt
    refine j8 (k := 6) y38_6 (j8 (k := 7) y38_7 (j8 (k := 9) y38_9 (j8 (k := 10) y38_10 (q7 (z1 1 kr (L_i (kk) (0) (.bool (decide ((0 : Int) ≤ kk))) rfl rfl kr kr rfl (rfl) (q5 ?_)))))))
    refine Q0 (decide ((0 : Int) ≤ kk)) kr (fun hb => ?_) (fun hb => ?_)
    ·
     have hk9 : 0 ≤ kk := by simpa using hb
     obtain ⟨j, rfl⟩ : ∃ j : Nat, kk = j := ⟨i - 1, by omega⟩
     obtain rfl : i = j + 1 := by omega
     have hlt : j < 36 := by omega
     refine z6 (q7 (u3 (u3 (q7 (u4 kr (D_l (l := [0,1,2,3,4,5,6,7]) kr kr z4 (z2 1 kr (U0 _ rfl rfl kr kr kr kr (ixA0 (b := hc.next) (i := j) kr (hlt)) (q9 _ rfl rfl kr kr kr (c30.ld (o := j) kr (E2 hlt)) (z2 1 kr (U0 _ rfl rfl kr kr kr kr (ixA0 (b := h35.next) (i := j) kr (hlt)) ?_)))))))))))
     refine q9 _ rfl rfl kr kr kr (c36.ld (o := j) kr (E2 hlt)) (U8 (.bool (decide (leftW (word X) k j < word (1 * 2 ^ (k - 1)) j))) rfl kr rfl kr (ev_bin (o := _) rfl kr kr (lt_u rfl)) (z2 1 kr (z5 ?_)))
     refine Q0 (decide (leftW (word X) k j < word (1 * 2 ^ (k - 1)) j)) kr (fun hb => ?_) (fun hb => ?_)
     ·
      refine z1 3 kr (q5 (j7 ?_))
      refine rr ?_
      refine z0 (v := .tuple ⟨[uv ((hiM (word X) k)), .int .i64 (-1)]⟩) (.inl rfl) kr ?_
      exact ⟨by rw [(hl.trans (cmp_lt hb))], T38⟩
     ·
      have hb1 := hb
      refine q7 (u4 kr (D_l (l := [0,1,2,3,4,5,6,7]) kr kr z4 (z2 1 kr (U0 _ rfl rfl kr kr kr kr (ixA0 (b := hc.next) (i := j) kr (hlt)) (q9 _ rfl rfl kr kr kr (c30.ld (o := j) kr (E2 hlt)) (z2 1 kr (U0 _ rfl rfl kr kr kr kr (ixA0 (b := h35.next) (i := j) kr (hlt)) (q9 _ rfl rfl kr kr kr (c36.ld (o := j) kr (E2 hlt)) (U8 (.bool (decide (word (1 * 2 ^ (k - 1)) j < leftW (word X) k j))) rfl kr rfl kr (ev_bin (o := _) rfl kr kr (gt_u rfl)) (z2 1 kr (z5 ?_)))))))))))
      refine Q0 (decide (word (1 * 2 ^ (k - 1)) j < leftW (word X) k j)) kr (fun hb => ?_) (fun hb => ?_)
      ·
       refine z1 3 kr (q5 (j7 ?_))
       refine rr ?_
       refine z0 (v := .tuple ⟨[uv ((hiM (word X) k)), .int .i64 (1)]⟩) (.inl rfl) kr ?_
       exact ⟨by rw [(hl.trans (cmp_gt hb1 hb))], T38⟩
      ·
       refine z6 (Z3 1 kr (L_i ((j : Int)) (1) (.int .i64 ((j : Int) - 1)) rfl rfl kr kr rfl (decI (by omega)) (L_g 1 kr (q5 ?_))))
       exact ⟨j, by omega, j, (j : Int) - 1, by omega, rfl, hl.trans (cmp_n hb1 hb), rfl, kr, kr, kr, kr, T38, c30, c36⟩
    ·
     have hk9 : ¬ 0 ≤ kk := by simpa using hb
     obtain rfl : i = 0 := by omega
     refine J8 ?_
     refine rx ?_
     refine Q7 (z1 3 kr (q5 (j7 ?_)))
     refine rr ?_
     refine z0 (v := .tuple ⟨[uv ((hiM (word X) k)), .int .i64 (0)]⟩) (.inl rfl) kr ?_
     exact ⟨by rw [(show hiC (word X) k = 0 from hl)], T38⟩
end
end Go.Proofs.YtjealfplbigphaaGreat
namespace Go.Proofs.YtjealfplbigphaaGreat
noncomputable section
open Go Go.X Go.Arm Go.Mt Go.Nu
theorem zx5 {h : AH} {x : Nat} (hx : x < 1000000000) : aConv Tryz.prog 3 24 (nv (x : Int)) h = some (uv x) := by
 have e : aConv Tryz.prog 3 24 (nv (x : Int)) h = some (.int .u64 (IntKind.u64.wrap (x : Int))) := by kernel_rfl
 rw [e, wrapU, Nat.mod_eq_of_lt (by show _ < 18446744073709551616; omega)]
theorem Qj8 {h : AH} {x : Nat} (hx : x < 1000000000) : aConv Tryz.prog 24 3 (uv x) h = some (nv (x : Int)) := by
 have e : aConv Tryz.prog 24 3 (uv x) h = some (.int .i64 (IntKind.i64.wrap (x : Int))) := by kernel_rfl
 rw [e, wrapI hx]; rfl
theorem zu3 {h : AH} {X : Nat} : Arm.Calls Tryz.prog 42 [.agg ⟨wl (word X)⟩] h (fun r => r.1 = uv (rndN X) /\ Sm Nix h r.2) := by
 refine Q5 (n := 37) (fn := Tryz.f42) kr rfl rfl (Nat.le_of_ble_eq_true rfl) trivial ⟨.inl (fun e => by cases e), rfl⟩ ?_
 have T0 : Sm Nix h h := .refl
 refine q7 (q6 (Q1 (wl (word X)) .ptr rfl rfl kr fun h39 c39 t39 n39 => ?_))
 have T39 := T0.ext t39
 have N39 := T39.nx
 refine L_g 1 kr (q5 (q7 (q6 (z9 _ rfl rfl kr (Cl.allN (n := 36) c39 (u5 _) kr) (L_c rfl rfl kr (zz0 (X := X)) ?_)))))
 rintro v40 h40 ⟨e40, t40⟩
 try dsimp only at e40 t40
 subst e40
 replace c39 := c39.ext t40
 have T40 := T39.ext t40
 have N40 := T40.nx
 have M40 := t40.nx
 refine L_i ((lenN X : Int)) (53) (.int .i64 ((lenN X : Int) - 53)) rfl rfl kr kr rfl (sub53 (by have := qg3 X; omega)) (V9 (nv (((lenN X - 53) : Nat) : Int)) _ rfl rfl kr (vs := [nv 0, .int .i64 ((lenN X : Int) - 53)]) kr (qx9.trans (by rw [Qy5]; rfl)) (L_g 1 kr (q5 (q7 (z1 1 kr (L_i ((((lenN X - 53) : Nat) : Int)) (2045) (.bool (decide (2045 < (lenN X - 53)))) rfl rfl kr kr rfl (gtII _ 2045) (q5 ?_)))))))
 refine Q0 (decide (2045 < (lenN X - 53))) kr (fun hb => ?_) (fun hb => ?_)
 ·
  have hk0 : 2045 < (lenN X - 53) := by simpa using hb
  refine z1 1 kr (q5 (j7 ?_))
  refine rr ?_
  refine z0 (v := uv (inf)) (.inl rfl) kr ?_
  exact ⟨by rw [Qq2 hk0], T40⟩
 ·
  have hk0 : ¬ 2045 < (lenN X - 53) := by simpa using hb
  refine z6 (q7 (q6 (z9 _ rfl rfl kr (Cl.allN (n := 36) c39 (u5 _) kr) (L_g 1 kr (L_c rfl rfl kr (Qx1 (X := X) (k := (lenN X - 53)) (by omega)) ?_)))))
  rintro v41 h41 ⟨e41, t41⟩
  try dsimp only at e41 t41
  subst e41
  have T41 := T40.ext t41
  have N41 := T41.nx
  have M41 := t41.nx
  refine L_g 5 kr (q5 (q7 (q7 ?_)))
  rcases jk0 (hiM (word X) (lenN X - 53)) (hiC (word X) (lenN X - 53)) with ⟨h1, hu⟩ | ⟨h1, h2, h3, hu⟩ | ⟨h1, h2, h3, hu⟩ | ⟨h1, h2, hu⟩
  ·
   refine Z3 1 kr (L_i ((hiC (word X) (lenN X - 53))) (0) (.bool true) rfl rfl kr kr rfl (congrArg Value.bool (decide_eq_true h1)) (L_g 9 kr (q5 (U7 kr (Z3 1 kr (L_p (uv ((hiM (word X) (lenN X - 53) + 1) % BB)) rfl (ev_bin (o := _) rfl kr kr (zg9 (b := 1))) (L_g 1 kr (q5 (q7 ?_)))))))))
   refine Z3 1 kr (L_p (uv (lenN X - 53)) rfl (ev_conv (o := _) rfl kr (zx5 (by have := qg3 X; omega))) (L_p (uv ((lenN X - 53) * 2 ^ 52 % BB)) rfl (ev_bin (o := _) rfl kr kr (zy1 (k := .u64) (s := 52) (by decide))) (L_g 1 kr (L_p (uv (((lenN X - 53) * 2 ^ 52 % BB + ((hiM (word X) (lenN X - 53) + 1) % BB)) % BB)) rfl (ev_bin (o := _) rfl kr kr (zg9)) (V9 (uv (min inf (((lenN X - 53) * 2 ^ 52 % BB + ((hiM (word X) (lenN X - 53) + 1) % BB)) % BB))) _ rfl rfl kr (vs := [uv inf, uv (((lenN X - 53) * 2 ^ 52 % BB + ((hiM (word X) (lenN X - 53) + 1) % BB)) % BB)]) kr (yy9.trans (by rw [xk0])) (L_g 1 kr (q5 (j7 ?_))))))))
   refine rr ?_
   refine z0 (v := uv (min inf (((lenN X - 53) * 2 ^ 52 % BB + ((hiM (word X) (lenN X - 53) + 1) % BB)) % BB))) (.inl rfl) kr ?_
   exact ⟨by rw [jg2 hk0 hu], T41⟩
  ·
   refine Z3 1 kr (L_i ((hiC (word X) (lenN X - 53))) (0) (.bool false) rfl rfl kr kr rfl (congrArg Value.bool (decide_eq_false h1)) (L_g 2 kr (u9 kr (L_i ((hiC (word X) (lenN X - 53))) (0) (.bool true) rfl rfl kr kr rfl (congrArg Value.bool (beq_iff_eq.2 h2)) (L_g 2 kr (u9 kr (L_p (uv ((hiM (word X) (lenN X - 53)) % 2)) rfl (ev_bin (o := _) rfl kr kr (rem_u (b := 1))) (u9 kr (L_p (.bool true) rfl (ev_bin (o := _) rfl kr kr (yk8 (b := 1) (decide_eq_true h3))) (L_g 2 kr ?_))))))))))
   refine q5 (U7 kr (Z3 1 kr (L_p (uv ((hiM (word X) (lenN X - 53) + 1) % BB)) rfl (ev_bin (o := _) rfl kr kr (zg9 (b := 1))) (L_g 1 kr (q5 (z1 1 kr (L_p (uv (lenN X - 53)) rfl (ev_conv (o := _) rfl kr (zx5 (by have := qg3 X; omega))) (L_p (uv ((lenN X - 53) * 2 ^ 52 % BB)) rfl (ev_bin (o := _) rfl kr kr (zy1 (k := .u64) (s := 52) (by decide))) ?_))))))))
   refine L_g 1 kr (L_p (uv (((lenN X - 53) * 2 ^ 52 % BB + ((hiM (word X) (lenN X - 53) + 1) % BB)) % BB)) rfl (ev_bin (o := _) rfl kr kr (zg9)) (V9 (uv (min inf (((lenN X - 53) * 2 ^ 52 % BB + ((hiM (word X) (lenN X - 53) + 1) % BB)) % BB))) _ rfl rfl kr (vs := [uv inf, uv (((lenN X - 53) * 2 ^ 52 % BB + ((hiM (word X) (lenN X - 53) + 1) % BB)) % BB)]) kr (yy9.trans (by rw [xk0])) (L_g 1 kr (q5 (j7 ?_)))))
   refine rr ?_
   refine z0 (v := uv (min inf (((lenN X - 53) * 2 ^ 52 % BB + ((hiM (word X) (lenN X - 53) + 1) % BB)) % BB))) (.inl rfl) kr ?_
   exact ⟨by rw [jg2 hk0 hu], T41⟩
  ·
   refine Z3 1 kr (L_i ((hiC (word X) (lenN X - 53))) (0) (.bool false) rfl rfl kr kr rfl (congrArg Value.bool (decide_eq_false h1)) (L_g 2 kr (u9 kr (L_i ((hiC (word X) (lenN X - 53))) (0) (.bool true) rfl rfl kr kr rfl (congrArg Value.bool (beq_iff_eq.2 h2)) (L_g 2 kr (u9 kr (L_p (uv ((hiM (word X) (lenN X - 53)) % 2)) rfl (ev_bin (o := _) rfl kr kr (rem_u (b := 1))) (u9 kr (L_p (.bool false) rfl (ev_bin (o := _) rfl kr kr (yk8 (b := 1) (decide_eq_false h3))) (L_g 2 kr ?_))))))))))
   refine q5 (Q2 kr (z6 (z1 1 kr (L_p (uv (lenN X - 53)) rfl (ev_conv (o := _) rfl kr (zx5 (by have := qg3 X; omega))) (L_p (uv ((lenN X - 53) * 2 ^ 52 % BB)) rfl (ev_bin (o := _) rfl kr kr (zy1 (k := .u64) (s := 52) (by decide))) (L_g 1 kr (L_p (uv (((lenN X - 53) * 2 ^ 52 % BB + (hiM (word X) (lenN X - 53))) % BB)) rfl (ev_bin (o := _) rfl kr kr (zg9)) (V9 (uv (min inf (((lenN X - 53) * 2 ^ 52 % BB + (hiM (word X) (lenN X - 53))) % BB))) _ rfl rfl kr (vs := [uv inf, uv (((lenN X - 53) * 2 ^ 52 % BB + (hiM (word X) (lenN X - 53))) % BB)]) kr (yy9.trans (by rw [xk0])) (L_g 1 kr ?_)))))))))
   refine q5 (j7 ?_)
   refine rr ?_
   refine z0 (v := uv (min inf (((lenN X - 53) * 2 ^ 52 % BB + (hiM (word X) (lenN X - 53))) % BB))) (.inl rfl) kr ?_
   exact ⟨by rw [jg3 hk0 hu], T41⟩
  ·
   refine Z3 1 kr (L_i ((hiC (word X) (lenN X - 53))) (0) (.bool false) rfl rfl kr kr rfl (congrArg Value.bool (decide_eq_false h1)) (L_g 2 kr (u9 kr (L_i ((hiC (word X) (lenN X - 53))) (0) (.bool false) rfl rfl kr kr rfl (congrArg Value.bool (beq_eq_false_iff_ne.2 h2)) (L_g 6 kr (q5 (Q2 kr (z6 (q7 (q6 ?_))))))))))
   refine L_g 1 kr (L_p (uv (lenN X - 53)) rfl (ev_conv (o := _) rfl kr (zx5 (by have := qg3 X; omega))) (L_p (uv ((lenN X - 53) * 2 ^ 52 % BB)) rfl (ev_bin (o := _) rfl kr kr (zy1 (k := .u64) (s := 52) (by decide))) (L_g 1 kr (L_p (uv (((lenN X - 53) * 2 ^ 52 % BB + (hiM (word X) (lenN X - 53))) % BB)) rfl (ev_bin (o := _) rfl kr kr (zg9)) (V9 (uv (min inf (((lenN X - 53) * 2 ^ 52 % BB + (hiM (word X) (lenN X - 53))) % BB))) _ rfl rfl kr (vs := [uv inf, uv (((lenN X - 53) * 2 ^ 52 % BB + (hiM (word X) (lenN X - 53))) % BB)]) kr (yy9.trans (by rw [xk0])) (L_g 1 kr (q5 (j7 ?_))))))))
   refine rr ?_
   refine z0 (v := uv (min inf (((lenN X - 53) * 2 ^ 52 % BB + (hiM (word X) (lenN X - 53))) % BB))) (.inl rfl) kr ?_
   exact ⟨by rw [jg3 hk0 hu], T41⟩
end
end Go.Proofs.YtjealfplbigphaaGreat
namespace Go.Proofs.YtjealfplbigphaaGreat
noncomputable section
open Go Go.X Go.Arm Go.Mt Go.Nu
theorem one_ok {h : AH} {b : Nat} (hb0 : b < BB) : Arm.Calls Tryz.prog 24 [uv b] h (fun r => r.1 = .agg ⟨(oneB b).cells⟩ /\ Sm Nix h r.2) := by
 have hb1 : b < 18446744073709551616 := hb0
 refine Q5 (n := 56) (fn := Tryz.f24) kr rfl rfl (Nat.le_of_ble_eq_true rfl) trivial ⟨.inl (fun e => by cases e), rfl⟩ ?_
 have T0 : Sm Nix h h := .refl
 refine q7 (q6 (Q1 (Sa.cells Sa.z) .ptr rfl rfl kr fun h42 c42 t42 n42 => ?_))
 have T42 := T0.ext t42
 have N42 := T42.nx
 refine q5 (q7 (q6 (L_p (.agg ⟨(Sa.cells ⟨0, false, false, false, 2⟩)⟩) rfl kr (Q1 (Sa.cells Sa.z) .ptr rfl rfl kr fun h43 c43 t43 n43 => ?_))))
 replace c42 := c42.ext t43
 have T43 := T42.ext t43
 have N43 := T43.nx
 obtain ⟨h44, e44, d44, t44, n44⟩ := Cl.storeN (P := Tryz.prog) (T := 81) (n := 40) (v := .agg ⟨(Sa.cells ⟨0, false, false, false, 2⟩)⟩) (cs := (Sa.cells ⟨0, false, false, false, 2⟩)) c43 (j6) kr rfl (j6) J2
 replace c42 := c42.sn t44
 replace c43 := d44
 have T44 := T43.tr t44
 have N44 := T44.nx
 refine Q3 _ rfl rfl rfl kr kr (e44) (q5 (z1 1 kr (L_p (uv (b / 2 ^ 52)) rfl (ev_bin (o := _) rfl kr kr (qj3 (k := .u64) (s := 52) (by decide))) (L_p (uv (b / 2 ^ 52 % 2048)) rfl (ev_bin (o := _) rfl kr kr (and_m (m := 2047) 11 (Nat.lt_of_le_of_lt (Nat.div_le_self _ _) hb0) (by decide) (by decide))) (L_p (nv ((b / 2 ^ 52 % 2048 : Nat) : Int)) rfl (ev_conv (o := _) rfl kr (Qj8 (by omega))) (L_g 1 kr (L_p (uv (b % 2 ^ 52)) rfl (ev_bin (o := _) rfl kr kr (and_m (m := 4503599627370495) 52 hb0 (by decide) (by decide))) (L_g 2 kr (q5 ?_)))))))))
 refine q7 (u3 (z1 1 kr (L_c rfl rfl kr (ux0 hb0) ?_)))
 rintro v45 h45 ⟨e45, t45⟩
 try dsimp only at e45 t45
 subst e45
 replace c42 := c42.ext t45
 replace c43 := c43.ext t45
 have T45 := T44.ext t45
 have N45 := T45.nx
 have M45 := t45.nx
 refine L_g 1 kr (q5 ?_)
 refine Q0 (nanB b) kr (fun hb => ?_) (fun hb => ?_)
 ·
  refine q7 (q6 (L_g 1 kr ?_))
  obtain ⟨h46, e46, d46, t46, n46⟩ := c43.store (P := Tryz.prog) (T := 4) (o := 36) (v := .bool true) kr rfl rfl (by rw [j6]; decide)
  rw [yw4] at d46
  replace c42 := c42.sn t46
  replace c43 := d46
  have T46 := T45.tr t46
  have N46 := T46.nx
  refine Q3 _ rfl rfl rfl kr kr (e46) (q5 (q7 (q6 (z9 _ rfl rfl kr (Cl.allN (n := 40) c43 (j6) kr) ?_))))
  obtain ⟨h47, e47, d47, t47, n47⟩ := Cl.storeN (P := Tryz.prog) (T := 81) (n := 40) (v := .agg ⟨(Sa.cells ⟨0, true, false, false, 2⟩)⟩) (cs := (Sa.cells ⟨0, true, false, false, 2⟩)) c42 (j6) kr rfl (j6) J2
  replace c42 := d47
  have T47 := T46.tr t47
  have N47 := T47.nx
  refine Q3 _ rfl rfl rfl kr kr (e47) (q5 (j7 ?_))
  refine rr ?_
  refine z0 (.inl rfl) (E4 kr kr (Cl.allN (n := 40) c42 j6 kr)) ?_
  exact ⟨by rw [Qz9 hb], T47⟩
 ·
  have hn := hb
  refine z1 1 kr (L_p (uv (b % 9223372036854775808)) rfl (ev_bin (o := _) rfl kr kr (yg5 hb0)) (L_p (.bool (decide (b % 9223372036854775808 = 9218868437227405312))) rfl (ev_bin (o := _) rfl kr kr (yk8 (b := 9218868437227405312) rfl)) (L_g 1 kr (q5 ?_))))
  refine Q0 (decide (b % 9223372036854775808 = 9218868437227405312)) kr (fun hb => ?_) (fun hb => ?_)
  ·
   refine z1 1 kr (L_p (uv (sgb b)) rfl (ev_bin (o := _) rfl kr kr (xg4 hb0)) (L_p (.bool (decide (b < sgn))) rfl (ev_bin (o := _) rfl kr kr (yk8 (b := 0) (jw6 b))) (L_g 1 kr (L_p (uv (sgb b)) rfl (ev_bin (o := _) rfl kr kr (xg4 hb0)) (L_p (.bool (decide (sgn ≤ b))) rfl (ev_bin (o := _) rfl kr kr (ne_u (b := 0) (xz7 b))) (L_g 1 kr ?_))))))
   obtain ⟨h48, e48, d48, t48, n48⟩ := c43.store (P := Tryz.prog) (T := 4) (o := 37) (v := .bool (decide (b < sgn))) kr rfl rfl (by rw [j6]; decide)
   rw [yw3] at d48
   replace c42 := c42.sn t48
   replace c43 := d48
   have T48 := T45.tr t48
   have N48 := T48.nx
   refine Q3 _ rfl rfl rfl kr kr (e48) (L_g 1 kr ?_)
   obtain ⟨h49, e49, d49, t49, n49⟩ := c43.store (P := Tryz.prog) (T := 4) (o := 38) (v := .bool (decide (sgn ≤ b))) kr rfl rfl (by rw [j6]; decide)
   rw [yw5] at d49
   replace c42 := c42.sn t49
   replace c43 := d49
   have T49 := T48.tr t49
   have N49 := T49.nx
   refine Q3 _ rfl rfl rfl kr kr (e49) (q5 (q7 (q6 (z9 _ rfl rfl kr (Cl.allN (n := 40) c43 (j6) kr) ?_))))
   obtain ⟨h50, e50, d50, t50, n50⟩ := Cl.storeN (P := Tryz.prog) (T := 81) (n := 40) (v := .agg ⟨(Sa.cells ⟨0, false, decide (b < sgn), decide (sgn ≤ b), 2⟩)⟩) (cs := (Sa.cells ⟨0, false, decide (b < sgn), decide (sgn ≤ b), 2⟩)) c42 (j6) kr rfl (j6) J2
   replace c42 := d50
   have T50 := T49.tr t50
   have N50 := T50.nx
   refine Q3 _ rfl rfl rfl kr kr (e50) (q5 (j7 ?_))
   refine rr ?_
   refine z0 (.inl rfl) (E4 kr kr (Cl.allN (n := 40) c42 j6 kr)) ?_
   exact ⟨by rw [Qy0 hn hb], T50⟩
  ·
   have hi := hb
   refine z1 1 kr (L_p (.bool (decide (b = 9223372036854775808))) rfl (ev_bin (o := _) rfl kr kr (yk8 (b := 9223372036854775808) rfl)) (L_g 1 kr (q5 ?_)))
   refine Q0 (decide (b = 9223372036854775808)) kr (fun hb => ?_) (fun hb => ?_)
   ·
    refine q7 (q6 (L_g 1 kr ?_))
    obtain ⟨h51, e51, d51, t51, n51⟩ := c43.store (P := Tryz.prog) (T := 3) (o := 39) (v := (nv ((1 : Nat) : Int))) kr rfl rfl (by rw [j6]; decide)
    rw [yw2] at d51
    replace c42 := c42.sn t51
    replace c43 := d51
    have T51 := T45.tr t51
    have N51 := T51.nx
    refine Q3 _ rfl rfl rfl kr kr (e51) (q5 (q7 (q6 (z9 _ rfl rfl kr (Cl.allN (n := 40) c43 (j6) kr) ?_))))
    obtain ⟨h52, e52, d52, t52, n52⟩ := Cl.storeN (P := Tryz.prog) (T := 81) (n := 40) (v := .agg ⟨(Sa.cells ⟨0, false, false, false, 1⟩)⟩) (cs := (Sa.cells ⟨0, false, false, false, 1⟩)) c42 (j6) kr rfl (j6) J2
    replace c42 := d52
    have T52 := T51.tr t52
    have N52 := T52.nx
    refine Q3 _ rfl rfl rfl kr kr (e52) (q5 (j7 ?_))
    refine rr ?_
    refine z0 (.inl rfl) (E4 kr kr (Cl.allN (n := 40) c42 j6 kr)) ?_
    exact ⟨by rw [Qz8 hn hi hb], T52⟩
   ·
    have hz := hb
    refine z1 1 kr (L_i (((b / 2 ^ 52 % 2048 : Nat) : Int)) (0) (.bool (decide (b / 2 ^ 52 % 2048 = 0))) rfl rfl kr kr rfl (eqI0 _) (L_g 1 kr (q5 ?_)))
    refine Q0 (decide (b / 2 ^ 52 % 2048 = 0)) kr (fun hb => ?_) (fun hb => ?_)
    ·
     have hx : oneX b = b % 2 ^ 52 * 2 ^ 0 := if_pos (of_decide_eq_true hb)
     refine Z3 1 kr (L_c rfl rfl kr (qk5 (m := b % 2 ^ 52) (k := 0) (by show _ < 18446744073709551616; omega) (by decide)) ?_)
     rintro v53 h53 ⟨e53, t53⟩
     try dsimp only at e53 t53
     subst e53
     rw [<- hx]
     replace c42 := c42.ext t53
     replace c43 := c43.ext t53
     have T53 := T45.ext t53
     have N53 := T53.nx
     have M53 := t53.nx
     refine L_g 1 kr ?_
     obtain ⟨h54, e54, d54, t54, n54⟩ := Cl.storeAt (P := Tryz.prog) (T := 79) (o := 0) (v := .agg ⟨wl (word (oneX b))⟩) (vs := wl (word (oneX b))) c43 (by rw [u5]; kernel_rfl) rfl (by rw [u5, j6]; decide) K7
     rw [qy6] at d54
     replace c42 := c42.sn t54
     replace c43 := d54
     have T54 := T53.tr t54
     have N54 := T54.nx
     refine Q3 _ rfl rfl rfl kr kr (e54) (q5 (q7 (z1 1 kr (L_p (uv (sgb b)) rfl (ev_bin (o := _) rfl kr kr (xg4 hb0)) (L_p (.bool (decide (sgn ≤ b))) rfl (ev_bin (o := _) rfl kr kr (ne_u (b := 0) (xz7 b))) (q5 ?_))))))
     refine Q0 (decide (sgn ≤ b)) kr (fun hb => ?_) (fun hb => ?_)
     ·
      have hs : (if sgn ≤ b then negN (oneX b) else oneX b) = negN (oneX b) := if_pos (of_decide_eq_true hb)
      refine Z3 1 kr (z9 _ rfl rfl kr ((Cl.ldS (o := 0) (k := 36) c43 kr (by rw [j6]; decide)).trans (by rw [qy5])) (L_c rfl rfl kr (yz2 (X := oneX b) xv8) ?_))
      rintro v55 h55 ⟨e55, t55⟩
      try dsimp only at e55 t55
      subst e55
      replace c42 := c42.ext t55
      replace c43 := c43.ext t55
      have T55 := T54.ext t55
      have N55 := T55.nx
      have M55 := t55.nx
      refine L_g 1 kr ?_
      obtain ⟨h56, e56, d56, t56, n56⟩ := Cl.storeAt (P := Tryz.prog) (T := 79) (o := 0) (v := .agg ⟨wl (word (negN (oneX b)))⟩) (vs := wl (word (negN (oneX b)))) c43 (by rw [u5]; kernel_rfl) rfl (by rw [u5, j6]; decide) K7
      rw [qy6] at d56
      replace c42 := c42.sn t56
      replace c43 := d56
      have T56 := T55.tr t56
      have N56 := T56.nx
      refine Q3 _ rfl rfl rfl kr kr (e56) (q5 (q7 (q6 (z9 _ rfl rfl kr (Cl.allN (n := 40) c43 (j6) kr) ?_))))
      obtain ⟨h57, e57, d57, t57, n57⟩ := Cl.storeN (P := Tryz.prog) (T := 81) (n := 40) (v := .agg ⟨(Sa.cells ⟨negN (oneX b), false, false, false, 2⟩)⟩) (cs := (Sa.cells ⟨negN (oneX b), false, false, false, 2⟩)) c42 (j6) kr rfl (j6) J2
      replace c42 := d57
      have T57 := T56.tr t57
      have N57 := T57.nx
      refine Q3 _ rfl rfl rfl kr kr (e57) (q5 (j7 ?_))
      refine rr ?_
      refine z0 (.inl rfl) (E4 kr kr (Cl.allN (n := 40) c42 j6 kr)) ?_
      exact ⟨by rw [zx2 hn hi hz, hs], T57⟩
     ·
      have hs : (if sgn ≤ b then negN (oneX b) else oneX b) = oneX b := if_neg (of_decide_eq_false hb)
      refine z6 (q7 (q6 (z9 _ rfl rfl kr (Cl.allN (n := 40) c43 (j6) kr) ?_)))
      obtain ⟨h58, e58, d58, t58, n58⟩ := Cl.storeN (P := Tryz.prog) (T := 81) (n := 40) (v := .agg ⟨(Sa.cells ⟨oneX b, false, false, false, 2⟩)⟩) (cs := (Sa.cells ⟨oneX b, false, false, false, 2⟩)) c42 (j6) kr rfl (j6) J2
      replace c42 := d58
      have T58 := T54.tr t58
      have N58 := T58.nx
      refine Q3 _ rfl rfl rfl kr kr (e58) (q5 (j7 ?_))
      refine rr ?_
      refine z0 (.inl rfl) (E4 kr kr (Cl.allN (n := 40) c42 j6 kr)) ?_
      exact ⟨by rw [zx2 hn hi hz, hs], T58⟩
    ·
     have he0 : ¬ b / 2 ^ 52 % 2048 = 0 := of_decide_eq_false hb
     have hx : oneX b = (b % 2 ^ 52 + 2 ^ 52) * 2 ^ (b / 2 ^ 52 % 2048 - 1) := if_neg he0
     refine Z3 1 kr (L_p (uv (b % 2 ^ 52 + 2 ^ 52)) rfl (ev_bin (o := _) rfl kr kr (or_52 (Nat.mod_lt _ (by decide)))) (L_g 1 kr (L_p (nv ((b / 2 ^ 52 % 2048 - 1 : Nat) : Int)) rfl (ev_bin (o := _) rfl kr kr (qj2 (a := b / 2 ^ 52 % 2048) (b := 1) (by omega) (by omega))) (L_c rfl rfl kr (qk5 (m := b % 2 ^ 52 + 2 ^ 52) (k := b / 2 ^ 52 % 2048 - 1) (by show _ < 18446744073709551616; omega) (by omega)) ?_))))
     rintro v59 h59 ⟨e59, t59⟩
     try dsimp only at e59 t59
     subst e59
     rw [<- hx]
     replace c42 := c42.ext t59
     replace c43 := c43.ext t59
     have T59 := T45.ext t59
     have N59 := T59.nx
     have M59 := t59.nx
     refine L_g 1 kr ?_
     obtain ⟨h60, e60, d60, t60, n60⟩ := Cl.storeAt (P := Tryz.prog) (T := 79) (o := 0) (v := .agg ⟨wl (word (oneX b))⟩) (vs := wl (word (oneX b))) c43 (by rw [u5]; kernel_rfl) rfl (by rw [u5, j6]; decide) K7
     rw [qy6] at d60
     replace c42 := c42.sn t60
     replace c43 := d60
     have T60 := T59.tr t60
     have N60 := T60.nx
     refine Q3 _ rfl rfl rfl kr kr (e60) (q5 (q7 (z1 1 kr (L_p (uv (sgb b)) rfl (ev_bin (o := _) rfl kr kr (xg4 hb0)) (L_p (.bool (decide (sgn ≤ b))) rfl (ev_bin (o := _) rfl kr kr (ne_u (b := 0) (xz7 b))) (q5 ?_))))))
     refine Q0 (decide (sgn ≤ b)) kr (fun hb => ?_) (fun hb => ?_)
     ·
      have hs : (if sgn ≤ b then negN (oneX b) else oneX b) = negN (oneX b) := if_pos (of_decide_eq_true hb)
      refine Z3 1 kr (z9 _ rfl rfl kr ((Cl.ldS (o := 0) (k := 36) c43 kr (by rw [j6]; decide)).trans (by rw [qy5])) (L_c rfl rfl kr (yz2 (X := oneX b) xv8) ?_))
      rintro v61 h61 ⟨e61, t61⟩
      try dsimp only at e61 t61
      subst e61
      replace c42 := c42.ext t61
      replace c43 := c43.ext t61
      have T61 := T60.ext t61
      have N61 := T61.nx
      have M61 := t61.nx
      refine L_g 1 kr ?_
      obtain ⟨h62, e62, d62, t62, n62⟩ := Cl.storeAt (P := Tryz.prog) (T := 79) (o := 0) (v := .agg ⟨wl (word (negN (oneX b)))⟩) (vs := wl (word (negN (oneX b)))) c43 (by rw [u5]; kernel_rfl) rfl (by rw [u5, j6]; decide) K7
      rw [qy6] at d62
      replace c42 := c42.sn t62
      replace c43 := d62
      have T62 := T61.tr t62
      have N62 := T62.nx
      refine Q3 _ rfl rfl rfl kr kr (e62) (q5 (q7 (q6 (z9 _ rfl rfl kr (Cl.allN (n := 40) c43 (j6) kr) ?_))))
      obtain ⟨h63, e63, d63, t63, n63⟩ := Cl.storeN (P := Tryz.prog) (T := 81) (n := 40) (v := .agg ⟨(Sa.cells ⟨negN (oneX b), false, false, false, 2⟩)⟩) (cs := (Sa.cells ⟨negN (oneX b), false, false, false, 2⟩)) c42 (j6) kr rfl (j6) J2
      replace c42 := d63
      have T63 := T62.tr t63
      have N63 := T63.nx
      refine Q3 _ rfl rfl rfl kr kr (e63) (q5 (j7 ?_))
      refine rr ?_
      refine z0 (.inl rfl) (E4 kr kr (Cl.allN (n := 40) c42 j6 kr)) ?_
      exact ⟨by rw [zx2 hn hi hz, hs], T63⟩
     ·
      have hs : (if sgn ≤ b then negN (oneX b) else oneX b) = oneX b := if_neg (of_decide_eq_false hb)
      refine z6 (q7 (q6 (z9 _ rfl rfl kr (Cl.allN (n := 40) c43 (j6) kr) ?_)))
      obtain ⟨h64, e64, d64, t64, n64⟩ := Cl.storeN (P := Tryz.prog) (T := 81) (n := 40) (v := .agg ⟨(Sa.cells ⟨oneX b, false, false, false, 2⟩)⟩) (cs := (Sa.cells ⟨oneX b, false, false, false, 2⟩)) c42 (j6) kr rfl (j6) J2
      replace c42 := d64
      have T64 := T60.tr t64
      have N64 := T64.nx
      refine Q3 _ rfl rfl rfl kr kr (e64) (q5 (j7 ?_))
      refine rr ?_
      refine z0 (.inl rfl) (E4 kr kr (Cl.allN (n := 40) c42 j6 kr)) ?_
      exact ⟨by rw [zx2 hn hi hz, hs], T64⟩
end
end Go.Proofs.YtjealfplbigphaaGreat
