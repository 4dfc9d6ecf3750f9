/- Worlds of the program and walks of its functions. -/
import Derived.Test.YtmehemeoaplepaaZn
namespace Go.Proofs.Ytmehemeoaplepaa
noncomputable section
open Go Go.X Go.Arm Go.Mt
theorem sum_nat {a b : Nat} {d : By} (h : a * b < big) (hl : d.length < big) : Value.int .i64 (IntKind.i64.wrap (((List.map bv d).length : Int) + IntKind.i64.wrap ((a : Int) * (b : Int)))) = nv ((d.length + a * b : Nat) : Int) := by
 have h1 : a * b < 1000000000 := h
 have hl : d.length < 1000000000 := hl
 rw [wrap_nat h, List.length_map]
 have : IntKind.i64.wrap ((d.length : Int) + ((a * b : Nat) : Int)) = ((d.length + a * b : Nat) : Int) := by rw [IntKind.wrap_i64]; omega
 rw [this]; rfl
set_option maxHeartbeats 4000000 in
theorem start_ok {W : Wd} {G : Gh} {h : AH} {p no : Nat} {d : By} {s : Value} {W' : Wd} (R : Rep W G h) (hp : p < W.n) (hr : G.C (.rq p no) ≠ .no) (H : Rb h s (d.map bv)) (he : W.start p no d = some W') :
   Arm.Calls Try.prog 45 [ptr (G.B .wd), nv (p : Int), ptr (G.B (.rq p no)), s] h (fun r => Nxt W' G h r.2) := by
 unfold Wd.start at he
 dsimp only at he
 split at he
 · cases he
 rename_i hguard
 obtain ⟨hsm, hld, hlm, hroom⟩ := Classical.not_not.1 hguard
 have hsm : (W.rq p no).parts * (W.rq p no).size < big := hsm
 split at he
 · rename_i hsend
   have hsend : (W.rq p no).send = true := hsend
   refine Calls_of_W (n := 116) (fn := Try.f45) kr rfl rfl (Nat.le_of_ble_eq_true rfl) trivial ⟨.inr (by simp), rfl⟩ ?_
   have T0 : Sm Nix h h := .refl
   refine W_seq ?_
   refine W_region ?_
   refine L_nw (Al.cells [ptr (G.B (.rq p no))]) .ptr rfl rfl kr ?_
   have m129 : ¬ (Gh.mut G) h.next ∧ ¬ (Gh.ro G) h.next := ⟨(R.ext T0).op.new (Nat.le_refl _), (R.ext T0).op.newr (Nat.le_refl _)⟩
   have c129 : Cl (h.push (Al.cells [ptr (G.B (.rq p no))]).obj) h.next [ptr (G.B (.rq p no))] := Cl.new h _
   have t129 : Sm Nix h (h.push (Al.cells [ptr (G.B (.rq p no))]).obj) := .push h _
   have n129 : (h.push (Al.cells [ptr (G.B (.rq p no))]).obj).next = h.next + 1 := rfl
   generalize h.push (Al.cells [ptr (G.B (.rq p no))]).obj = h129 at c129 t129 n129 ⊢
   have T129 : Sm Nix h h129 := T0.ext t129
   have N129 := T129.nx
   refine L_nil ?_
   refine W_seq ?_
   refine W_drawn kr ?_
   refine D_e (e := 6) (l := [0, 1, 2, 3, 4, 5]) (s' := [0, 1, 2, 3, 4]) kr kr rfl kr Rk_nil ?_
   refine NS_ld _ rfl rfl kr kr kr (c129.ld (o := 0) kr rfl) ?_
   refine NS_ld _ rfl rfl kr kr kr (c129.ld (o := 0) kr rfl) ?_
   refine NS_ld _ rfl rfl kr kr kr (c129.ld (o := 0) kr rfl) ?_
   refine NS_ld _ rfl rfl kr kr kr (c129.ld (o := 0) kr rfl) ?_
   refine NS_b 2 kr ?_
   refine NS_nil ?_
   refine L_c rfl rfl kr (clone_by (H.ext T129) (bv_one d) (by rw [List.length_map]; exact hld)) ?_
   rintro v130 h130 ⟨r130, k130, t130, f130, s130⟩
   dsimp only at r130 k130 t130 f130 s130
   obtain ⟨R130, X130⟩ := (R.ext T129).more (Q := fun b => vb v130 = some b) t130 (fun b hb => (f130 b hb).1) (fun b hb => (f130 b hb).2)
   obtain ⟨va130, vc130, ev130⟩ := r130.form
   subst ev130
   have hdv : Dr h130 (G.more (fun b => vb (Value.slice va130 (List.map bv d).length vc130) = some b)).ro (.slice va130 (List.map bv d).length vc130) d := ⟨r130, fun b hb => .inr hb⟩
   have mZ6 : ¬ (Gh.mut (G.more (fun b => vb (Value.slice va130 (List.map bv d).length vc130) = some b))) (h.next) ∧ ¬ (Gh.ro (G.more (fun b => vb (Value.slice va130 (List.map bv d).length vc130) = some b))) (h.next) := ⟨fun hm => by obtain ⟨r, q1, q2⟩ := hm; rw [V_more] at q2; exact m129.1 ⟨r, q1, q2⟩, fun hm => hm.elim m129.2 (fun e => by have := (f130 _ e).1; have := c129.lt; omega)⟩
   have X130x := (Gx.of T129).trans X130
   replace c129 := c129.ext t130
   have T130 : Sm Nix h130 h130 := .refl
   refine L_nil ⟨rfl, ?_⟩
   refine D_e (e := 9) (l := [7, 8]) (s' := [1, 2, 3, 4]) kr kr rfl kr (Rk_ld _ rfl rfl rfl kr (c129.ld (o := 0) kr rfl) kr (Rk_ld _ rfl rfl rfl kr (c129.ld (o := 0) kr rfl) kr (Rk_ld _ rfl rfl rfl kr (c129.ld (o := 0) kr rfl) kr (Rk_ld _ rfl rfl rfl kr (c129.ld (o := 0) kr rfl) kr (Rk_1 rfl rfl Rk_nil))))) ?_
   refine NS_b 2 kr ?_
   refine NS_nil ?_
   obtain ⟨dv9, hd9, c9⟩ := (R130.ext T130).rqL hp hr
   replace c9 : Cl h130 (Gh.B (Gh.more G (fun b => vb (Value.slice va130 (List.map bv d).length vc130) = some b)) (.rq p no)) [nk (W.rq p no).no, nv (W.rq p no).peer, nv (W.rq p no).ctx, nv (W.rq p no).tag, nv (W.rq p no).room, .bool (W.rq p no).send, .bool (W.rq p no).sync, .bool (W.rq p no).pers, .bool (W.rq p no).act, .bool (W.rq p no).done, nk (W.rq p no).parts, nk (W.rq p no).size, dv9, (Gh.more G (fun b => vb (Value.slice va130 (List.map bv d).length vc130) = some b)).S (.pcs p no), nk (W.rq p no).gone, (Gh.more G (fun b => vb (Value.slice va130 (List.map bv d).length vc130) = some b)).S (.snt p no), .bool (W.rq p no).clr, nv (W.rq p no).st.src, nv (W.rq p no).st.tag, nv (W.rq p no).st.size, nv (W.rq p no).st.err] := c9
   obtain ⟨h131, e131, d131, t131, n131⟩ := c9.store (P := Try.prog) (T := 4) (o := 8) (v := .bool true) kr rfl rfl (by simp)
   have N131 : Nxt (W.setRq p no { (W.rq p no) with act := true }) (Gh.more G (fun b => vb (Value.slice va130 (List.map bv d).length vc130) = some b)) h130 h131 := (R130.ext T130).stRq hp hr (r := { (W.rq p no) with act := true }) hd9 d131 t131 rfl rfl rfl
   clear hd9
   refine L_st _ rfl rfl rfl kr kr (e131) ?_
   obtain ⟨S131, C131, ro131, R131, Y131⟩ := N131
   have X131 := ((X130x).trans (Gx.of T130)).trans Y131
   have hr_131 := (Y131.keep _ hr).1
   have hdv_131 := Dr.mono0 hdv (Gx.dr Y131 (R130.ext T130).op)
   have mZ6_131 : ¬ (Gh.mut ⟨Gh.B (Gh.more G (fun b => vb (Value.slice va130 (List.map bv d).length vc130) = some b)), S131, C131, ro131⟩) (h.next) ∧ ¬ (Gh.ro ⟨Gh.B (Gh.more G (fun b => vb (Value.slice va130 (List.map bv d).length vc130) = some b)), S131, C131, ro131⟩) (h.next) := ⟨fun hm => (Y131.mu _ hm).elim mZ6.1 (fun e => by have := c129.lt; omega), fun hm => (Y131.ron _ hm).elim mZ6.2 (fun e => by have := c129.lt; omega)⟩
   replace c129 := c129.sm Y131.sm mZ6.1
   have T131 : Sm (Ow h (⟨Gh.B (Gh.more G (fun b => vb (Value.slice va130 (List.map bv d).length vc130) = some b)), S131, C131, ro131⟩ : Gh)) h131 h131 := .refl
   refine L_nil ⟨rfl, ?_⟩
   refine D_e (e := 12) (l := [10, 11]) (s' := [2, 3, 4]) kr kr rfl kr (Rk_ld _ rfl rfl rfl kr (c129.ld (o := 0) kr rfl) kr (Rk_ld _ rfl rfl rfl kr (c129.ld (o := 0) kr rfl) kr (Rk_ld _ rfl rfl rfl kr (c129.ld (o := 0) kr rfl) kr (Rk_1 rfl rfl Rk_nil)))) ?_
   refine NS_b 2 kr ?_
   refine NS_nil ?_
   obtain ⟨dv9, hd9, c9⟩ := (R131.ow T131).rqL hp hr_131
   replace c9 : Cl h131 (Gh.B (⟨Gh.B (Gh.more G (fun b => vb (Value.slice va130 (List.map bv d).length vc130) = some b)), S131, C131, ro131⟩ : Gh) (.rq p no)) [nk ((W.setRq p no { (W.rq p no) with act := true }).rq p no).no, nv ((W.setRq p no { (W.rq p no) with act := true }).rq p no).peer, nv ((W.setRq p no { (W.rq p no) with act := true }).rq p no).ctx, nv ((W.setRq p no { (W.rq p no) with act := true }).rq p no).tag, nv ((W.setRq p no { (W.rq p no) with act := true }).rq p no).room, .bool ((W.setRq p no { (W.rq p no) with act := true }).rq p no).send, .bool ((W.setRq p no { (W.rq p no) with act := true }).rq p no).sync, .bool ((W.setRq p no { (W.rq p no) with act := true }).rq p no).pers, .bool ((W.setRq p no { (W.rq p no) with act := true }).rq p no).act, .bool ((W.setRq p no { (W.rq p no) with act := true }).rq p no).done, nk ((W.setRq p no { (W.rq p no) with act := true }).rq p no).parts, nk ((W.setRq p no { (W.rq p no) with act := true }).rq p no).size, dv9, (⟨Gh.B (Gh.more G (fun b => vb (Value.slice va130 (List.map bv d).length vc130) = some b)), S131, C131, ro131⟩ : Gh).S (.pcs p no), nk ((W.setRq p no { (W.rq p no) with act := true }).rq p no).gone, (⟨Gh.B (Gh.more G (fun b => vb (Value.slice va130 (List.map bv d).length vc130) = some b)), S131, C131, ro131⟩ : Gh).S (.snt p no), .bool ((W.setRq p no { (W.rq p no) with act := true }).rq p no).clr, nv ((W.setRq p no { (W.rq p no) with act := true }).rq p no).st.src, nv ((W.setRq p no { (W.rq p no) with act := true }).rq p no).st.tag, nv ((W.setRq p no { (W.rq p no) with act := true }).rq p no).st.size, nv ((W.setRq p no { (W.rq p no) with act := true }).rq p no).st.err] := c9
   obtain ⟨h132, e132, d132, t132, n132⟩ := c9.store (P := Try.prog) (T := 4) (o := 9) (v := .bool false) kr rfl rfl (by simp)
   have N132 : Nxt ((W.setRq p no { (W.rq p no) with act := true }).setRq p no { ((W.setRq p no { (W.rq p no) with act := true }).rq p no) with done := false }) (⟨Gh.B (Gh.more G (fun b => vb (Value.slice va130 (List.map bv d).length vc130) = some b)), S131, C131, ro131⟩ : Gh) h131 h132 := (R131.ow T131).stRq hp hr_131 (r := { ((W.setRq p no { (W.rq p no) with act := true }).rq p no) with done := false }) hd9 d132 t132 rfl rfl rfl
   clear hd9
   refine L_st _ rfl rfl rfl kr kr (e132) ?_
   obtain ⟨S132, C132, ro132, R132, Y132⟩ := N132
   have X132 := ((X131).ow T131).trans Y132
   have hr_132 := (Y132.keep _ hr_131).1
   have hdv_132 := Dr.mono0 hdv_131 (Gx.dr Y132 (R131.ow T131).op)
   have mZ6_131_132 : ¬ (Gh.mut ⟨Gh.B (⟨Gh.B (Gh.more G (fun b => vb (Value.slice va130 (List.map bv d).length vc130) = some b)), S131, C131, ro131⟩ : Gh), S132, C132, ro132⟩) (h.next) ∧ ¬ (Gh.ro ⟨Gh.B (⟨Gh.B (Gh.more G (fun b => vb (Value.slice va130 (List.map bv d).length vc130) = some b)), S131, C131, ro131⟩ : Gh), S132, C132, ro132⟩) (h.next) := ⟨fun hm => (Y132.mu _ hm).elim mZ6_131.1 (fun e => by have := c129.lt; omega), fun hm => (Y132.ron _ hm).elim mZ6_131.2 (fun e => by have := c129.lt; omega)⟩
   replace c129 := c129.sm Y132.sm mZ6_131.1
   have T132 : Sm (Ow h (⟨Gh.B (⟨Gh.B (Gh.more G (fun b => vb (Value.slice va130 (List.map bv d).length vc130) = some b)), S131, C131, ro131⟩ : Gh), S132, C132, ro132⟩ : Gh)) h132 h132 := .refl
   refine L_nil ⟨rfl, ?_⟩
   refine D_e (e := 15) (l := [13, 14]) (s' := [3]) kr kr rfl kr (Rk_ld _ rfl rfl rfl kr (c129.ld (o := 0) kr rfl) kr (Rk_ld _ rfl rfl rfl kr (c129.ld (o := 0) kr rfl) kr (Rk_1 rfl rfl Rk_nil))) ?_
   refine NS_b 2 kr ?_
   refine NS_nil ?_
   obtain ⟨dv9, hd9, c9⟩ := (R132.ow T132).rqL hp hr_132
   replace c9 : Cl h132 (Gh.B (⟨Gh.B (⟨Gh.B (Gh.more G (fun b => vb (Value.slice va130 (List.map bv d).length vc130) = some b)), S131, C131, ro131⟩ : Gh), S132, C132, ro132⟩ : Gh) (.rq p no)) [nk (((W.setRq p no { (W.rq p no) with act := true }).setRq p no { ((W.setRq p no { (W.rq p no) with act := true }).rq p no) with done := false }).rq p no).no, nv (((W.setRq p no { (W.rq p no) with act := true }).setRq p no { ((W.setRq p no { (W.rq p no) with act := true }).rq p no) with done := false }).rq p no).peer, nv (((W.setRq p no { (W.rq p no) with act := true }).setRq p no { ((W.setRq p no { (W.rq p no) with act := true }).rq p no) with done := false }).rq p no).ctx, nv (((W.setRq p no { (W.rq p no) with act := true }).setRq p no { ((W.setRq p no { (W.rq p no) with act := true }).rq p no) with done := false }).rq p no).tag, nv (((W.setRq p no { (W.rq p no) with act := true }).setRq p no { ((W.setRq p no { (W.rq p no) with act := true }).rq p no) with done := false }).rq p no).room, .bool (((W.setRq p no { (W.rq p no) with act := true }).setRq p no { ((W.setRq p no { (W.rq p no) with act := true }).rq p no) with done := false }).rq p no).send, .bool (((W.setRq p no { (W.rq p no) with act := true }).setRq p no { ((W.setRq p no { (W.rq p no) with act := true }).rq p no) with done := false }).rq p no).sync, .bool (((W.setRq p no { (W.rq p no) with act := true }).setRq p no { ((W.setRq p no { (W.rq p no) with act := true }).rq p no) with done := false }).rq p no).pers, .bool (((W.setRq p no { (W.rq p no) with act := true }).setRq p no { ((W.setRq p no { (W.rq p no) with act := true }).rq p no) with done := false }).rq p no).act, .bool (((W.setRq p no { (W.rq p no) with act := true }).setRq p no { ((W.setRq p no { (W.rq p no) with act := true }).rq p no) with done := false }).rq p no).done, nk (((W.setRq p no { (W.rq p no) with act := true }).setRq p no { ((W.setRq p no { (W.rq p no) with act := true }).rq p no) with done := false }).rq p no).parts, nk (((W.setRq p no { (W.rq p no) with act := true }).setRq p no { ((W.setRq p no { (W.rq p no) with act := true }).rq p no) with done := false }).rq p no).size, dv9, (⟨Gh.B (⟨Gh.B (Gh.more G (fun b => vb (Value.slice va130 (List.map bv d).length vc130) = some b)), S131, C131, ro131⟩ : Gh), S132, C132, ro132⟩ : Gh).S (.pcs p no), nk (((W.setRq p no { (W.rq p no) with act := true }).setRq p no { ((W.setRq p no { (W.rq p no) with act := true }).rq p no) with done := false }).rq p no).gone, (⟨Gh.B (⟨Gh.B (Gh.more G (fun b => vb (Value.slice va130 (List.map bv d).length vc130) = some b)), S131, C131, ro131⟩ : Gh), S132, C132, ro132⟩ : Gh).S (.snt p no), .bool (((W.setRq p no { (W.rq p no) with act := true }).setRq p no { ((W.setRq p no { (W.rq p no) with act := true }).rq p no) with done := false }).rq p no).clr, nv (((W.setRq p no { (W.rq p no) with act := true }).setRq p no { ((W.setRq p no { (W.rq p no) with act := true }).rq p no) with done := false }).rq p no).st.src, nv (((W.setRq p no { (W.rq p no) with act := true }).setRq p no { ((W.setRq p no { (W.rq p no) with act := true }).rq p no) with done := false }).rq p no).st.tag, nv (((W.setRq p no { (W.rq p no) with act := true }).setRq p no { ((W.setRq p no { (W.rq p no) with act := true }).rq p no) with done := false }).rq p no).st.size, nv (((W.setRq p no { (W.rq p no) with act := true }).setRq p no { ((W.setRq p no { (W.rq p no) with act := true }).rq p no) with done := false }).rq p no).st.err] := c9
   obtain ⟨h133, e133, d133, t133, n133⟩ := c9.storeAt (P := Try.prog) (T := 43) (o := 17) (v := .agg ⟨[nv 0, nv 0, nv 0, nv 0]⟩) (vs := [nv 0, nv 0, nv 0, nv 0]) kr rfl (by simp) (List.all_eq_true.1 rfl)
   have N133 : Nxt (((W.setRq p no { (W.rq p no) with act := true }).setRq p no { ((W.setRq p no { (W.rq p no) with act := true }).rq p no) with done := false }).setRq p no { (((W.setRq p no { (W.rq p no) with act := true }).setRq p no { ((W.setRq p no { (W.rq p no) with act := true }).rq p no) with done := false }).rq p no) with st := St.z }) (⟨Gh.B (⟨Gh.B (Gh.more G (fun b => vb (Value.slice va130 (List.map bv d).length vc130) = some b)), S131, C131, ro131⟩ : Gh), S132, C132, ro132⟩ : Gh) h132 h133 := (R132.ow T132).stRq hp hr_132 (r := { (((W.setRq p no { (W.rq p no) with act := true }).setRq p no { ((W.setRq p no { (W.rq p no) with act := true }).rq p no) with done := false }).rq p no) with st := St.z }) hd9 d133 t133 rfl rfl rfl
   clear hd9
   refine L_st _ rfl rfl rfl kr kr (e133) ?_
   obtain ⟨S133, C133, ro133, R133, Y133⟩ := N133
   have X133 := ((X132).ow T132).trans Y133
   have hr_133 := (Y133.keep _ hr_132).1
   have hdv_133 := Dr.mono0 hdv_132 (Gx.dr Y133 (R132.ow T132).op)
   have mZ6_131_132_133 : ¬ (Gh.mut ⟨Gh.B (⟨Gh.B (⟨Gh.B (Gh.more G (fun b => vb (Value.slice va130 (List.map bv d).length vc130) = some b)), S131, C131, ro131⟩ : Gh), S132, C132, ro132⟩ : Gh), S133, C133, ro133⟩) (h.next) ∧ ¬ (Gh.ro ⟨Gh.B (⟨Gh.B (⟨Gh.B (Gh.more G (fun b => vb (Value.slice va130 (List.map bv d).length vc130) = some b)), S131, C131, ro131⟩ : Gh), S132, C132, ro132⟩ : Gh), S133, C133, ro133⟩) (h.next) := ⟨fun hm => (Y133.mu _ hm).elim mZ6_131_132.1 (fun e => by have := c129.lt; omega), fun hm => (Y133.ron _ hm).elim mZ6_131_132.2 (fun e => by have := c129.lt; omega)⟩
   replace c129 := c129.sm Y133.sm mZ6_131_132.1
   have T133 : Sm (Ow h (⟨Gh.B (⟨Gh.B (⟨Gh.B (Gh.more G (fun b => vb (Value.slice va130 (List.map bv d).length vc130) = some b)), S131, C131, ro131⟩ : Gh), S132, C132, ro132⟩ : Gh), S133, C133, ro133⟩ : Gh)) h133 h133 := .refl
   refine L_nil ⟨rfl, ?_⟩
   refine D_e (e := 18) (l := [16, 17]) (s' := []) kr kr rfl kr (Rk_ld _ rfl rfl rfl kr (c129.ld (o := 0) kr rfl) kr Rk_nil) ?_
   refine NS_b 2 kr ?_
   refine NS_nil ?_
   obtain ⟨dv9, hd9, c9⟩ := (R133.ow T133).rqL hp hr_133
   replace c9 : Arm.Cl h133 (Gh.B (⟨Gh.B (⟨Gh.B (⟨Gh.B (Gh.more G (fun b => vb (Value.slice va130 (List.map bv d).length vc130) = some b)), S131, C131, ro131⟩ : Gh), S132, C132, ro132⟩ : Gh), S133, C133, ro133⟩ : Gh) (.rq p no)) [nk ((((W.setRq p no { (W.rq p no) with act := true }).setRq p no { ((W.setRq p no { (W.rq p no) with act := true }).rq p no) with done := false }).setRq p no { (((W.setRq p no { (W.rq p no) with act := true }).setRq p no { ((W.setRq p no { (W.rq p no) with act := true }).rq p no) with done := false }).rq p no) with st := St.z }).rq p no).no, nv ((((W.setRq p no { (W.rq p no) with act := true }).setRq p no { ((W.setRq p no { (W.rq p no) with act := true }).rq p no) with done := false }).setRq p no { (((W.setRq p no { (W.rq p no) with act := true }).setRq p no { ((W.setRq p no { (W.rq p no) with act := true }).rq p no) with done := false }).rq p no) with st := St.z }).rq p no).peer, nv ((((W.setRq p no { (W.rq p no) with act := true }).setRq p no { ((W.setRq p no { (W.rq p no) with act := true }).rq p no) with done := false }).setRq p no { (((W.setRq p no { (W.rq p no) with act := true }).setRq p no { ((W.setRq p no { (W.rq p no) with act := true }).rq p no) with done := false }).rq p no) with st := St.z }).rq p no).ctx, nv ((((W.setRq p no { (W.rq p no) with act := true }).setRq p no { ((W.setRq p no { (W.rq p no) with act := true }).rq p no) with done := false }).setRq p no { (((W.setRq p no { (W.rq p no) with act := true }).setRq p no { ((W.setRq p no { (W.rq p no) with act := true }).rq p no) with done := false }).rq p no) with st := St.z }).rq p no).tag, nv ((((W.setRq p no { (W.rq p no) with act := true }).setRq p no { ((W.setRq p no { (W.rq p no) with act := true }).rq p no) with done := false }).setRq p no { (((W.setRq p no { (W.rq p no) with act := true }).setRq p no { ((W.setRq p no { (W.rq p no) with act := true }).rq p no) with done := false }).rq p no) with st := St.z }).rq p no).room, .bool ((((W.setRq p no { (W.rq p no) with act := true }).setRq p no { ((W.setRq p no { (W.rq p no) with act := true }).rq p no) with done := false }).setRq p no { (((W.setRq p no { (W.rq p no) with act := true }).setRq p no { ((W.setRq p no { (W.rq p no) with act := true }).rq p no) with done := false }).rq p no) with st := St.z }).rq p no).send, .bool ((((W.setRq p no { (W.rq p no) with act := true }).setRq p no { ((W.setRq p no { (W.rq p no) with act := true }).rq p no) with done := false }).setRq p no { (((W.setRq p no { (W.rq p no) with act := true }).setRq p no { ((W.setRq p no { (W.rq p no) with act := true }).rq p no) with done := false }).rq p no) with st := St.z }).rq p no).sync, .bool ((((W.setRq p no { (W.rq p no) with act := true }).setRq p no { ((W.setRq p no { (W.rq p no) with act := true }).rq p no) with done := false }).setRq p no { (((W.setRq p no { (W.rq p no) with act := true }).setRq p no { ((W.setRq p no { (W.rq p no) with act := true }).rq p no) with done := false }).rq p no) with st := St.z }).rq p no).pers, .bool ((((W.setRq p no { (W.rq p no) with act := true }).setRq p no { ((W.setRq p no { (W.rq p no) with act := true }).rq p no) with done := false }).setRq p no { (((W.setRq p no { (W.rq p no) with act := true }).setRq p no { ((W.setRq p no { (W.rq p no) with act := true }).rq p no) with done := false }).rq p no) with st := St.z }).rq p no).act, .bool ((((W.setRq p no { (W.rq p no) with act := true }).setRq p no { ((W.setRq p no { (W.rq p no) with act := true }).rq p no) with done := false }).setRq p no { (((W.setRq p no { (W.rq p no) with act := true }).setRq p no { ((W.setRq p no { (W.rq p no) with act := true }).rq p no) with done := false }).rq p no) with st := St.z }).rq p no).done, nk ((((W.setRq p no { (W.rq p no) with act := true }).setRq p no { ((W.setRq p no { (W.rq p no) with act := true }).rq p no) with done := false }).setRq p no { (((W.setRq p no { (W.rq p no) with act := true }).setRq p no { ((W.setRq p no { (W.rq p no) with act := true }).rq p no) with done := false }).rq p no) with st := St.z }).rq p no).parts, nk ((((W.setRq p no { (W.rq p no) with act := true }).setRq p no { ((W.setRq p no { (W.rq p no) with act := true }).rq p no) with done := false }).setRq p no { (((W.setRq p no { (W.rq p no) with act := true }).setRq p no { ((W.setRq p no { (W.rq p no) with act := true }).rq p no) with done := false }).rq p no) with st := St.z }).rq p no).size, dv9, (⟨Gh.B (⟨Gh.B (⟨Gh.B (Gh.more G (fun b => vb (Value.slice va130 (List.map bv d).length vc130) = some b)), S131, C131, ro131⟩ : Gh), S132, C132, ro132⟩ : Gh), S133, C133, ro133⟩ : Gh).S (.pcs p no), nk ((((W.setRq p no { (W.rq p no) with act := true }).setRq p no { ((W.setRq p no { (W.rq p no) with act := true }).rq p no) with done := false }).setRq p no { (((W.setRq p no { (W.rq p no) with act := true }).setRq p no { ((W.setRq p no { (W.rq p no) with act := true }).rq p no) with done := false }).rq p no) with st := St.z }).rq p no).gone, (⟨Gh.B (⟨Gh.B (⟨Gh.B (Gh.more G (fun b => vb (Value.slice va130 (List.map bv d).length vc130) = some b)), S131, C131, ro131⟩ : Gh), S132, C132, ro132⟩ : Gh), S133, C133, ro133⟩ : Gh).S (.snt p no), .bool ((((W.setRq p no { (W.rq p no) with act := true }).setRq p no { ((W.setRq p no { (W.rq p no) with act := true }).rq p no) with done := false }).setRq p no { (((W.setRq p no { (W.rq p no) with act := true }).setRq p no { ((W.setRq p no { (W.rq p no) with act := true }).rq p no) with done := false }).rq p no) with st := St.z }).rq p no).clr, nv ((((W.setRq p no { (W.rq p no) with act := true }).setRq p no { ((W.setRq p no { (W.rq p no) with act := true }).rq p no) with done := false }).setRq p no { (((W.setRq p no { (W.rq p no) with act := true }).setRq p no { ((W.setRq p no { (W.rq p no) with act := true }).rq p no) with done := false }).rq p no) with st := St.z }).rq p no).st.src, nv ((((W.setRq p no { (W.rq p no) with act := true }).setRq p no { ((W.setRq p no { (W.rq p no) with act := true }).rq p no) with done := false }).setRq p no { (((W.setRq p no { (W.rq p no) with act := true }).setRq p no { ((W.setRq p no { (W.rq p no) with act := true }).rq p no) with done := false }).rq p no) with st := St.z }).rq p no).st.tag, nv ((((W.setRq p no { (W.rq p no) with act := true }).setRq p no { ((W.setRq p no { (W.rq p no) with act := true }).rq p no) with done := false }).setRq p no { (((W.setRq p no { (W.rq p no) with act := true }).setRq p no { ((W.setRq p no { (W.rq p no) with act := true }).rq p no) with done := false }).rq p no) with st := St.z }).rq p no).st.size, nv ((((W.setRq p no { (W.rq p no) with act := true }).setRq p no { ((W.setRq p no { (W.rq p no) with act := true }).rq p no) with done := false }).setRq p no { (((W.setRq p no { (W.rq p no) with act := true }).setRq p no { ((W.setRq p no { (W.rq p no) with act := true }).rq p no) with done := false }).rq p no) with st := St.z }).rq p no).st.err] := c9
   obtain ⟨h134, e134, d134, t134, n134⟩ := c9.store (P := Try.prog) (T := 23) (o := 12) (v := .slice va130 (List.map bv d).length vc130) kr rfl rfl (by simp)
   have N134 : Nxt (((((W.setRq p no { (W.rq p no) with act := true }).setRq p no { ((W.setRq p no { (W.rq p no) with act := true }).rq p no) with done := false }).setRq p no { (((W.setRq p no { (W.rq p no) with act := true }).setRq p no { ((W.setRq p no { (W.rq p no) with act := true }).rq p no) with done := false }).rq p no) with st := St.z }).setRq p no { ((((W.setRq p no { (W.rq p no) with act := true }).setRq p no { ((W.setRq p no { (W.rq p no) with act := true }).rq p no) with done := false }).setRq p no { (((W.setRq p no { (W.rq p no) with act := true }).setRq p no { ((W.setRq p no { (W.rq p no) with act := true }).rq p no) with done := false }).rq p no) with st := St.z }).rq p no) with data := d })) (⟨Gh.B (⟨Gh.B (⟨Gh.B (Gh.more G (fun b => vb (Value.slice va130 (List.map bv d).length vc130) = some b)), S131, C131, ro131⟩ : Gh), S132, C132, ro132⟩ : Gh), S133, C133, ro133⟩ : Gh) h133 h134 := by
    have := (R133.ow T133).setRq hp hr_133 (r := { ((((W.setRq p no { (W.rq p no) with act := true }).setRq p no { ((W.setRq p no { (W.rq p no) with act := true }).rq p no) with done := false }).setRq p no { (((W.setRq p no { (W.rq p no) with act := true }).setRq p no { ((W.setRq p no { (W.rq p no) with act := true }).rq p no) with done := false }).rq p no) with st := St.z }).rq p no) with data := d }) (dv := .slice va130 (List.map bv d).length vc130) d134 t134 (fun k hk => .inl hk) (((R133.ow T133).op.dr (t134.mono fun k hk => ⟨.rq p no, hr_133, by subst hk; rfl⟩)) _ _ hdv_133) rfl rfl
    exact ⟨_, _, _, this⟩
   clear hd9
   refine L_st _ rfl rfl rfl kr kr (e134) ?_
   obtain ⟨S134, C134, ro134, R134, Y134⟩ := N134
   have X134 := ((X133).ow T133).trans Y134
   have hr_134 := (Y134.keep _ hr_133).1
   have hdv_134 := Dr.mono0 hdv_133 (Gx.dr Y134 (R133.ow T133).op)
   have mZ6_131_132_133_134 : ¬ (Gh.mut ⟨Gh.B (⟨Gh.B (⟨Gh.B (⟨Gh.B (Gh.more G (fun b => vb (Value.slice va130 (List.map bv d).length vc130) = some b)), S131, C131, ro131⟩ : Gh), S132, C132, ro132⟩ : Gh), S133, C133, ro133⟩ : Gh), S134, C134, ro134⟩) (h.next) ∧ ¬ (Gh.ro ⟨Gh.B (⟨Gh.B (⟨Gh.B (⟨Gh.B (Gh.more G (fun b => vb (Value.slice va130 (List.map bv d).length vc130) = some b)), S131, C131, ro131⟩ : Gh), S132, C132, ro132⟩ : Gh), S133, C133, ro133⟩ : Gh), S134, C134, ro134⟩) (h.next) := ⟨fun hm => (Y134.mu _ hm).elim mZ6_131_132_133.1 (fun e => by have := c129.lt; omega), fun hm => (Y134.ron _ hm).elim mZ6_131_132_133.2 (fun e => by have := c129.lt; omega)⟩
   replace c129 := c129.sm Y134.sm mZ6_131_132_133.1
   have T134 : Sm (Ow h (⟨Gh.B (⟨Gh.B (⟨Gh.B (⟨Gh.B (Gh.more G (fun b => vb (Value.slice va130 (List.map bv d).length vc130) = some b)), S131, C131, ro131⟩ : Gh), S132, C132, ro132⟩ : Gh), S133, C133, ro133⟩ : Gh), S134, C134, ro134⟩ : Gh)) h134 h134 := .refl
   have eW : ((((W.setRq p no { (W.rq p no) with act := true }).setRq p no { ((W.setRq p no { (W.rq p no) with act := true }).rq p no) with done := false }).setRq p no { (((W.setRq p no { (W.rq p no) with act := true }).setRq p no { ((W.setRq p no { (W.rq p no) with act := true }).rq p no) with done := false }).rq p no) with st := St.z }).setRq p no { ((((W.setRq p no { (W.rq p no) with act := true }).setRq p no { ((W.setRq p no { (W.rq p no) with act := true }).rq p no) with done := false }).setRq p no { (((W.setRq p no { (W.rq p no) with act := true }).setRq p no { ((W.setRq p no { (W.rq p no) with act := true }).rq p no) with done := false }).rq p no) with st := St.z }).rq p no) with data := d }) = W.setRq p no { W.rq p no with act := true, done := false, st := St.z, data := d } := by simp only [Wd.setRq_at, Wd.setRq_setRq]
   rw [eW] at R134
   have eR : (W.setRq p no { W.rq p no with act := true, done := false, st := St.z, data := d }).rq p no = { W.rq p no with act := true, done := false, st := St.z, data := d } := Wd.setRq_at _ _ _ _
   obtain ⟨dvz, hdz, cz⟩ := R134.rqL (p := p) hp hr_134
   rw [eR] at hdz cz
   replace cz : Arm.Cl h134 (G.B (.rq p no)) [nk (W.rq p no).no, nv (W.rq p no).peer, nv (W.rq p no).ctx, nv (W.rq p no).tag, nv (W.rq p no).room, .bool (W.rq p no).send, .bool (W.rq p no).sync, .bool (W.rq p no).pers, .bool true, .bool false, nk (W.rq p no).parts, nk (W.rq p no).size, dvz, (⟨G.B, S134, C134, ro134⟩ : Gh).S (.pcs p no), nk (W.rq p no).gone, (⟨G.B, S134, C134, ro134⟩ : Gh).S (.snt p no), .bool (W.rq p no).clr, nv 0, nv 0, nv 0, nv 0] := cz
   have l6 := c129.lt
   refine L_nil ⟨rfl, ?_⟩
   refine D_l (l := []) kr kr Rk_nil ?_
   refine NS_nil ?_
   refine W_seq ?_
   refine W_drawn kr ?_
   refine D_e (e := 27) (l := [0, 1, 2, 3, 4, 5, 6, 7, 8, 9, 10, 11, 12, 13, 14, 15, 16, 17, 18, 19, 20, 21, 22, 23, 24, 25, 26]) (s' := []) kr kr rfl kr Rk_nil ?_
   refine NS_b 1 kr ?_
   refine NS_ld _ rfl rfl kr kr kr (c129.ld (o := 0) kr rfl) ?_
   refine NS_b 2 kr ?_
   refine NS_ld _ rfl rfl kr kr kr ((cz.sm T134 (fun hx => hx.2.1 ⟨.rq p no, hr_134, rfl⟩)).ld (o := 2) kr rfl) ?_
   refine NS_ld _ rfl rfl kr kr kr (c129.ld (o := 0) kr rfl) ?_
   refine NS_b 2 kr ?_
   refine NS_ld _ rfl rfl kr kr kr ((cz.sm T134 (fun hx => hx.2.1 ⟨.rq p no, hr_134, rfl⟩)).ld (o := 3) kr rfl) ?_
   refine NS_b 1 kr ?_
   refine NS_ln _ rfl rfl kr kr kr (H.lenA (T := 23) (el := 5) kr _) ?_
   refine NS_ld _ rfl rfl kr kr kr (c129.ld (o := 0) kr rfl) ?_
   refine NS_b 2 kr ?_
   refine NS_ld _ rfl rfl kr kr kr ((cz.sm T134 (fun hx => hx.2.1 ⟨.rq p no, hr_134, rfl⟩)).ld (o := 10) kr rfl) ?_
   refine NS_ld _ rfl rfl kr kr kr (c129.ld (o := 0) kr rfl) ?_
   refine NS_b 2 kr ?_
   refine NS_ld _ rfl rfl kr kr kr ((cz.sm T134 (fun hx => hx.2.1 ⟨.rq p no, hr_134, rfl⟩)).ld (o := 11) kr rfl) ?_
   refine NS_v (.int .i64 (IntKind.i64.wrap (((W.rq p no).parts : Int) * ((W.rq p no).size : Int)))) rfl kr rfl kr kr ?_
   refine NS_i (((List.map bv d).length : Int)) (IntKind.i64.wrap (((W.rq p no).parts : Int) * ((W.rq p no).size : Int))) (nv ((d.length + (W.rq p no).parts * (W.rq p no).size : Nat) : Int)) rfl rfl kr kr kr kr rfl (sum_nat hsm hld) ?_
   refine NS_ld _ rfl rfl kr kr kr (c129.ld (o := 0) kr rfl) ?_
   refine NS_b 2 kr ?_
   refine NS_ld _ rfl rfl kr kr kr ((cz.sm T134 (fun hx => hx.2.1 ⟨.rq p no, hr_134, rfl⟩)).ld (o := 10) kr rfl) ?_
   refine NS_b 1 kr ?_
   refine NS_newR (Al.cells [nv 0, nv 0, nv 0, nv 0, nv 0]) .ptr rfl kr rfl rfl kr (Rk_1 rfl rfl (Rk_ld _ rfl rfl rfl kr ((c129.ext (.push h134 _)).ld (o := 0) kr rfl) kr (Rk_1 rfl rfl (Rk_1 rfl rfl (Rk_ld _ rfl rfl rfl kr ((cz.sm (T134.ext (.push h134 _)) (fun hx => hx.2.1 ⟨.rq p no, hr_134, rfl⟩)).ld (o := 2) kr rfl) kr (Rk_ld _ rfl rfl rfl kr ((c129.ext (.push h134 _)).ld (o := 0) kr rfl) kr (Rk_1 rfl rfl (Rk_1 rfl rfl (Rk_ld _ rfl rfl rfl kr ((cz.sm (T134.ext (.push h134 _)) (fun hx => hx.2.1 ⟨.rq p no, hr_134, rfl⟩)).ld (o := 3) kr rfl) kr (Rk_1 rfl rfl (Rk_ln _ rfl rfl rfl kr (H.lenA (T := 23) (el := 5) kr _) kr (Rk_ld _ rfl rfl rfl kr ((c129.ext (.push h134 _)).ld (o := 0) kr rfl) kr (Rk_1 rfl rfl (Rk_1 rfl rfl (Rk_ld _ rfl rfl rfl kr ((cz.sm (T134.ext (.push h134 _)) (fun hx => hx.2.1 ⟨.rq p no, hr_134, rfl⟩)).ld (o := 10) kr rfl) kr (Rk_ld _ rfl rfl rfl kr ((c129.ext (.push h134 _)).ld (o := 0) kr rfl) kr (Rk_1 rfl rfl (Rk_1 rfl rfl (Rk_ld _ rfl rfl rfl kr ((cz.sm (T134.ext (.push h134 _)) (fun hx => hx.2.1 ⟨.rq p no, hr_134, rfl⟩)).ld (o := 11) kr rfl) kr (Rk_v (v := (.int .i64 (IntKind.i64.wrap (((W.rq p no).parts : Int) * ((W.rq p no).size : Int))))) rfl rfl kr kr (Rk_i (((List.map bv d).length : Int)) (IntKind.i64.wrap (((W.rq p no).parts : Int) * ((W.rq p no).size : Int))) (nv ((d.length + (W.rq p no).parts * (W.rq p no).size : Nat) : Int)) rfl rfl rfl kr kr rfl (sum_nat hsm hld) kr (Rk_ld _ rfl rfl rfl kr ((c129.ext (.push h134 _)).ld (o := 0) kr rfl) kr (Rk_1 rfl rfl (Rk_1 rfl rfl (Rk_ld _ rfl rfl rfl kr ((cz.sm (T134.ext (.push h134 _)) (fun hx => hx.2.1 ⟨.rq p no, hr_134, rfl⟩)).ld (o := 10) kr rfl) kr (Rk_1 rfl rfl (Rk_1 rfl rfl Rk_nil))))))))))))))))))))))))))) ?_
   have m135 : ¬ (Gh.mut (⟨Gh.B (⟨Gh.B (⟨Gh.B (⟨Gh.B (Gh.more G (fun b => vb (Value.slice va130 (List.map bv d).length vc130) = some b)), S131, C131, ro131⟩ : Gh), S132, C132, ro132⟩ : Gh), S133, C133, ro133⟩ : Gh), S134, C134, ro134⟩ : Gh)) h134.next ∧ ¬ (Gh.ro (⟨Gh.B (⟨Gh.B (⟨Gh.B (⟨Gh.B (Gh.more G (fun b => vb (Value.slice va130 (List.map bv d).length vc130) = some b)), S131, C131, ro131⟩ : Gh), S132, C132, ro132⟩ : Gh), S133, C133, ro133⟩ : Gh), S134, C134, ro134⟩ : Gh)) h134.next := ⟨(R134.ow T134).op.new (Nat.le_refl _), (R134.ow T134).op.newr (Nat.le_refl _)⟩
   have l135_t6 := c129.lt
   have c135 : Cl (h134.push (Al.cells [nv 0, nv 0, nv 0, nv 0, nv 0]).obj) h134.next [nv 0, nv 0, nv 0, nv 0, nv 0] := Cl.new h134 _
   have t135 : Sm Nix h134 (h134.push (Al.cells [nv 0, nv 0, nv 0, nv 0, nv 0]).obj) := .push h134 _
   have n135 : (h134.push (Al.cells [nv 0, nv 0, nv 0, nv 0, nv 0]).obj).next = h134.next + 1 := rfl
   generalize h134.push (Al.cells [nv 0, nv 0, nv 0, nv 0, nv 0]).obj = h135 at c135 t135 n135 ⊢
   replace c129 := c129.ext t135
   have T135 : Sm (Ow h (⟨Gh.B (⟨Gh.B (⟨Gh.B (⟨Gh.B (Gh.more G (fun b => vb (Value.slice va130 (List.map bv d).length vc130) = some b)), S131, C131, ro131⟩ : Gh), S132, C132, ro132⟩ : Gh), S133, C133, ro133⟩ : Gh), S134, C134, ro134⟩ : Gh)) h134 h135 := T134.ext t135
   have N135 := T135.nx
   refine NS_nil ?_
   obtain ⟨h136, e136, d136, t136, n136⟩ := Cl.storeN (P := Try.prog) (T := 115) (n := 5) (v := .agg ⟨[nv (p : Int), nv (W.rq p no).ctx, nv (W.rq p no).tag, nv ((d.length + (W.rq p no).parts * (W.rq p no).size : Nat) : Int), nk (W.rq p no).parts]⟩) (cs := [nv (p : Int), nv (W.rq p no).ctx, nv (W.rq p no).tag, nv ((d.length + (W.rq p no).parts * (W.rq p no).size : Nat) : Int), nk (W.rq p no).parts]) c135 rfl kr rfl rfl (List.all_eq_true.1 rfl)
   replace c129 := c129.sm t136 (show ¬ _ = _ by omega)
   replace c135 := d136
   have T136 : Sm (Ow h (⟨Gh.B (⟨Gh.B (⟨Gh.B (⟨Gh.B (Gh.more G (fun b => vb (Value.slice va130 (List.map bv d).length vc130) = some b)), S131, C131, ro131⟩ : Gh), S132, C132, ro132⟩ : Gh), S133, C133, ro133⟩ : Gh), S134, C134, ro134⟩ : Gh)) h134 h136 := T135.trans t136 (fun x hx => by have hx : x = h134.next := hx; subst hx; first | exact .inr (by omega) | exact .inl ⟨by omega, m135.1, m135.2⟩ | exact .inl rfl)
   have N136 := T136.nx
   refine L_st _ rfl rfl rfl kr kr (e136) ?_
   refine L_nil ⟨rfl, ?_⟩
   refine D_l (l := []) kr kr Rk_nil ?_
   refine NS_nil ?_
   refine W_block ?_
   refine W_seq ?_
   refine W_region ?_
   refine L_ld _ rfl rfl kr (c129.ld (o := 0) kr rfl) ?_
   refine L_g 2 kr ?_
   refine L_ld _ rfl rfl kr (((cz.sm T136 (fun hx => hx.2.1 ⟨.rq p no, hr_134, rfl⟩)).ld (o := 5) kr (by rw [← hsend]; rfl) : aLoad Try.prog 4 ⟨G.B (.rq p no), 5, none⟩ h136 = some (.bool true))) ?_
   refine L_g 1 kr ?_
   refine L_nil ?_
   refine W_cond true kr (fun _ => ?_) (fun e => by cases e)
   refine W_seq ?_
   refine W_drawn kr ?_
   refine D_e (e := 14) (l := [0, 1, 2, 3, 4, 5, 6, 7, 8, 9, 10, 11, 12, 13]) (s' := []) kr kr rfl kr Rk_nil ?_
   refine NS_ld _ rfl rfl kr kr kr (c129.ld (o := 0) kr rfl) ?_
   refine NS_ld _ rfl rfl kr kr kr (c129.ld (o := 0) kr rfl) ?_
   refine NS_b 2 kr ?_
   refine NS_ld _ rfl rfl kr kr kr ((cz.sm T136 (fun hx => hx.2.1 ⟨.rq p no, hr_134, rfl⟩)).ld (o := 1) kr rfl) ?_
   refine NS_ld _ rfl rfl kr kr kr (c129.ld (o := 0) kr rfl) ?_
   refine NS_b 2 kr ?_
   refine NS_ld _ rfl rfl kr kr kr ((cz.sm T136 (fun hx => hx.2.1 ⟨.rq p no, hr_134, rfl⟩)).ld (o := 3) kr rfl) ?_
   refine NS_b 1 kr ?_
   refine NS_ld _ rfl rfl kr kr kr (c135.ld (o := 3) kr rfl) ?_
   refine NS_b 3 kr ?_
   refine NS_nil ?_
   obtain ⟨dv9, hd9, c9⟩ := (R134.ow T136).rqL hp hr_134
   replace c9 : Cl h136 (Gh.B (⟨Gh.B (⟨Gh.B (⟨Gh.B (⟨Gh.B (Gh.more G (fun b => vb (Value.slice va130 (List.map bv d).length vc130) = some b)), S131, C131, ro131⟩ : Gh), S132, C132, ro132⟩ : Gh), S133, C133, ro133⟩ : Gh), S134, C134, ro134⟩ : Gh) (.rq p no)) [nk ((W.setRq p no { W.rq p no with act := true, done := false, st := St.z, data := d }).rq p no).no, nv ((W.setRq p no { W.rq p no with act := true, done := false, st := St.z, data := d }).rq p no).peer, nv ((W.setRq p no { W.rq p no with act := true, done := false, st := St.z, data := d }).rq p no).ctx, nv ((W.setRq p no { W.rq p no with act := true, done := false, st := St.z, data := d }).rq p no).tag, nv ((W.setRq p no { W.rq p no with act := true, done := false, st := St.z, data := d }).rq p no).room, .bool ((W.setRq p no { W.rq p no with act := true, done := false, st := St.z, data := d }).rq p no).send, .bool ((W.setRq p no { W.rq p no with act := true, done := false, st := St.z, data := d }).rq p no).sync, .bool ((W.setRq p no { W.rq p no with act := true, done := false, st := St.z, data := d }).rq p no).pers, .bool ((W.setRq p no { W.rq p no with act := true, done := false, st := St.z, data := d }).rq p no).act, .bool ((W.setRq p no { W.rq p no with act := true, done := false, st := St.z, data := d }).rq p no).done, nk ((W.setRq p no { W.rq p no with act := true, done := false, st := St.z, data := d }).rq p no).parts, nk ((W.setRq p no { W.rq p no with act := true, done := false, st := St.z, data := d }).rq p no).size, dv9, (⟨Gh.B (⟨Gh.B (⟨Gh.B (⟨Gh.B (Gh.more G (fun b => vb (Value.slice va130 (List.map bv d).length vc130) = some b)), S131, C131, ro131⟩ : Gh), S132, C132, ro132⟩ : Gh), S133, C133, ro133⟩ : Gh), S134, C134, ro134⟩ : Gh).S (.pcs p no), nk ((W.setRq p no { W.rq p no with act := true, done := false, st := St.z, data := d }).rq p no).gone, (⟨Gh.B (⟨Gh.B (⟨Gh.B (⟨Gh.B (Gh.more G (fun b => vb (Value.slice va130 (List.map bv d).length vc130) = some b)), S131, C131, ro131⟩ : Gh), S132, C132, ro132⟩ : Gh), S133, C133, ro133⟩ : Gh), S134, C134, ro134⟩ : Gh).S (.snt p no), .bool ((W.setRq p no { W.rq p no with act := true, done := false, st := St.z, data := d }).rq p no).clr, nv ((W.setRq p no { W.rq p no with act := true, done := false, st := St.z, data := d }).rq p no).st.src, nv ((W.setRq p no { W.rq p no with act := true, done := false, st := St.z, data := d }).rq p no).st.tag, nv ((W.setRq p no { W.rq p no with act := true, done := false, st := St.z, data := d }).rq p no).st.size, nv ((W.setRq p no { W.rq p no with act := true, done := false, st := St.z, data := d }).rq p no).st.err] := c9
   obtain ⟨h137, e137, d137, t137, n137⟩ := c9.storeAt (P := Try.prog) (T := 43) (o := 17) (v := .agg ⟨[nv (W.rq p no).peer, nv (W.rq p no).tag, nv ((d.length + (W.rq p no).parts * (W.rq p no).size : Nat) : Int), nv 0]⟩) (vs := [nv (W.rq p no).peer, nv (W.rq p no).tag, nv ((d.length + (W.rq p no).parts * (W.rq p no).size : Nat) : Int), nv 0]) kr rfl (by simp) (List.all_eq_true.1 rfl)
   have N137 : Nxt ((W.setRq p no { W.rq p no with act := true, done := false, st := St.z, data := d }).setRq p no { ((W.setRq p no { W.rq p no with act := true, done := false, st := St.z, data := d }).rq p no) with st := ⟨(W.rq p no).peer, (W.rq p no).tag, (⟨p, (W.rq p no).ctx, (W.rq p no).tag, ((d.length + (W.rq p no).parts * (W.rq p no).size : Nat) : Int), (W.rq p no).parts⟩ : En).size, 0⟩ }) (⟨Gh.B (⟨Gh.B (⟨Gh.B (⟨Gh.B (Gh.more G (fun b => vb (Value.slice va130 (List.map bv d).length vc130) = some b)), S131, C131, ro131⟩ : Gh), S132, C132, ro132⟩ : Gh), S133, C133, ro133⟩ : Gh), S134, C134, ro134⟩ : Gh) h136 h137 := (R134.ow T136).stRq hp hr_134 (r := { ((W.setRq p no { W.rq p no with act := true, done := false, st := St.z, data := d }).rq p no) with st := ⟨(W.rq p no).peer, (W.rq p no).tag, (⟨p, (W.rq p no).ctx, (W.rq p no).tag, ((d.length + (W.rq p no).parts * (W.rq p no).size : Nat) : Int), (W.rq p no).parts⟩ : En).size, 0⟩ }) hd9 d137 t137 rfl rfl rfl
   clear hd9
   refine L_st _ rfl rfl rfl kr kr (e137) ?_
   obtain ⟨S137, C137, ro137, R137, Y137⟩ := N137
   have X137 := ((X134).ow T136).trans Y137
   have hr_137 := (Y137.keep _ hr_134).1
   have mZ6_131_132_133_134_137 : ¬ (Gh.mut ⟨Gh.B (⟨Gh.B (⟨Gh.B (⟨Gh.B (⟨Gh.B (Gh.more G (fun b => vb (Value.slice va130 (List.map bv d).length vc130) = some b)), S131, C131, ro131⟩ : Gh), S132, C132, ro132⟩ : Gh), S133, C133, ro133⟩ : Gh), S134, C134, ro134⟩ : Gh), S137, C137, ro137⟩) (h.next) ∧ ¬ (Gh.ro ⟨Gh.B (⟨Gh.B (⟨Gh.B (⟨Gh.B (⟨Gh.B (Gh.more G (fun b => vb (Value.slice va130 (List.map bv d).length vc130) = some b)), S131, C131, ro131⟩ : Gh), S132, C132, ro132⟩ : Gh), S133, C133, ro133⟩ : Gh), S134, C134, ro134⟩ : Gh), S137, C137, ro137⟩) (h.next) := ⟨fun hm => (Y137.mu _ hm).elim mZ6_131_132_133_134.1 (fun e => by have := c129.lt; omega), fun hm => (Y137.ron _ hm).elim mZ6_131_132_133_134.2 (fun e => by have := c129.lt; omega)⟩
   replace c129 := c129.sm Y137.sm mZ6_131_132_133_134.1
   have m135_137 : ¬ (Gh.mut ⟨Gh.B (⟨Gh.B (⟨Gh.B (⟨Gh.B (⟨Gh.B (Gh.more G (fun b => vb (Value.slice va130 (List.map bv d).length vc130) = some b)), S131, C131, ro131⟩ : Gh), S132, C132, ro132⟩ : Gh), S133, C133, ro133⟩ : Gh), S134, C134, ro134⟩ : Gh), S137, C137, ro137⟩) (h134.next) ∧ ¬ (Gh.ro ⟨Gh.B (⟨Gh.B (⟨Gh.B (⟨Gh.B (⟨Gh.B (Gh.more G (fun b => vb (Value.slice va130 (List.map bv d).length vc130) = some b)), S131, C131, ro131⟩ : Gh), S132, C132, ro132⟩ : Gh), S133, C133, ro133⟩ : Gh), S134, C134, ro134⟩ : Gh), S137, C137, ro137⟩) (h134.next) := ⟨fun hm => (Y137.mu _ hm).elim m135.1 (fun e => by have := c135.lt; omega), fun hm => (Y137.ron _ hm).elim m135.2 (fun e => by have := c135.lt; omega)⟩
   replace c135 := c135.sm Y137.sm m135.1
   have T137 : Sm (Ow h (⟨Gh.B (⟨Gh.B (⟨Gh.B (⟨Gh.B (⟨Gh.B (Gh.more G (fun b => vb (Value.slice va130 (List.map bv d).length vc130) = some b)), S131, C131, ro131⟩ : Gh), S132, C132, ro132⟩ : Gh), S133, C133, ro133⟩ : Gh), S134, C134, ro134⟩ : Gh), S137, C137, ro137⟩ : Gh)) h137 h137 := .refl
   have eW2 : ((W.setRq p no { W.rq p no with act := true, done := false, st := St.z, data := d }).setRq p no { ((W.setRq p no { W.rq p no with act := true, done := false, st := St.z, data := d }).rq p no) with st := ⟨(W.rq p no).peer, (W.rq p no).tag, (⟨p, (W.rq p no).ctx, (W.rq p no).tag, ((d.length + (W.rq p no).parts * (W.rq p no).size : Nat) : Int), (W.rq p no).parts⟩ : En).size, 0⟩ }) = W.setRq p no { { W.rq p no with act := true, done := false, st := St.z, data := d } with st := ⟨(W.rq p no).peer, (W.rq p no).tag, (⟨p, (W.rq p no).ctx, (W.rq p no).tag, ((d.length + (W.rq p no).parts * (W.rq p no).size : Nat) : Int), (W.rq p no).parts⟩ : En).size, 0⟩ } := by rw [Wd.setRq_at, Wd.setRq_setRq]
   rw [eW2] at R137
   refine L_nil ⟨rfl, ?_⟩
   refine D_l (l := []) kr kr Rk_nil ?_
   refine NS_nil ?_
   refine W_region ?_
   refine L_g 2 kr ?_
   refine L_ld _ rfl rfl kr (c129.ld (o := 0) kr rfl) ?_
   refine L_ld _ rfl rfl kr (Cl.allN (n := 5) c135 rfl kr) ?_
   refine L_c rfl rfl kr (send_ok (e := (⟨p, (W.rq p no).ctx, (W.rq p no).tag, ((d.length + (W.rq p no).parts * (W.rq p no).size : Nat) : Int), (W.rq p no).parts⟩ : En)) (R137.ow T137) hp hr_137 he) ?_
   rintro v138 h138 N138
   dsimp only at N138
   obtain ⟨S138, C138, ro138, R138, Y138⟩ := N138
   have X138 := ((X137).ow T137).trans Y138
   have hr_138 := (Y138.keep _ hr_137).1
   have mZ6_131_132_133_134_137_138 : ¬ (Gh.mut ⟨Gh.B (⟨Gh.B (⟨Gh.B (⟨Gh.B (⟨Gh.B (⟨Gh.B (Gh.more G (fun b => vb (Value.slice va130 (List.map bv d).length vc130) = some b)), S131, C131, ro131⟩ : Gh), S132, C132, ro132⟩ : Gh), S133, C133, ro133⟩ : Gh), S134, C134, ro134⟩ : Gh), S137, C137, ro137⟩ : Gh), S138, C138, ro138⟩) (h.next) ∧ ¬ (Gh.ro ⟨Gh.B (⟨Gh.B (⟨Gh.B (⟨Gh.B (⟨Gh.B (⟨Gh.B (Gh.more G (fun b => vb (Value.slice va130 (List.map bv d).length vc130) = some b)), S131, C131, ro131⟩ : Gh), S132, C132, ro132⟩ : Gh), S133, C133, ro133⟩ : Gh), S134, C134, ro134⟩ : Gh), S137, C137, ro137⟩ : Gh), S138, C138, ro138⟩) (h.next) := ⟨fun hm => (Y138.mu _ hm).elim mZ6_131_132_133_134_137.1 (fun e => by have := c129.lt; omega), fun hm => (Y138.ron _ hm).elim mZ6_131_132_133_134_137.2 (fun e => by have := c129.lt; omega)⟩
   replace c129 := c129.sm Y138.sm mZ6_131_132_133_134_137.1
   have m135_137_138 : ¬ (Gh.mut ⟨Gh.B (⟨Gh.B (⟨Gh.B (⟨Gh.B (⟨Gh.B (⟨Gh.B (Gh.more G (fun b => vb (Value.slice va130 (List.map bv d).length vc130) = some b)), S131, C131, ro131⟩ : Gh), S132, C132, ro132⟩ : Gh), S133, C133, ro133⟩ : Gh), S134, C134, ro134⟩ : Gh), S137, C137, ro137⟩ : Gh), S138, C138, ro138⟩) (h134.next) ∧ ¬ (Gh.ro ⟨Gh.B (⟨Gh.B (⟨Gh.B (⟨Gh.B (⟨Gh.B (⟨Gh.B (Gh.more G (fun b => vb (Value.slice va130 (List.map bv d).length vc130) = some b)), S131, C131, ro131⟩ : Gh), S132, C132, ro132⟩ : Gh), S133, C133, ro133⟩ : Gh), S134, C134, ro134⟩ : Gh), S137, C137, ro137⟩ : Gh), S138, C138, ro138⟩) (h134.next) := ⟨fun hm => (Y138.mu _ hm).elim m135_137.1 (fun e => by have := c135.lt; omega), fun hm => (Y138.ron _ hm).elim m135_137.2 (fun e => by have := c135.lt; omega)⟩
   replace c135 := c135.sm Y138.sm m135_137.1
   have T138 : Sm (Ow h (⟨Gh.B (⟨Gh.B (⟨Gh.B (⟨Gh.B (⟨Gh.B (⟨Gh.B (Gh.more G (fun b => vb (Value.slice va130 (List.map bv d).length vc130) = some b)), S131, C131, ro131⟩ : Gh), S132, C132, ro132⟩ : Gh), S133, C133, ro133⟩ : Gh), S134, C134, ro134⟩ : Gh), S137, C137, ro137⟩ : Gh), S138, C138, ro138⟩ : Gh)) h138 h138 := .refl
   refine L_nil ?_
   repeat with_reducible refine blk_norm ?_
   refine done_of (v := .tuple ⟨[]⟩) (.inr rfl) kr ?_
   exact ⟨_, _, _, (R138.ow T138), ((X138).ow T138)⟩
 rename_i hsend
 have hsend : (W.rq p no).send = false := by simpa using hsend
 split at he
 · rename_i hpeer
   have hpeer : (W.rq p no).peer = -2 := hpeer
   obtain rfl := Option.some.inj he
   refine Calls_of_W (n := 116) (fn := Try.f45) kr rfl rfl (Nat.le_of_ble_eq_true rfl) trivial ⟨.inr (by simp), rfl⟩ ?_
   have T0 : Sm Nix h h := .refl
   refine W_seq ?_
   refine W_region ?_
   refine L_nw (Al.cells [ptr (G.B (.rq p no))]) .ptr rfl rfl kr ?_
   have m139 : ¬ (Gh.mut G) h.next ∧ ¬ (Gh.ro G) h.next := ⟨(R.ext T0).op.new (Nat.le_refl _), (R.ext T0).op.newr (Nat.le_refl _)⟩
   have c139 : Cl (h.push (Al.cells [ptr (G.B (.rq p no))]).obj) h.next [ptr (G.B (.rq p no))] := Cl.new h _
   have t139 : Sm Nix h (h.push (Al.cells [ptr (G.B (.rq p no))]).obj) := .push h _
   have n139 : (h.push (Al.cells [ptr (G.B (.rq p no))]).obj).next = h.next + 1 := rfl
   generalize h.push (Al.cells [ptr (G.B (.rq p no))]).obj = h139 at c139 t139 n139 ⊢
   have T139 : Sm Nix h h139 := T0.ext t139
   have N139 := T139.nx
   refine L_nil ?_
   refine W_seq ?_
   refine W_drawn kr ?_
   refine D_e (e := 6) (l := [0, 1, 2, 3, 4, 5]) (s' := [0, 1, 2, 3, 4]) kr kr rfl kr Rk_nil ?_
   refine NS_ld _ rfl rfl kr kr kr (c139.ld (o := 0) kr rfl) ?_
   refine NS_ld _ rfl rfl kr kr kr (c139.ld (o := 0) kr rfl) ?_
   refine NS_ld _ rfl rfl kr kr kr (c139.ld (o := 0) kr rfl) ?_
   refine NS_ld _ rfl rfl kr kr kr (c139.ld (o := 0) kr rfl) ?_
   refine NS_b 2 kr ?_
   refine NS_nil ?_
   refine L_c rfl rfl kr (clone_by (H.ext T139) (bv_one d) (by rw [List.length_map]; exact hld)) ?_
   rintro v140 h140 ⟨r140, k140, t140, f140, s140⟩
   dsimp only at r140 k140 t140 f140 s140
   obtain ⟨R140, X140⟩ := (R.ext T139).more (Q := fun b => vb v140 = some b) t140 (fun b hb => (f140 b hb).1) (fun b hb => (f140 b hb).2)
   obtain ⟨va140, vc140, ev140⟩ := r140.form
   subst ev140
   have hdv : Dr h140 (G.more (fun b => vb (Value.slice va140 (List.map bv d).length vc140) = some b)).ro (.slice va140 (List.map bv d).length vc140) d := ⟨r140, fun b hb => .inr hb⟩
   have mZ6 : ¬ (Gh.mut (G.more (fun b => vb (Value.slice va140 (List.map bv d).length vc140) = some b))) (h.next) ∧ ¬ (Gh.ro (G.more (fun b => vb (Value.slice va140 (List.map bv d).length vc140) = some b))) (h.next) := ⟨fun hm => by obtain ⟨r, q1, q2⟩ := hm; rw [V_more] at q2; exact m139.1 ⟨r, q1, q2⟩, fun hm => hm.elim m139.2 (fun e => by have := (f140 _ e).1; have := c139.lt; omega)⟩
   have X140x := (Gx.of T139).trans X140
   replace c139 := c139.ext t140
   have T140 : Sm Nix h140 h140 := .refl
   refine L_nil ⟨rfl, ?_⟩
   refine D_e (e := 9) (l := [7, 8]) (s' := [1, 2, 3, 4]) kr kr rfl kr (Rk_ld _ rfl rfl rfl kr (c139.ld (o := 0) kr rfl) kr (Rk_ld _ rfl rfl rfl kr (c139.ld (o := 0) kr rfl) kr (Rk_ld _ rfl rfl rfl kr (c139.ld (o := 0) kr rfl) kr (Rk_ld _ rfl rfl rfl kr (c139.ld (o := 0) kr rfl) kr (Rk_1 rfl rfl Rk_nil))))) ?_
   refine NS_b 2 kr ?_
   refine NS_nil ?_
   obtain ⟨dv9, hd9, c9⟩ := (R140.ext T140).rqL hp hr
   replace c9 : Cl h140 (Gh.B (Gh.more G (fun b => vb (Value.slice va140 (List.map bv d).length vc140) = some b)) (.rq p no)) [nk (W.rq p no).no, nv (W.rq p no).peer, nv (W.rq p no).ctx, nv (W.rq p no).tag, nv (W.rq p no).room, .bool (W.rq p no).send, .bool (W.rq p no).sync, .bool (W.rq p no).pers, .bool (W.rq p no).act, .bool (W.rq p no).done, nk (W.rq p no).parts, nk (W.rq p no).size, dv9, (Gh.more G (fun b => vb (Value.slice va140 (List.map bv d).length vc140) = some b)).S (.pcs p no), nk (W.rq p no).gone, (Gh.more G (fun b => vb (Value.slice va140 (List.map bv d).length vc140) = some b)).S (.snt p no), .bool (W.rq p no).clr, nv (W.rq p no).st.src, nv (W.rq p no).st.tag, nv (W.rq p no).st.size, nv (W.rq p no).st.err] := c9
   obtain ⟨h141, e141, d141, t141, n141⟩ := c9.store (P := Try.prog) (T := 4) (o := 8) (v := .bool true) kr rfl rfl (by simp)
   have N141 : Nxt (W.setRq p no { (W.rq p no) with act := true }) (Gh.more G (fun b => vb (Value.slice va140 (List.map bv d).length vc140) = some b)) h140 h141 := (R140.ext T140).stRq hp hr (r := { (W.rq p no) with act := true }) hd9 d141 t141 rfl rfl rfl
   clear hd9
   refine L_st _ rfl rfl rfl kr kr (e141) ?_
   obtain ⟨S141, C141, ro141, R141, Y141⟩ := N141
   have X141 := ((X140x).trans (Gx.of T140)).trans Y141
   have hr_141 := (Y141.keep _ hr).1
   have hdv_141 := Dr.mono0 hdv (Gx.dr Y141 (R140.ext T140).op)
   have mZ6_141 : ¬ (Gh.mut ⟨Gh.B (Gh.more G (fun b => vb (Value.slice va140 (List.map bv d).length vc140) = some b)), S141, C141, ro141⟩) (h.next) ∧ ¬ (Gh.ro ⟨Gh.B (Gh.more G (fun b => vb (Value.slice va140 (List.map bv d).length vc140) = some b)), S141, C141, ro141⟩) (h.next) := ⟨fun hm => (Y141.mu _ hm).elim mZ6.1 (fun e => by have := c139.lt; omega), fun hm => (Y141.ron _ hm).elim mZ6.2 (fun e => by have := c139.lt; omega)⟩
   replace c139 := c139.sm Y141.sm mZ6.1
   have T141 : Sm (Ow h (⟨Gh.B (Gh.more G (fun b => vb (Value.slice va140 (List.map bv d).length vc140) = some b)), S141, C141, ro141⟩ : Gh)) h141 h141 := .refl
   refine L_nil ⟨rfl, ?_⟩
   refine D_e (e := 12) (l := [10, 11]) (s' := [2, 3, 4]) kr kr rfl kr (Rk_ld _ rfl rfl rfl kr (c139.ld (o := 0) kr rfl) kr (Rk_ld _ rfl rfl rfl kr (c139.ld (o := 0) kr rfl) kr (Rk_ld _ rfl rfl rfl kr (c139.ld (o := 0) kr rfl) kr (Rk_1 rfl rfl Rk_nil)))) ?_
   refine NS_b 2 kr ?_
   refine NS_nil ?_
   obtain ⟨dv9, hd9, c9⟩ := (R141.ow T141).rqL hp hr_141
   replace c9 : Cl h141 (Gh.B (⟨Gh.B (Gh.more G (fun b => vb (Value.slice va140 (List.map bv d).length vc140) = some b)), S141, C141, ro141⟩ : Gh) (.rq p no)) [nk ((W.setRq p no { (W.rq p no) with act := true }).rq p no).no, nv ((W.setRq p no { (W.rq p no) with act := true }).rq p no).peer, nv ((W.setRq p no { (W.rq p no) with act := true }).rq p no).ctx, nv ((W.setRq p no { (W.rq p no) with act := true }).rq p no).tag, nv ((W.setRq p no { (W.rq p no) with act := true }).rq p no).room, .bool ((W.setRq p no { (W.rq p no) with act := true }).rq p no).send, .bool ((W.setRq p no { (W.rq p no) with act := true }).rq p no).sync, .bool ((W.setRq p no { (W.rq p no) with act := true }).rq p no).pers, .bool ((W.setRq p no { (W.rq p no) with act := true }).rq p no).act, .bool ((W.setRq p no { (W.rq p no) with act := true }).rq p no).done, nk ((W.setRq p no { (W.rq p no) with act := true }).rq p no).parts, nk ((W.setRq p no { (W.rq p no) with act := true }).rq p no).size, dv9, (⟨Gh.B (Gh.more G (fun b => vb (Value.slice va140 (List.map bv d).length vc140) = some b)), S141, C141, ro141⟩ : Gh).S (.pcs p no), nk ((W.setRq p no { (W.rq p no) with act := true }).rq p no).gone, (⟨Gh.B (Gh.more G (fun b => vb (Value.slice va140 (List.map bv d).length vc140) = some b)), S141, C141, ro141⟩ : Gh).S (.snt p no), .bool ((W.setRq p no { (W.rq p no) with act := true }).rq p no).clr, nv ((W.setRq p no { (W.rq p no) with act := true }).rq p no).st.src, nv ((W.setRq p no { (W.rq p no) with act := true }).rq p no).st.tag, nv ((W.setRq p no { (W.rq p no) with act := true }).rq p no).st.size, nv ((W.setRq p no { (W.rq p no) with act := true }).rq p no).st.err] := c9
   obtain ⟨h142, e142, d142, t142, n142⟩ := c9.store (P := Try.prog) (T := 4) (o := 9) (v := .bool false) kr rfl rfl (by simp)
   have N142 : Nxt ((W.setRq p no { (W.rq p no) with act := true }).setRq p no { ((W.setRq p no { (W.rq p no) with act := true }).rq p no) with done := false }) (⟨Gh.B (Gh.more G (fun b => vb (Value.slice va140 (List.map bv d).length vc140) = some b)), S141, C141, ro141⟩ : Gh) h141 h142 := (R141.ow T141).stRq hp hr_141 (r := { ((W.setRq p no { (W.rq p no) with act := true }).rq p no) with done := false }) hd9 d142 t142 rfl rfl rfl
   clear hd9
   refine L_st _ rfl rfl rfl kr kr (e142) ?_
   obtain ⟨S142, C142, ro142, R142, Y142⟩ := N142
   have X142 := ((X141).ow T141).trans Y142
   have hr_142 := (Y142.keep _ hr_141).1
   have hdv_142 := Dr.mono0 hdv_141 (Gx.dr Y142 (R141.ow T141).op)
   have mZ6_141_142 : ¬ (Gh.mut ⟨Gh.B (⟨Gh.B (Gh.more G (fun b => vb (Value.slice va140 (List.map bv d).length vc140) = some b)), S141, C141, ro141⟩ : Gh), S142, C142, ro142⟩) (h.next) ∧ ¬ (Gh.ro ⟨Gh.B (⟨Gh.B (Gh.more G (fun b => vb (Value.slice va140 (List.map bv d).length vc140) = some b)), S141, C141, ro141⟩ : Gh), S142, C142, ro142⟩) (h.next) := ⟨fun hm => (Y142.mu _ hm).elim mZ6_141.1 (fun e => by have := c139.lt; omega), fun hm => (Y142.ron _ hm).elim mZ6_141.2 (fun e => by have := c139.lt; omega)⟩
   replace c139 := c139.sm Y142.sm mZ6_141.1
   have T142 : Sm (Ow h (⟨Gh.B (⟨Gh.B (Gh.more G (fun b => vb (Value.slice va140 (List.map bv d).length vc140) = some b)), S141, C141, ro141⟩ : Gh), S142, C142, ro142⟩ : Gh)) h142 h142 := .refl
   refine L_nil ⟨rfl, ?_⟩
   refine D_e (e := 15) (l := [13, 14]) (s' := [3]) kr kr rfl kr (Rk_ld _ rfl rfl rfl kr (c139.ld (o := 0) kr rfl) kr (Rk_ld _ rfl rfl rfl kr (c139.ld (o := 0) kr rfl) kr (Rk_1 rfl rfl Rk_nil))) ?_
   refine NS_b 2 kr ?_
   refine NS_nil ?_
   obtain ⟨dv9, hd9, c9⟩ := (R142.ow T142).rqL hp hr_142
   replace c9 : Cl h142 (Gh.B (⟨Gh.B (⟨Gh.B (Gh.more G (fun b => vb (Value.slice va140 (List.map bv d).length vc140) = some b)), S141, C141, ro141⟩ : Gh), S142, C142, ro142⟩ : Gh) (.rq p no)) [nk (((W.setRq p no { (W.rq p no) with act := true }).setRq p no { ((W.setRq p no { (W.rq p no) with act := true }).rq p no) with done := false }).rq p no).no, nv (((W.setRq p no { (W.rq p no) with act := true }).setRq p no { ((W.setRq p no { (W.rq p no) with act := true }).rq p no) with done := false }).rq p no).peer, nv (((W.setRq p no { (W.rq p no) with act := true }).setRq p no { ((W.setRq p no { (W.rq p no) with act := true }).rq p no) with done := false }).rq p no).ctx, nv (((W.setRq p no { (W.rq p no) with act := true }).setRq p no { ((W.setRq p no { (W.rq p no) with act := true }).rq p no) with done := false }).rq p no).tag, nv (((W.setRq p no { (W.rq p no) with act := true }).setRq p no { ((W.setRq p no { (W.rq p no) with act := true }).rq p no) with done := false }).rq p no).room, .bool (((W.setRq p no { (W.rq p no) with act := true }).setRq p no { ((W.setRq p no { (W.rq p no) with act := true }).rq p no) with done := false }).rq p no).send, .bool (((W.setRq p no { (W.rq p no) with act := true }).setRq p no { ((W.setRq p no { (W.rq p no) with act := true }).rq p no) with done := false }).rq p no).sync, .bool (((W.setRq p no { (W.rq p no) with act := true }).setRq p no { ((W.setRq p no { (W.rq p no) with act := true }).rq p no) with done := false }).rq p no).pers, .bool (((W.setRq p no { (W.rq p no) with act := true }).setRq p no { ((W.setRq p no { (W.rq p no) with act := true }).rq p no) with done := false }).rq p no).act, .bool (((W.setRq p no { (W.rq p no) with act := true }).setRq p no { ((W.setRq p no { (W.rq p no) with act := true }).rq p no) with done := false }).rq p no).done, nk (((W.setRq p no { (W.rq p no) with act := true }).setRq p no { ((W.setRq p no { (W.rq p no) with act := true }).rq p no) with done := false }).rq p no).parts, nk (((W.setRq p no { (W.rq p no) with act := true }).setRq p no { ((W.setRq p no { (W.rq p no) with act := true }).rq p no) with done := false }).rq p no).size, dv9, (⟨Gh.B (⟨Gh.B (Gh.more G (fun b => vb (Value.slice va140 (List.map bv d).length vc140) = some b)), S141, C141, ro141⟩ : Gh), S142, C142, ro142⟩ : Gh).S (.pcs p no), nk (((W.setRq p no { (W.rq p no) with act := true }).setRq p no { ((W.setRq p no { (W.rq p no) with act := true }).rq p no) with done := false }).rq p no).gone, (⟨Gh.B (⟨Gh.B (Gh.more G (fun b => vb (Value.slice va140 (List.map bv d).length vc140) = some b)), S141, C141, ro141⟩ : Gh), S142, C142, ro142⟩ : Gh).S (.snt p no), .bool (((W.setRq p no { (W.rq p no) with act := true }).setRq p no { ((W.setRq p no { (W.rq p no) with act := true }).rq p no) with done := false }).rq p no).clr, nv (((W.setRq p no { (W.rq p no) with act := true }).setRq p no { ((W.setRq p no { (W.rq p no) with act := true }).rq p no) with done := false }).rq p no).st.src, nv (((W.setRq p no { (W.rq p no) with act := true }).setRq p no { ((W.setRq p no { (W.rq p no) with act := true }).rq p no) with done := false }).rq p no).st.tag, nv (((W.setRq p no { (W.rq p no) with act := true }).setRq p no { ((W.setRq p no { (W.rq p no) with act := true }).rq p no) with done := false }).rq p no).st.size, nv (((W.setRq p no { (W.rq p no) with act := true }).setRq p no { ((W.setRq p no { (W.rq p no) with act := true }).rq p no) with done := false }).rq p no).st.err] := c9
   obtain ⟨h143, e143, d143, t143, n143⟩ := c9.storeAt (P := Try.prog) (T := 43) (o := 17) (v := .agg ⟨[nv 0, nv 0, nv 0, nv 0]⟩) (vs := [nv 0, nv 0, nv 0, nv 0]) kr rfl (by simp) (List.all_eq_true.1 rfl)
   have N143 : Nxt (((W.setRq p no { (W.rq p no) with act := true }).setRq p no { ((W.setRq p no { (W.rq p no) with act := true }).rq p no) with done := false }).setRq p no { (((W.setRq p no { (W.rq p no) with act := true }).setRq p no { ((W.setRq p no { (W.rq p no) with act := true }).rq p no) with done := false }).rq p no) with st := St.z }) (⟨Gh.B (⟨Gh.B (Gh.more G (fun b => vb (Value.slice va140 (List.map bv d).length vc140) = some b)), S141, C141, ro141⟩ : Gh), S142, C142, ro142⟩ : Gh) h142 h143 := (R142.ow T142).stRq hp hr_142 (r := { (((W.setRq p no { (W.rq p no) with act := true }).setRq p no { ((W.setRq p no { (W.rq p no) with act := true }).rq p no) with done := false }).rq p no) with st := St.z }) hd9 d143 t143 rfl rfl rfl
   clear hd9
   refine L_st _ rfl rfl rfl kr kr (e143) ?_
   obtain ⟨S143, C143, ro143, R143, Y143⟩ := N143
   have X143 := ((X142).ow T142).trans Y143
   have hr_143 := (Y143.keep _ hr_142).1
   have hdv_143 := Dr.mono0 hdv_142 (Gx.dr Y143 (R142.ow T142).op)
   have mZ6_141_142_143 : ¬ (Gh.mut ⟨Gh.B (⟨Gh.B (⟨Gh.B (Gh.more G (fun b => vb (Value.slice va140 (List.map bv d).length vc140) = some b)), S141, C141, ro141⟩ : Gh), S142, C142, ro142⟩ : Gh), S143, C143, ro143⟩) (h.next) ∧ ¬ (Gh.ro ⟨Gh.B (⟨Gh.B (⟨Gh.B (Gh.more G (fun b => vb (Value.slice va140 (List.map bv d).length vc140) = some b)), S141, C141, ro141⟩ : Gh), S142, C142, ro142⟩ : Gh), S143, C143, ro143⟩) (h.next) := ⟨fun hm => (Y143.mu _ hm).elim mZ6_141_142.1 (fun e => by have := c139.lt; omega), fun hm => (Y143.ron _ hm).elim mZ6_141_142.2 (fun e => by have := c139.lt; omega)⟩
   replace c139 := c139.sm Y143.sm mZ6_141_142.1
   have T143 : Sm (Ow h (⟨Gh.B (⟨Gh.B (⟨Gh.B (Gh.more G (fun b => vb (Value.slice va140 (List.map bv d).length vc140) = some b)), S141, C141, ro141⟩ : Gh), S142, C142, ro142⟩ : Gh), S143, C143, ro143⟩ : Gh)) h143 h143 := .refl
   refine L_nil ⟨rfl, ?_⟩
   refine D_e (e := 18) (l := [16, 17]) (s' := []) kr kr rfl kr (Rk_ld _ rfl rfl rfl kr (c139.ld (o := 0) kr rfl) kr Rk_nil) ?_
   refine NS_b 2 kr ?_
   refine NS_nil ?_
   obtain ⟨dv9, hd9, c9⟩ := (R143.ow T143).rqL hp hr_143
   replace c9 : Arm.Cl h143 (Gh.B (⟨Gh.B (⟨Gh.B (⟨Gh.B (Gh.more G (fun b => vb (Value.slice va140 (List.map bv d).length vc140) = some b)), S141, C141, ro141⟩ : Gh), S142, C142, ro142⟩ : Gh), S143, C143, ro143⟩ : Gh) (.rq p no)) [nk ((((W.setRq p no { (W.rq p no) with act := true }).setRq p no { ((W.setRq p no { (W.rq p no) with act := true }).rq p no) with done := false }).setRq p no { (((W.setRq p no { (W.rq p no) with act := true }).setRq p no { ((W.setRq p no { (W.rq p no) with act := true }).rq p no) with done := false }).rq p no) with st := St.z }).rq p no).no, nv ((((W.setRq p no { (W.rq p no) with act := true }).setRq p no { ((W.setRq p no { (W.rq p no) with act := true }).rq p no) with done := false }).setRq p no { (((W.setRq p no { (W.rq p no) with act := true }).setRq p no { ((W.setRq p no { (W.rq p no) with act := true }).rq p no) with done := false }).rq p no) with st := St.z }).rq p no).peer, nv ((((W.setRq p no { (W.rq p no) with act := true }).setRq p no { ((W.setRq p no { (W.rq p no) with act := true }).rq p no) with done := false }).setRq p no { (((W.setRq p no { (W.rq p no) with act := true }).setRq p no { ((W.setRq p no { (W.rq p no) with act := true }).rq p no) with done := false }).rq p no) with st := St.z }).rq p no).ctx, nv ((((W.setRq p no { (W.rq p no) with act := true }).setRq p no { ((W.setRq p no { (W.rq p no) with act := true }).rq p no) with done := false }).setRq p no { (((W.setRq p no { (W.rq p no) with act := true }).setRq p no { ((W.setRq p no { (W.rq p no) with act := true }).rq p no) with done := false }).rq p no) with st := St.z }).rq p no).tag, nv ((((W.setRq p no { (W.rq p no) with act := true }).setRq p no { ((W.setRq p no { (W.rq p no) with act := true }).rq p no) with done := false }).setRq p no { (((W.setRq p no { (W.rq p no) with act := true }).setRq p no { ((W.setRq p no { (W.rq p no) with act := true }).rq p no) with done := false }).rq p no) with st := St.z }).rq p no).room, .bool ((((W.setRq p no { (W.rq p no) with act := true }).setRq p no { ((W.setRq p no { (W.rq p no) with act := true }).rq p no) with done := false }).setRq p no { (((W.setRq p no { (W.rq p no) with act := true }).setRq p no { ((W.setRq p no { (W.rq p no) with act := true }).rq p no) with done := false }).rq p no) with st := St.z }).rq p no).send, .bool ((((W.setRq p no { (W.rq p no) with act := true }).setRq p no { ((W.setRq p no { (W.rq p no) with act := true }).rq p no) with done := false }).setRq p no { (((W.setRq p no { (W.rq p no) with act := true }).setRq p no { ((W.setRq p no { (W.rq p no) with act := true }).rq p no) with done := false }).rq p no) with st := St.z }).rq p no).sync, .bool ((((W.setRq p no { (W.rq p no) with act := true }).setRq p no { ((W.setRq p no { (W.rq p no) with act := true }).rq p no) with done := false }).setRq p no { (((W.setRq p no { (W.rq p no) with act := true }).setRq p no { ((W.setRq p no { (W.rq p no) with act := true }).rq p no) with done := false }).rq p no) with st := St.z }).rq p no).pers, .bool ((((W.setRq p no { (W.rq p no) with act := true }).setRq p no { ((W.setRq p no { (W.rq p no) with act := true }).rq p no) with done := false }).setRq p no { (((W.setRq p no { (W.rq p no) with act := true }).setRq p no { ((W.setRq p no { (W.rq p no) with act := true }).rq p no) with done := false }).rq p no) with st := St.z }).rq p no).act, .bool ((((W.setRq p no { (W.rq p no) with act := true }).setRq p no { ((W.setRq p no { (W.rq p no) with act := true }).rq p no) with done := false }).setRq p no { (((W.setRq p no { (W.rq p no) with act := true }).setRq p no { ((W.setRq p no { (W.rq p no) with act := true }).rq p no) with done := false }).rq p no) with st := St.z }).rq p no).done, nk ((((W.setRq p no { (W.rq p no) with act := true }).setRq p no { ((W.setRq p no { (W.rq p no) with act := true }).rq p no) with done := false }).setRq p no { (((W.setRq p no { (W.rq p no) with act := true }).setRq p no { ((W.setRq p no { (W.rq p no) with act := true }).rq p no) with done := false }).rq p no) with st := St.z }).rq p no).parts, nk ((((W.setRq p no { (W.rq p no) with act := true }).setRq p no { ((W.setRq p no { (W.rq p no) with act := true }).rq p no) with done := false }).setRq p no { (((W.setRq p no { (W.rq p no) with act := true }).setRq p no { ((W.setRq p no { (W.rq p no) with act := true }).rq p no) with done := false }).rq p no) with st := St.z }).rq p no).size, dv9, (⟨Gh.B (⟨Gh.B (⟨Gh.B (Gh.more G (fun b => vb (Value.slice va140 (List.map bv d).length vc140) = some b)), S141, C141, ro141⟩ : Gh), S142, C142, ro142⟩ : Gh), S143, C143, ro143⟩ : Gh).S (.pcs p no), nk ((((W.setRq p no { (W.rq p no) with act := true }).setRq p no { ((W.setRq p no { (W.rq p no) with act := true }).rq p no) with done := false }).setRq p no { (((W.setRq p no { (W.rq p no) with act := true }).setRq p no { ((W.setRq p no { (W.rq p no) with act := true }).rq p no) with done := false }).rq p no) with st := St.z }).rq p no).gone, (⟨Gh.B (⟨Gh.B (⟨Gh.B (Gh.more G (fun b => vb (Value.slice va140 (List.map bv d).length vc140) = some b)), S141, C141, ro141⟩ : Gh), S142, C142, ro142⟩ : Gh), S143, C143, ro143⟩ : Gh).S (.snt p no), .bool ((((W.setRq p no { (W.rq p no) with act := true }).setRq p no { ((W.setRq p no { (W.rq p no) with act := true }).rq p no) with done := false }).setRq p no { (((W.setRq p no { (W.rq p no) with act := true }).setRq p no { ((W.setRq p no { (W.rq p no) with act := true }).rq p no) with done := false }).rq p no) with st := St.z }).rq p no).clr, nv ((((W.setRq p no { (W.rq p no) with act := true }).setRq p no { ((W.setRq p no { (W.rq p no) with act := true }).rq p no) with done := false }).setRq p no { (((W.setRq p no { (W.rq p no) with act := true }).setRq p no { ((W.setRq p no { (W.rq p no) with act := true }).rq p no) with done := false }).rq p no) with st := St.z }).rq p no).st.src, nv ((((W.setRq p no { (W.rq p no) with act := true }).setRq p no { ((W.setRq p no { (W.rq p no) with act := true }).rq p no) with done := false }).setRq p no { (((W.setRq p no { (W.rq p no) with act := true }).setRq p no { ((W.setRq p no { (W.rq p no) with act := true }).rq p no) with done := false }).rq p no) with st := St.z }).rq p no).st.tag, nv ((((W.setRq p no { (W.rq p no) with act := true }).setRq p no { ((W.setRq p no { (W.rq p no) with act := true }).rq p no) with done := false }).setRq p no { (((W.setRq p no { (W.rq p no) with act := true }).setRq p no { ((W.setRq p no { (W.rq p no) with act := true }).rq p no) with done := false }).rq p no) with st := St.z }).rq p no).st.size, nv ((((W.setRq p no { (W.rq p no) with act := true }).setRq p no { ((W.setRq p no { (W.rq p no) with act := true }).rq p no) with done := false }).setRq p no { (((W.setRq p no { (W.rq p no) with act := true }).setRq p no { ((W.setRq p no { (W.rq p no) with act := true }).rq p no) with done := false }).rq p no) with st := St.z }).rq p no).st.err] := c9
   obtain ⟨h144, e144, d144, t144, n144⟩ := c9.store (P := Try.prog) (T := 23) (o := 12) (v := .slice va140 (List.map bv d).length vc140) kr rfl rfl (by simp)
   have N144 : Nxt (((((W.setRq p no { (W.rq p no) with act := true }).setRq p no { ((W.setRq p no { (W.rq p no) with act := true }).rq p no) with done := false }).setRq p no { (((W.setRq p no { (W.rq p no) with act := true }).setRq p no { ((W.setRq p no { (W.rq p no) with act := true }).rq p no) with done := false }).rq p no) with st := St.z }).setRq p no { ((((W.setRq p no { (W.rq p no) with act := true }).setRq p no { ((W.setRq p no { (W.rq p no) with act := true }).rq p no) with done := false }).setRq p no { (((W.setRq p no { (W.rq p no) with act := true }).setRq p no { ((W.setRq p no { (W.rq p no) with act := true }).rq p no) with done := false }).rq p no) with st := St.z }).rq p no) with data := d })) (⟨Gh.B (⟨Gh.B (⟨Gh.B (Gh.more G (fun b => vb (Value.slice va140 (List.map bv d).length vc140) = some b)), S141, C141, ro141⟩ : Gh), S142, C142, ro142⟩ : Gh), S143, C143, ro143⟩ : Gh) h143 h144 := by
    have := (R143.ow T143).setRq hp hr_143 (r := { ((((W.setRq p no { (W.rq p no) with act := true }).setRq p no { ((W.setRq p no { (W.rq p no) with act := true }).rq p no) with done := false }).setRq p no { (((W.setRq p no { (W.rq p no) with act := true }).setRq p no { ((W.setRq p no { (W.rq p no) with act := true }).rq p no) with done := false }).rq p no) with st := St.z }).rq p no) with data := d }) (dv := .slice va140 (List.map bv d).length vc140) d144 t144 (fun k hk => .inl hk) (((R143.ow T143).op.dr (t144.mono fun k hk => ⟨.rq p no, hr_143, by subst hk; rfl⟩)) _ _ hdv_143) rfl rfl
    exact ⟨_, _, _, this⟩
   clear hd9
   refine L_st _ rfl rfl rfl kr kr (e144) ?_
   obtain ⟨S144, C144, ro144, R144, Y144⟩ := N144
   have X144 := ((X143).ow T143).trans Y144
   have hr_144 := (Y144.keep _ hr_143).1
   have hdv_144 := Dr.mono0 hdv_143 (Gx.dr Y144 (R143.ow T143).op)
   have mZ6_141_142_143_144 : ¬ (Gh.mut ⟨Gh.B (⟨Gh.B (⟨Gh.B (⟨Gh.B (Gh.more G (fun b => vb (Value.slice va140 (List.map bv d).length vc140) = some b)), S141, C141, ro141⟩ : Gh), S142, C142, ro142⟩ : Gh), S143, C143, ro143⟩ : Gh), S144, C144, ro144⟩) (h.next) ∧ ¬ (Gh.ro ⟨Gh.B (⟨Gh.B (⟨Gh.B (⟨Gh.B (Gh.more G (fun b => vb (Value.slice va140 (List.map bv d).length vc140) = some b)), S141, C141, ro141⟩ : Gh), S142, C142, ro142⟩ : Gh), S143, C143, ro143⟩ : Gh), S144, C144, ro144⟩) (h.next) := ⟨fun hm => (Y144.mu _ hm).elim mZ6_141_142_143.1 (fun e => by have := c139.lt; omega), fun hm => (Y144.ron _ hm).elim mZ6_141_142_143.2 (fun e => by have := c139.lt; omega)⟩
   replace c139 := c139.sm Y144.sm mZ6_141_142_143.1
   have T144 : Sm (Ow h (⟨Gh.B (⟨Gh.B (⟨Gh.B (⟨Gh.B (Gh.more G (fun b => vb (Value.slice va140 (List.map bv d).length vc140) = some b)), S141, C141, ro141⟩ : Gh), S142, C142, ro142⟩ : Gh), S143, C143, ro143⟩ : Gh), S144, C144, ro144⟩ : Gh)) h144 h144 := .refl
   have eW : ((((W.setRq p no { (W.rq p no) with act := true }).setRq p no { ((W.setRq p no { (W.rq p no) with act := true }).rq p no) with done := false }).setRq p no { (((W.setRq p no { (W.rq p no) with act := true }).setRq p no { ((W.setRq p no { (W.rq p no) with act := true }).rq p no) with done := false }).rq p no) with st := St.z }).setRq p no { ((((W.setRq p no { (W.rq p no) with act := true }).setRq p no { ((W.setRq p no { (W.rq p no) with act := true }).rq p no) with done := false }).setRq p no { (((W.setRq p no { (W.rq p no) with act := true }).setRq p no { ((W.setRq p no { (W.rq p no) with act := true }).rq p no) with done := false }).rq p no) with st := St.z }).rq p no) with data := d }) = W.setRq p no { W.rq p no with act := true, done := false, st := St.z, data := d } := by simp only [Wd.setRq_at, Wd.setRq_setRq]
   rw [eW] at R144
   have eR : (W.setRq p no { W.rq p no with act := true, done := false, st := St.z, data := d }).rq p no = { W.rq p no with act := true, done := false, st := St.z, data := d } := Wd.setRq_at _ _ _ _
   obtain ⟨dvz, hdz, cz⟩ := R144.rqL (p := p) hp hr_144
   rw [eR] at hdz cz
   replace cz : Arm.Cl h144 (G.B (.rq p no)) [nk (W.rq p no).no, nv (W.rq p no).peer, nv (W.rq p no).ctx, nv (W.rq p no).tag, nv (W.rq p no).room, .bool (W.rq p no).send, .bool (W.rq p no).sync, .bool (W.rq p no).pers, .bool true, .bool false, nk (W.rq p no).parts, nk (W.rq p no).size, dvz, (⟨G.B, S144, C144, ro144⟩ : Gh).S (.pcs p no), nk (W.rq p no).gone, (⟨G.B, S144, C144, ro144⟩ : Gh).S (.snt p no), .bool (W.rq p no).clr, nv 0, nv 0, nv 0, nv 0] := cz
   have l6 := c139.lt
   refine L_nil ⟨rfl, ?_⟩
   refine D_l (l := []) kr kr Rk_nil ?_
   refine NS_nil ?_
   refine W_seq ?_
   refine W_drawn kr ?_
   refine D_e (e := 27) (l := [0, 1, 2, 3, 4, 5, 6, 7, 8, 9, 10, 11, 12, 13, 14, 15, 16, 17, 18, 19, 20, 21, 22, 23, 24, 25, 26]) (s' := []) kr kr rfl kr Rk_nil ?_
   refine NS_b 1 kr ?_
   refine NS_ld _ rfl rfl kr kr kr (c139.ld (o := 0) kr rfl) ?_
   refine NS_b 2 kr ?_
   refine NS_ld _ rfl rfl kr kr kr ((cz.sm T144 (fun hx => hx.2.1 ⟨.rq p no, hr_144, rfl⟩)).ld (o := 2) kr rfl) ?_
   refine NS_ld _ rfl rfl kr kr kr (c139.ld (o := 0) kr rfl) ?_
   refine NS_b 2 kr ?_
   refine NS_ld _ rfl rfl kr kr kr ((cz.sm T144 (fun hx => hx.2.1 ⟨.rq p no, hr_144, rfl⟩)).ld (o := 3) kr rfl) ?_
   refine NS_b 1 kr ?_
   refine NS_ln _ rfl rfl kr kr kr (H.lenA (T := 23) (el := 5) kr _) ?_
   refine NS_ld _ rfl rfl kr kr kr (c139.ld (o := 0) kr rfl) ?_
   refine NS_b 2 kr ?_
   refine NS_ld _ rfl rfl kr kr kr ((cz.sm T144 (fun hx => hx.2.1 ⟨.rq p no, hr_144, rfl⟩)).ld (o := 10) kr rfl) ?_
   refine NS_ld _ rfl rfl kr kr kr (c139.ld (o := 0) kr rfl) ?_
   refine NS_b 2 kr ?_
   refine NS_ld _ rfl rfl kr kr kr ((cz.sm T144 (fun hx => hx.2.1 ⟨.rq p no, hr_144, rfl⟩)).ld (o := 11) kr rfl) ?_
   refine NS_v (.int .i64 (IntKind.i64.wrap (((W.rq p no).parts : Int) * ((W.rq p no).size : Int)))) rfl kr rfl kr kr ?_
   refine NS_i (((List.map bv d).length : Int)) (IntKind.i64.wrap (((W.rq p no).parts : Int) * ((W.rq p no).size : Int))) (nv ((d.length + (W.rq p no).parts * (W.rq p no).size : Nat) : Int)) rfl rfl kr kr kr kr rfl (sum_nat hsm hld) ?_
   refine NS_ld _ rfl rfl kr kr kr (c139.ld (o := 0) kr rfl) ?_
   refine NS_b 2 kr ?_
   refine NS_ld _ rfl rfl kr kr kr ((cz.sm T144 (fun hx => hx.2.1 ⟨.rq p no, hr_144, rfl⟩)).ld (o := 10) kr rfl) ?_
   refine NS_b 1 kr ?_
   refine NS_newR (Al.cells [nv 0, nv 0, nv 0, nv 0, nv 0]) .ptr rfl kr rfl rfl kr (Rk_1 rfl rfl (Rk_ld _ rfl rfl rfl kr ((c139.ext (.push h144 _)).ld (o := 0) kr rfl) kr (Rk_1 rfl rfl (Rk_1 rfl rfl (Rk_ld _ rfl rfl rfl kr ((cz.sm (T144.ext (.push h144 _)) (fun hx => hx.2.1 ⟨.rq p no, hr_144, rfl⟩)).ld (o := 2) kr rfl) kr (Rk_ld _ rfl rfl rfl kr ((c139.ext (.push h144 _)).ld (o := 0) kr rfl) kr (Rk_1 rfl rfl (Rk_1 rfl rfl (Rk_ld _ rfl rfl rfl kr ((cz.sm (T144.ext (.push h144 _)) (fun hx => hx.2.1 ⟨.rq p no, hr_144, rfl⟩)).ld (o := 3) kr rfl) kr (Rk_1 rfl rfl (Rk_ln _ rfl rfl rfl kr (H.lenA (T := 23) (el := 5) kr _) kr (Rk_ld _ rfl rfl rfl kr ((c139.ext (.push h144 _)).ld (o := 0) kr rfl) kr (Rk_1 rfl rfl (Rk_1 rfl rfl (Rk_ld _ rfl rfl rfl kr ((cz.sm (T144.ext (.push h144 _)) (fun hx => hx.2.1 ⟨.rq p no, hr_144, rfl⟩)).ld (o := 10) kr rfl) kr (Rk_ld _ rfl rfl rfl kr ((c139.ext (.push h144 _)).ld (o := 0) kr rfl) kr (Rk_1 rfl rfl (Rk_1 rfl rfl (Rk_ld _ rfl rfl rfl kr ((cz.sm (T144.ext (.push h144 _)) (fun hx => hx.2.1 ⟨.rq p no, hr_144, rfl⟩)).ld (o := 11) kr rfl) kr (Rk_v (v := (.int .i64 (IntKind.i64.wrap (((W.rq p no).parts : Int) * ((W.rq p no).size : Int))))) rfl rfl kr kr (Rk_i (((List.map bv d).length : Int)) (IntKind.i64.wrap (((W.rq p no).parts : Int) * ((W.rq p no).size : Int))) (nv ((d.length + (W.rq p no).parts * (W.rq p no).size : Nat) : Int)) rfl rfl rfl kr kr rfl (sum_nat hsm hld) kr (Rk_ld _ rfl rfl rfl kr ((c139.ext (.push h144 _)).ld (o := 0) kr rfl) kr (Rk_1 rfl rfl (Rk_1 rfl rfl (Rk_ld _ rfl rfl rfl kr ((cz.sm (T144.ext (.push h144 _)) (fun hx => hx.2.1 ⟨.rq p no, hr_144, rfl⟩)).ld (o := 10) kr rfl) kr (Rk_1 rfl rfl (Rk_1 rfl rfl Rk_nil))))))))))))))))))))))))))) ?_
   have m145 : ¬ (Gh.mut (⟨Gh.B (⟨Gh.B (⟨Gh.B (⟨Gh.B (Gh.more G (fun b => vb (Value.slice va140 (List.map bv d).length vc140) = some b)), S141, C141, ro141⟩ : Gh), S142, C142, ro142⟩ : Gh), S143, C143, ro143⟩ : Gh), S144, C144, ro144⟩ : Gh)) h144.next ∧ ¬ (Gh.ro (⟨Gh.B (⟨Gh.B (⟨Gh.B (⟨Gh.B (Gh.more G (fun b => vb (Value.slice va140 (List.map bv d).length vc140) = some b)), S141, C141, ro141⟩ : Gh), S142, C142, ro142⟩ : Gh), S143, C143, ro143⟩ : Gh), S144, C144, ro144⟩ : Gh)) h144.next := ⟨(R144.ow T144).op.new (Nat.le_refl _), (R144.ow T144).op.newr (Nat.le_refl _)⟩
   have l145_t6 := c139.lt
   have c145 : Cl (h144.push (Al.cells [nv 0, nv 0, nv 0, nv 0, nv 0]).obj) h144.next [nv 0, nv 0, nv 0, nv 0, nv 0] := Cl.new h144 _
   have t145 : Sm Nix h144 (h144.push (Al.cells [nv 0, nv 0, nv 0, nv 0, nv 0]).obj) := .push h144 _
   have n145 : (h144.push (Al.cells [nv 0, nv 0, nv 0, nv 0, nv 0]).obj).next = h144.next + 1 := rfl
   generalize h144.push (Al.cells [nv 0, nv 0, nv 0, nv 0, nv 0]).obj = h145 at c145 t145 n145 ⊢
   replace c139 := c139.ext t145
   have T145 : Sm (Ow h (⟨Gh.B (⟨Gh.B (⟨Gh.B (⟨Gh.B (Gh.more G (fun b => vb (Value.slice va140 (List.map bv d).length vc140) = some b)), S141, C141, ro141⟩ : Gh), S142, C142, ro142⟩ : Gh), S143, C143, ro143⟩ : Gh), S144, C144, ro144⟩ : Gh)) h144 h145 := T144.ext t145
   have N145 := T145.nx
   refine NS_nil ?_
   obtain ⟨h146, e146, d146, t146, n146⟩ := Cl.storeN (P := Try.prog) (T := 115) (n := 5) (v := .agg ⟨[nv (p : Int), nv (W.rq p no).ctx, nv (W.rq p no).tag, nv ((d.length + (W.rq p no).parts * (W.rq p no).size : Nat) : Int), nk (W.rq p no).parts]⟩) (cs := [nv (p : Int), nv (W.rq p no).ctx, nv (W.rq p no).tag, nv ((d.length + (W.rq p no).parts * (W.rq p no).size : Nat) : Int), nk (W.rq p no).parts]) c145 rfl kr rfl rfl (List.all_eq_true.1 rfl)
   replace c139 := c139.sm t146 (show ¬ _ = _ by omega)
   replace c145 := d146
   have T146 : Sm (Ow h (⟨Gh.B (⟨Gh.B (⟨Gh.B (⟨Gh.B (Gh.more G (fun b => vb (Value.slice va140 (List.map bv d).length vc140) = some b)), S141, C141, ro141⟩ : Gh), S142, C142, ro142⟩ : Gh), S143, C143, ro143⟩ : Gh), S144, C144, ro144⟩ : Gh)) h144 h146 := T145.trans t146 (fun x hx => by have hx : x = h144.next := hx; subst hx; first | exact .inr (by omega) | exact .inl ⟨by omega, m145.1, m145.2⟩ | exact .inl rfl)
   have N146 := T146.nx
   refine L_st _ rfl rfl rfl kr kr (e146) ?_
   refine L_nil ⟨rfl, ?_⟩
   refine D_l (l := []) kr kr Rk_nil ?_
   refine NS_nil ?_
   refine W_block ?_
   refine W_seq ?_
   refine W_region ?_
   refine L_ld _ rfl rfl kr (c139.ld (o := 0) kr rfl) ?_
   refine L_g 2 kr ?_
   refine L_ld _ rfl rfl kr (((cz.sm T146 (fun hx => hx.2.1 ⟨.rq p no, hr_144, rfl⟩)).ld (o := 5) kr (by rw [← hsend]; rfl) : aLoad Try.prog 4 ⟨G.B (.rq p no), 5, none⟩ h146 = some (.bool false))) ?_
   refine L_g 1 kr ?_
   refine L_nil ?_
   refine W_cond false kr (fun e => by cases e) (fun _ => ?_)
   refine W_seq ?_
   refine W_region ?_
   refine L_ld _ rfl rfl kr (c139.ld (o := 0) kr rfl) ?_
   refine L_g 2 kr ?_
   refine L_ld _ rfl rfl kr ((cz.sm T146 (fun hx => hx.2.1 ⟨.rq p no, hr_144, rfl⟩)).ld (o := 1) kr rfl) ?_
   refine L_i ((W.rq p no).peer) (-2) (.bool true) rfl rfl kr kr rfl (by simp; omega) ?_
   refine L_g 1 kr ?_
   refine L_nil ?_
   refine W_cond true kr (fun _ => ?_) (fun e => by cases e)
   refine W_drawn kr ?_
   refine D_e (e := 5) (l := [0, 1, 2, 3, 4]) (s' := [1]) kr kr rfl kr Rk_nil ?_
   refine NS_ld _ rfl rfl kr kr kr (c139.ld (o := 0) kr rfl) ?_
   refine NS_ld _ rfl rfl kr kr kr (c139.ld (o := 0) kr rfl) ?_
   refine NS_b 3 kr ?_
   refine NS_nil ?_
   obtain ⟨dv9, hd9, c9⟩ := (R144.ow T146).rqL hp hr_144
   replace c9 : Cl h146 (Gh.B (⟨Gh.B (⟨Gh.B (⟨Gh.B (⟨Gh.B (Gh.more G (fun b => vb (Value.slice va140 (List.map bv d).length vc140) = some b)), S141, C141, ro141⟩ : Gh), S142, C142, ro142⟩ : Gh), S143, C143, ro143⟩ : Gh), S144, C144, ro144⟩ : Gh) (.rq p no)) [nk ((W.setRq p no { W.rq p no with act := true, done := false, st := St.z, data := d }).rq p no).no, nv ((W.setRq p no { W.rq p no with act := true, done := false, st := St.z, data := d }).rq p no).peer, nv ((W.setRq p no { W.rq p no with act := true, done := false, st := St.z, data := d }).rq p no).ctx, nv ((W.setRq p no { W.rq p no with act := true, done := false, st := St.z, data := d }).rq p no).tag, nv ((W.setRq p no { W.rq p no with act := true, done := false, st := St.z, data := d }).rq p no).room, .bool ((W.setRq p no { W.rq p no with act := true, done := false, st := St.z, data := d }).rq p no).send, .bool ((W.setRq p no { W.rq p no with act := true, done := false, st := St.z, data := d }).rq p no).sync, .bool ((W.setRq p no { W.rq p no with act := true, done := false, st := St.z, data := d }).rq p no).pers, .bool ((W.setRq p no { W.rq p no with act := true, done := false, st := St.z, data := d }).rq p no).act, .bool ((W.setRq p no { W.rq p no with act := true, done := false, st := St.z, data := d }).rq p no).done, nk ((W.setRq p no { W.rq p no with act := true, done := false, st := St.z, data := d }).rq p no).parts, nk ((W.setRq p no { W.rq p no with act := true, done := false, st := St.z, data := d }).rq p no).size, dv9, (⟨Gh.B (⟨Gh.B (⟨Gh.B (⟨Gh.B (Gh.more G (fun b => vb (Value.slice va140 (List.map bv d).length vc140) = some b)), S141, C141, ro141⟩ : Gh), S142, C142, ro142⟩ : Gh), S143, C143, ro143⟩ : Gh), S144, C144, ro144⟩ : Gh).S (.pcs p no), nk ((W.setRq p no { W.rq p no with act := true, done := false, st := St.z, data := d }).rq p no).gone, (⟨Gh.B (⟨Gh.B (⟨Gh.B (⟨Gh.B (Gh.more G (fun b => vb (Value.slice va140 (List.map bv d).length vc140) = some b)), S141, C141, ro141⟩ : Gh), S142, C142, ro142⟩ : Gh), S143, C143, ro143⟩ : Gh), S144, C144, ro144⟩ : Gh).S (.snt p no), .bool ((W.setRq p no { W.rq p no with act := true, done := false, st := St.z, data := d }).rq p no).clr, nv ((W.setRq p no { W.rq p no with act := true, done := false, st := St.z, data := d }).rq p no).st.src, nv ((W.setRq p no { W.rq p no with act := true, done := false, st := St.z, data := d }).rq p no).st.tag, nv ((W.setRq p no { W.rq p no with act := true, done := false, st := St.z, data := d }).rq p no).st.size, nv ((W.setRq p no { W.rq p no with act := true, done := false, st := St.z, data := d }).rq p no).st.err] := c9
   obtain ⟨h147, e147, d147, t147, n147⟩ := c9.storeAt (P := Try.prog) (T := 43) (o := 17) (v := .agg ⟨[nv (-2), nv (-1), nv 0, nv 0]⟩) (vs := [nv (-2), nv (-1), nv 0, nv 0]) kr rfl (by simp) (List.all_eq_true.1 rfl)
   have N147 : Nxt ((W.setRq p no { W.rq p no with act := true, done := false, st := St.z, data := d }).setRq p no { ((W.setRq p no { W.rq p no with act := true, done := false, st := St.z, data := d }).rq p no) with st := ⟨-2, -1, 0, 0⟩ }) (⟨Gh.B (⟨Gh.B (⟨Gh.B (⟨Gh.B (Gh.more G (fun b => vb (Value.slice va140 (List.map bv d).length vc140) = some b)), S141, C141, ro141⟩ : Gh), S142, C142, ro142⟩ : Gh), S143, C143, ro143⟩ : Gh), S144, C144, ro144⟩ : Gh) h146 h147 := (R144.ow T146).stRq hp hr_144 (r := { ((W.setRq p no { W.rq p no with act := true, done := false, st := St.z, data := d }).rq p no) with st := ⟨-2, -1, 0, 0⟩ }) hd9 d147 t147 rfl rfl rfl
   clear hd9
   refine L_st _ rfl rfl rfl kr kr (e147) ?_
   obtain ⟨S147, C147, ro147, R147, Y147⟩ := N147
   have X147 := ((X144).ow T146).trans Y147
   have hr_147 := (Y147.keep _ hr_144).1
   have mZ6_141_142_143_144_147 : ¬ (Gh.mut ⟨Gh.B (⟨Gh.B (⟨Gh.B (⟨Gh.B (⟨Gh.B (Gh.more G (fun b => vb (Value.slice va140 (List.map bv d).length vc140) = some b)), S141, C141, ro141⟩ : Gh), S142, C142, ro142⟩ : Gh), S143, C143, ro143⟩ : Gh), S144, C144, ro144⟩ : Gh), S147, C147, ro147⟩) (h.next) ∧ ¬ (Gh.ro ⟨Gh.B (⟨Gh.B (⟨Gh.B (⟨Gh.B (⟨Gh.B (Gh.more G (fun b => vb (Value.slice va140 (List.map bv d).length vc140) = some b)), S141, C141, ro141⟩ : Gh), S142, C142, ro142⟩ : Gh), S143, C143, ro143⟩ : Gh), S144, C144, ro144⟩ : Gh), S147, C147, ro147⟩) (h.next) := ⟨fun hm => (Y147.mu _ hm).elim mZ6_141_142_143_144.1 (fun e => by have := c139.lt; omega), fun hm => (Y147.ron _ hm).elim mZ6_141_142_143_144.2 (fun e => by have := c139.lt; omega)⟩
   replace c139 := c139.sm Y147.sm mZ6_141_142_143_144.1
   have m145_147 : ¬ (Gh.mut ⟨Gh.B (⟨Gh.B (⟨Gh.B (⟨Gh.B (⟨Gh.B (Gh.more G (fun b => vb (Value.slice va140 (List.map bv d).length vc140) = some b)), S141, C141, ro141⟩ : Gh), S142, C142, ro142⟩ : Gh), S143, C143, ro143⟩ : Gh), S144, C144, ro144⟩ : Gh), S147, C147, ro147⟩) (h144.next) ∧ ¬ (Gh.ro ⟨Gh.B (⟨Gh.B (⟨Gh.B (⟨Gh.B (⟨Gh.B (Gh.more G (fun b => vb (Value.slice va140 (List.map bv d).length vc140) = some b)), S141, C141, ro141⟩ : Gh), S142, C142, ro142⟩ : Gh), S143, C143, ro143⟩ : Gh), S144, C144, ro144⟩ : Gh), S147, C147, ro147⟩) (h144.next) := ⟨fun hm => (Y147.mu _ hm).elim m145.1 (fun e => by have := c145.lt; omega), fun hm => (Y147.ron _ hm).elim m145.2 (fun e => by have := c145.lt; omega)⟩
   replace c145 := c145.sm Y147.sm m145.1
   have T147 : Sm (Ow h (⟨Gh.B (⟨Gh.B (⟨Gh.B (⟨Gh.B (⟨Gh.B (Gh.more G (fun b => vb (Value.slice va140 (List.map bv d).length vc140) = some b)), S141, C141, ro141⟩ : Gh), S142, C142, ro142⟩ : Gh), S143, C143, ro143⟩ : Gh), S144, C144, ro144⟩ : Gh), S147, C147, ro147⟩ : Gh)) h147 h147 := .refl
   refine L_nil ⟨rfl, ?_⟩
   refine D_e (e := 8) (l := [6, 7]) (s' := []) kr kr rfl kr (Rk_ld _ rfl rfl rfl kr (c139.ld (o := 0) kr rfl) kr Rk_nil) ?_
   refine NS_b 2 kr ?_
   refine NS_nil ?_
   obtain ⟨dv9, hd9, c9⟩ := (R147.ow T147).rqL hp hr_147
   replace c9 : Cl h147 (Gh.B (⟨Gh.B (⟨Gh.B (⟨Gh.B (⟨Gh.B (⟨Gh.B (Gh.more G (fun b => vb (Value.slice va140 (List.map bv d).length vc140) = some b)), S141, C141, ro141⟩ : Gh), S142, C142, ro142⟩ : Gh), S143, C143, ro143⟩ : Gh), S144, C144, ro144⟩ : Gh), S147, C147, ro147⟩ : Gh) (.rq p no)) [nk (((W.setRq p no { W.rq p no with act := true, done := false, st := St.z, data := d }).setRq p no { ((W.setRq p no { W.rq p no with act := true, done := false, st := St.z, data := d }).rq p no) with st := ⟨-2, -1, 0, 0⟩ }).rq p no).no, nv (((W.setRq p no { W.rq p no with act := true, done := false, st := St.z, data := d }).setRq p no { ((W.setRq p no { W.rq p no with act := true, done := false, st := St.z, data := d }).rq p no) with st := ⟨-2, -1, 0, 0⟩ }).rq p no).peer, nv (((W.setRq p no { W.rq p no with act := true, done := false, st := St.z, data := d }).setRq p no { ((W.setRq p no { W.rq p no with act := true, done := false, st := St.z, data := d }).rq p no) with st := ⟨-2, -1, 0, 0⟩ }).rq p no).ctx, nv (((W.setRq p no { W.rq p no with act := true, done := false, st := St.z, data := d }).setRq p no { ((W.setRq p no { W.rq p no with act := true, done := false, st := St.z, data := d }).rq p no) with st := ⟨-2, -1, 0, 0⟩ }).rq p no).tag, nv (((W.setRq p no { W.rq p no with act := true, done := false, st := St.z, data := d }).setRq p no { ((W.setRq p no { W.rq p no with act := true, done := false, st := St.z, data := d }).rq p no) with st := ⟨-2, -1, 0, 0⟩ }).rq p no).room, .bool (((W.setRq p no { W.rq p no with act := true, done := false, st := St.z, data := d }).setRq p no { ((W.setRq p no { W.rq p no with act := true, done := false, st := St.z, data := d }).rq p no) with st := ⟨-2, -1, 0, 0⟩ }).rq p no).send, .bool (((W.setRq p no { W.rq p no with act := true, done := false, st := St.z, data := d }).setRq p no { ((W.setRq p no { W.rq p no with act := true, done := false, st := St.z, data := d }).rq p no) with st := ⟨-2, -1, 0, 0⟩ }).rq p no).sync, .bool (((W.setRq p no { W.rq p no with act := true, done := false, st := St.z, data := d }).setRq p no { ((W.setRq p no { W.rq p no with act := true, done := false, st := St.z, data := d }).rq p no) with st := ⟨-2, -1, 0, 0⟩ }).rq p no).pers, .bool (((W.setRq p no { W.rq p no with act := true, done := false, st := St.z, data := d }).setRq p no { ((W.setRq p no { W.rq p no with act := true, done := false, st := St.z, data := d }).rq p no) with st := ⟨-2, -1, 0, 0⟩ }).rq p no).act, .bool (((W.setRq p no { W.rq p no with act := true, done := false, st := St.z, data := d }).setRq p no { ((W.setRq p no { W.rq p no with act := true, done := false, st := St.z, data := d }).rq p no) with st := ⟨-2, -1, 0, 0⟩ }).rq p no).done, nk (((W.setRq p no { W.rq p no with act := true, done := false, st := St.z, data := d }).setRq p no { ((W.setRq p no { W.rq p no with act := true, done := false, st := St.z, data := d }).rq p no) with st := ⟨-2, -1, 0, 0⟩ }).rq p no).parts, nk (((W.setRq p no { W.rq p no with act := true, done := false, st := St.z, data := d }).setRq p no { ((W.setRq p no { W.rq p no with act := true, done := false, st := St.z, data := d }).rq p no) with st := ⟨-2, -1, 0, 0⟩ }).rq p no).size, dv9, (⟨Gh.B (⟨Gh.B (⟨Gh.B (⟨Gh.B (⟨Gh.B (Gh.more G (fun b => vb (Value.slice va140 (List.map bv d).length vc140) = some b)), S141, C141, ro141⟩ : Gh), S142, C142, ro142⟩ : Gh), S143, C143, ro143⟩ : Gh), S144, C144, ro144⟩ : Gh), S147, C147, ro147⟩ : Gh).S (.pcs p no), nk (((W.setRq p no { W.rq p no with act := true, done := false, st := St.z, data := d }).setRq p no { ((W.setRq p no { W.rq p no with act := true, done := false, st := St.z, data := d }).rq p no) with st := ⟨-2, -1, 0, 0⟩ }).rq p no).gone, (⟨Gh.B (⟨Gh.B (⟨Gh.B (⟨Gh.B (⟨Gh.B (Gh.more G (fun b => vb (Value.slice va140 (List.map bv d).length vc140) = some b)), S141, C141, ro141⟩ : Gh), S142, C142, ro142⟩ : Gh), S143, C143, ro143⟩ : Gh), S144, C144, ro144⟩ : Gh), S147, C147, ro147⟩ : Gh).S (.snt p no), .bool (((W.setRq p no { W.rq p no with act := true, done := false, st := St.z, data := d }).setRq p no { ((W.setRq p no { W.rq p no with act := true, done := false, st := St.z, data := d }).rq p no) with st := ⟨-2, -1, 0, 0⟩ }).rq p no).clr, nv (((W.setRq p no { W.rq p no with act := true, done := false, st := St.z, data := d }).setRq p no { ((W.setRq p no { W.rq p no with act := true, done := false, st := St.z, data := d }).rq p no) with st := ⟨-2, -1, 0, 0⟩ }).rq p no).st.src, nv (((W.setRq p no { W.rq p no with act := true, done := false, st := St.z, data := d }).setRq p no { ((W.setRq p no { W.rq p no with act := true, done := false, st := St.z, data := d }).rq p no) with st := ⟨-2, -1, 0, 0⟩ }).rq p no).st.tag, nv (((W.setRq p no { W.rq p no with act := true, done := false, st := St.z, data := d }).setRq p no { ((W.setRq p no { W.rq p no with act := true, done := false, st := St.z, data := d }).rq p no) with st := ⟨-2, -1, 0, 0⟩ }).rq p no).st.size, nv (((W.setRq p no { W.rq p no with act := true, done := false, st := St.z, data := d }).setRq p no { ((W.setRq p no { W.rq p no with act := true, done := false, st := St.z, data := d }).rq p no) with st := ⟨-2, -1, 0, 0⟩ }).rq p no).st.err] := c9
   obtain ⟨h148, e148, d148, t148, n148⟩ := c9.store (P := Try.prog) (T := 4) (o := 9) (v := .bool true) kr rfl rfl (by simp)
   have N148 : Nxt (((W.setRq p no { W.rq p no with act := true, done := false, st := St.z, data := d }).setRq p no { ((W.setRq p no { W.rq p no with act := true, done := false, st := St.z, data := d }).rq p no) with st := ⟨-2, -1, 0, 0⟩ }).setRq p no { (((W.setRq p no { W.rq p no with act := true, done := false, st := St.z, data := d }).setRq p no { ((W.setRq p no { W.rq p no with act := true, done := false, st := St.z, data := d }).rq p no) with st := ⟨-2, -1, 0, 0⟩ }).rq p no) with done := true }) (⟨Gh.B (⟨Gh.B (⟨Gh.B (⟨Gh.B (⟨Gh.B (Gh.more G (fun b => vb (Value.slice va140 (List.map bv d).length vc140) = some b)), S141, C141, ro141⟩ : Gh), S142, C142, ro142⟩ : Gh), S143, C143, ro143⟩ : Gh), S144, C144, ro144⟩ : Gh), S147, C147, ro147⟩ : Gh) h147 h148 := (R147.ow T147).stRq hp hr_147 (r := { (((W.setRq p no { W.rq p no with act := true, done := false, st := St.z, data := d }).setRq p no { ((W.setRq p no { W.rq p no with act := true, done := false, st := St.z, data := d }).rq p no) with st := ⟨-2, -1, 0, 0⟩ }).rq p no) with done := true }) hd9 d148 t148 rfl rfl rfl
   clear hd9
   refine L_st _ rfl rfl rfl kr kr (e148) ?_
   obtain ⟨S148, C148, ro148, R148, Y148⟩ := N148
   have X148 := ((X147).ow T147).trans Y148
   have hr_148 := (Y148.keep _ hr_147).1
   have mZ6_141_142_143_144_147_148 : ¬ (Gh.mut ⟨Gh.B (⟨Gh.B (⟨Gh.B (⟨Gh.B (⟨Gh.B (⟨Gh.B (Gh.more G (fun b => vb (Value.slice va140 (List.map bv d).length vc140) = some b)), S141, C141, ro141⟩ : Gh), S142, C142, ro142⟩ : Gh), S143, C143, ro143⟩ : Gh), S144, C144, ro144⟩ : Gh), S147, C147, ro147⟩ : Gh), S148, C148, ro148⟩) (h.next) ∧ ¬ (Gh.ro ⟨Gh.B (⟨Gh.B (⟨Gh.B (⟨Gh.B (⟨Gh.B (⟨Gh.B (Gh.more G (fun b => vb (Value.slice va140 (List.map bv d).length vc140) = some b)), S141, C141, ro141⟩ : Gh), S142, C142, ro142⟩ : Gh), S143, C143, ro143⟩ : Gh), S144, C144, ro144⟩ : Gh), S147, C147, ro147⟩ : Gh), S148, C148, ro148⟩) (h.next) := ⟨fun hm => (Y148.mu _ hm).elim mZ6_141_142_143_144_147.1 (fun e => by have := c139.lt; omega), fun hm => (Y148.ron _ hm).elim mZ6_141_142_143_144_147.2 (fun e => by have := c139.lt; omega)⟩
   replace c139 := c139.sm Y148.sm mZ6_141_142_143_144_147.1
   have m145_147_148 : ¬ (Gh.mut ⟨Gh.B (⟨Gh.B (⟨Gh.B (⟨Gh.B (⟨Gh.B (⟨Gh.B (Gh.more G (fun b => vb (Value.slice va140 (List.map bv d).length vc140) = some b)), S141, C141, ro141⟩ : Gh), S142, C142, ro142⟩ : Gh), S143, C143, ro143⟩ : Gh), S144, C144, ro144⟩ : Gh), S147, C147, ro147⟩ : Gh), S148, C148, ro148⟩) (h144.next) ∧ ¬ (Gh.ro ⟨Gh.B (⟨Gh.B (⟨Gh.B (⟨Gh.B (⟨Gh.B (⟨Gh.B (Gh.more G (fun b => vb (Value.slice va140 (List.map bv d).length vc140) = some b)), S141, C141, ro141⟩ : Gh), S142, C142, ro142⟩ : Gh), S143, C143, ro143⟩ : Gh), S144, C144, ro144⟩ : Gh), S147, C147, ro147⟩ : Gh), S148, C148, ro148⟩) (h144.next) := ⟨fun hm => (Y148.mu _ hm).elim m145_147.1 (fun e => by have := c145.lt; omega), fun hm => (Y148.ron _ hm).elim m145_147.2 (fun e => by have := c145.lt; omega)⟩
   replace c145 := c145.sm Y148.sm m145_147.1
   have T148 : Sm (Ow h (⟨Gh.B (⟨Gh.B (⟨Gh.B (⟨Gh.B (⟨Gh.B (⟨Gh.B (Gh.more G (fun b => vb (Value.slice va140 (List.map bv d).length vc140) = some b)), S141, C141, ro141⟩ : Gh), S142, C142, ro142⟩ : Gh), S143, C143, ro143⟩ : Gh), S144, C144, ro144⟩ : Gh), S147, C147, ro147⟩ : Gh), S148, C148, ro148⟩ : Gh)) h148 h148 := .refl
   simp only [Wd.setRq_at, Wd.setRq_setRq] at R148
   refine L_nil ⟨rfl, ?_⟩
   refine D_l (l := []) kr kr Rk_nil ?_
   refine NS_nil ?_
   repeat with_reducible refine blk_norm ?_
   refine done_of (v := .tuple ⟨[]⟩) (.inr rfl) kr ?_
   exact ⟨_, _, _, (R148.ow T148), ((X148).ow T148)⟩
 rename_i hpeer
 have hpeer : ¬ (W.rq p no).peer = -2 := hpeer
 have hsm9 : ((W.setRq p no { W.rq p no with act := true, done := false, st := St.z, data := d }).rq p no).small := by rw [Wd.setRq_at]; exact hsm
 split at he
 · rename_i i hf
   have hf9 : ((W.setRq p no { W.rq p no with act := true, done := false, st := St.z, data := d }).pr p).msgs.findIdx? (fun m => ((W.setRq p no { W.rq p no with act := true, done := false, st := St.z, data := d }).rq p no).fits m.en) = some i := by rw [Wd.setRq_at]; exact hf
   obtain ⟨x, hx⟩ : ∃ x, (W.pr p).msgs[i]? = some x := ⟨_, List.getElem?_eq_getElem (find_lt hf)⟩
   rw [List.getD_eq_getElem?_getD, hx, Option.getD_some] at he
   refine Calls_of_W (n := 116) (fn := Try.f45) kr rfl rfl (Nat.le_of_ble_eq_true rfl) trivial ⟨.inr (by simp), rfl⟩ ?_
   have T0 : Sm Nix h h := .refl
   refine W_seq ?_
   refine W_region ?_
   refine L_nw (Al.cells [ptr (G.B (.rq p no))]) .ptr rfl rfl kr ?_
   have m149 : ¬ (Gh.mut G) h.next ∧ ¬ (Gh.ro G) h.next := ⟨(R.ext T0).op.new (Nat.le_refl _), (R.ext T0).op.newr (Nat.le_refl _)⟩
   have c149 : Cl (h.push (Al.cells [ptr (G.B (.rq p no))]).obj) h.next [ptr (G.B (.rq p no))] := Cl.new h _
   have t149 : Sm Nix h (h.push (Al.cells [ptr (G.B (.rq p no))]).obj) := .push h _
   have n149 : (h.push (Al.cells [ptr (G.B (.rq p no))]).obj).next = h.next + 1 := rfl
   generalize h.push (Al.cells [ptr (G.B (.rq p no))]).obj = h149 at c149 t149 n149 ⊢
   have T149 : Sm Nix h h149 := T0.ext t149
   have N149 := T149.nx
   refine L_nil ?_
   refine W_seq ?_
   refine W_drawn kr ?_
   refine D_e (e := 6) (l := [0, 1, 2, 3, 4, 5]) (s' := [0, 1, 2, 3, 4]) kr kr rfl kr Rk_nil ?_
   refine NS_ld _ rfl rfl kr kr kr (c149.ld (o := 0) kr rfl) ?_
   refine NS_ld _ rfl rfl kr kr kr (c149.ld (o := 0) kr rfl) ?_
   refine NS_ld _ rfl rfl kr kr kr (c149.ld (o := 0) kr rfl) ?_
   refine NS_ld _ rfl rfl kr kr kr (c149.ld (o := 0) kr rfl) ?_
   refine NS_b 2 kr ?_
   refine NS_nil ?_
   refine L_c rfl rfl kr (clone_by (H.ext T149) (bv_one d) (by rw [List.length_map]; exact hld)) ?_
   rintro v150 h150 ⟨r150, k150, t150, f150, s150⟩
   dsimp only at r150 k150 t150 f150 s150
   obtain ⟨R150, X150⟩ := (R.ext T149).more (Q := fun b => vb v150 = some b) t150 (fun b hb => (f150 b hb).1) (fun b hb => (f150 b hb).2)
   obtain ⟨va150, vc150, ev150⟩ := r150.form
   subst ev150
   have hdv : Dr h150 (G.more (fun b => vb (Value.slice va150 (List.map bv d).length vc150) = some b)).ro (.slice va150 (List.map bv d).length vc150) d := ⟨r150, fun b hb => .inr hb⟩
   have mZ6 : ¬ (Gh.mut (G.more (fun b => vb (Value.slice va150 (List.map bv d).length vc150) = some b))) (h.next) ∧ ¬ (Gh.ro (G.more (fun b => vb (Value.slice va150 (List.map bv d).length vc150) = some b))) (h.next) := ⟨fun hm => by obtain ⟨r, q1, q2⟩ := hm; rw [V_more] at q2; exact m149.1 ⟨r, q1, q2⟩, fun hm => hm.elim m149.2 (fun e => by have := (f150 _ e).1; have := c149.lt; omega)⟩
   have X150x := (Gx.of T149).trans X150
   replace c149 := c149.ext t150
   have T150 : Sm Nix h150 h150 := .refl
   refine L_nil ⟨rfl, ?_⟩
   refine D_e (e := 9) (l := [7, 8]) (s' := [1, 2, 3, 4]) kr kr rfl kr (Rk_ld _ rfl rfl rfl kr (c149.ld (o := 0) kr rfl) kr (Rk_ld _ rfl rfl rfl kr (c149.ld (o := 0) kr rfl) kr (Rk_ld _ rfl rfl rfl kr (c149.ld (o := 0) kr rfl) kr (Rk_ld _ rfl rfl rfl kr (c149.ld (o := 0) kr rfl) kr (Rk_1 rfl rfl Rk_nil))))) ?_
   refine NS_b 2 kr ?_
   refine NS_nil ?_
   obtain ⟨dv9, hd9, c9⟩ := (R150.ext T150).rqL hp hr
   replace c9 : Cl h150 (Gh.B (Gh.more G (fun b => vb (Value.slice va150 (List.map bv d).length vc150) = some b)) (.rq p no)) [nk (W.rq p no).no, nv (W.rq p no).peer, nv (W.rq p no).ctx, nv (W.rq p no).tag, nv (W.rq p no).room, .bool (W.rq p no).send, .bool (W.rq p no).sync, .bool (W.rq p no).pers, .bool (W.rq p no).act, .bool (W.rq p no).done, nk (W.rq p no).parts, nk (W.rq p no).size, dv9, (Gh.more G (fun b => vb (Value.slice va150 (List.map bv d).length vc150) = some b)).S (.pcs p no), nk (W.rq p no).gone, (Gh.more G (fun b => vb (Value.slice va150 (List.map bv d).length vc150) = some b)).S (.snt p no), .bool (W.rq p no).clr, nv (W.rq p no).st.src, nv (W.rq p no).st.tag, nv (W.rq p no).st.size, nv (W.rq p no).st.err] := c9
   obtain ⟨h151, e151, d151, t151, n151⟩ := c9.store (P := Try.prog) (T := 4) (o := 8) (v := .bool true) kr rfl rfl (by simp)
   have N151 : Nxt (W.setRq p no { (W.rq p no) with act := true }) (Gh.more G (fun b => vb (Value.slice va150 (List.map bv d).length vc150) = some b)) h150 h151 := (R150.ext T150).stRq hp hr (r := { (W.rq p no) with act := true }) hd9 d151 t151 rfl rfl rfl
   clear hd9
   refine L_st _ rfl rfl rfl kr kr (e151) ?_
   obtain ⟨S151, C151, ro151, R151, Y151⟩ := N151
   have X151 := ((X150x).trans (Gx.of T150)).trans Y151
   have hr_151 := (Y151.keep _ hr).1
   have hdv_151 := Dr.mono0 hdv (Gx.dr Y151 (R150.ext T150).op)
   have mZ6_151 : ¬ (Gh.mut ⟨Gh.B (Gh.more G (fun b => vb (Value.slice va150 (List.map bv d).length vc150) = some b)), S151, C151, ro151⟩) (h.next) ∧ ¬ (Gh.ro ⟨Gh.B (Gh.more G (fun b => vb (Value.slice va150 (List.map bv d).length vc150) = some b)), S151, C151, ro151⟩) (h.next) := ⟨fun hm => (Y151.mu _ hm).elim mZ6.1 (fun e => by have := c149.lt; omega), fun hm => (Y151.ron _ hm).elim mZ6.2 (fun e => by have := c149.lt; omega)⟩
   replace c149 := c149.sm Y151.sm mZ6.1
   have T151 : Sm (Ow h (⟨Gh.B (Gh.more G (fun b => vb (Value.slice va150 (List.map bv d).length vc150) = some b)), S151, C151, ro151⟩ : Gh)) h151 h151 := .refl
   refine L_nil ⟨rfl, ?_⟩
   refine D_e (e := 12) (l := [10, 11]) (s' := [2, 3, 4]) kr kr rfl kr (Rk_ld _ rfl rfl rfl kr (c149.ld (o := 0) kr rfl) kr (Rk_ld _ rfl rfl rfl kr (c149.ld (o := 0) kr rfl) kr (Rk_ld _ rfl rfl rfl kr (c149.ld (o := 0) kr rfl) kr (Rk_1 rfl rfl Rk_nil)))) ?_
   refine NS_b 2 kr ?_
   refine NS_nil ?_
   obtain ⟨dv9, hd9, c9⟩ := (R151.ow T151).rqL hp hr_151
   replace c9 : Cl h151 (Gh.B (⟨Gh.B (Gh.more G (fun b => vb (Value.slice va150 (List.map bv d).length vc150) = some b)), S151, C151, ro151⟩ : Gh) (.rq p no)) [nk ((W.setRq p no { (W.rq p no) with act := true }).rq p no).no, nv ((W.setRq p no { (W.rq p no) with act := true }).rq p no).peer, nv ((W.setRq p no { (W.rq p no) with act := true }).rq p no).ctx, nv ((W.setRq p no { (W.rq p no) with act := true }).rq p no).tag, nv ((W.setRq p no { (W.rq p no) with act := true }).rq p no).room, .bool ((W.setRq p no { (W.rq p no) with act := true }).rq p no).send, .bool ((W.setRq p no { (W.rq p no) with act := true }).rq p no).sync, .bool ((W.setRq p no { (W.rq p no) with act := true }).rq p no).pers, .bool ((W.setRq p no { (W.rq p no) with act := true }).rq p no).act, .bool ((W.setRq p no { (W.rq p no) with act := true }).rq p no).done, nk ((W.setRq p no { (W.rq p no) with act := true }).rq p no).parts, nk ((W.setRq p no { (W.rq p no) with act := true }).rq p no).size, dv9, (⟨Gh.B (Gh.more G (fun b => vb (Value.slice va150 (List.map bv d).length vc150) = some b)), S151, C151, ro151⟩ : Gh).S (.pcs p no), nk ((W.setRq p no { (W.rq p no) with act := true }).rq p no).gone, (⟨Gh.B (Gh.more G (fun b => vb (Value.slice va150 (List.map bv d).length vc150) = some b)), S151, C151, ro151⟩ : Gh).S (.snt p no), .bool ((W.setRq p no { (W.rq p no) with act := true }).rq p no).clr, nv ((W.setRq p no { (W.rq p no) with act := true }).rq p no).st.src, nv ((W.setRq p no { (W.rq p no) with act := true }).rq p no).st.tag, nv ((W.setRq p no { (W.rq p no) with act := true }).rq p no).st.size, nv ((W.setRq p no { (W.rq p no) with act := true }).rq p no).st.err] := c9
   obtain ⟨h152, e152, d152, t152, n152⟩ := c9.store (P := Try.prog) (T := 4) (o := 9) (v := .bool false) kr rfl rfl (by simp)
   have N152 : Nxt ((W.setRq p no { (W.rq p no) with act := true }).setRq p no { ((W.setRq p no { (W.rq p no) with act := true }).rq p no) with done := false }) (⟨Gh.B (Gh.more G (fun b => vb (Value.slice va150 (List.map bv d).length vc150) = some b)), S151, C151, ro151⟩ : Gh) h151 h152 := (R151.ow T151).stRq hp hr_151 (r := { ((W.setRq p no { (W.rq p no) with act := true }).rq p no) with done := false }) hd9 d152 t152 rfl rfl rfl
   clear hd9
   refine L_st _ rfl rfl rfl kr kr (e152) ?_
   obtain ⟨S152, C152, ro152, R152, Y152⟩ := N152
   have X152 := ((X151).ow T151).trans Y152
   have hr_152 := (Y152.keep _ hr_151).1
   have hdv_152 := Dr.mono0 hdv_151 (Gx.dr Y152 (R151.ow T151).op)
   have mZ6_151_152 : ¬ (Gh.mut ⟨Gh.B (⟨Gh.B (Gh.more G (fun b => vb (Value.slice va150 (List.map bv d).length vc150) = some b)), S151, C151, ro151⟩ : Gh), S152, C152, ro152⟩) (h.next) ∧ ¬ (Gh.ro ⟨Gh.B (⟨Gh.B (Gh.more G (fun b => vb (Value.slice va150 (List.map bv d).length vc150) = some b)), S151, C151, ro151⟩ : Gh), S152, C152, ro152⟩) (h.next) := ⟨fun hm => (Y152.mu _ hm).elim mZ6_151.1 (fun e => by have := c149.lt; omega), fun hm => (Y152.ron _ hm).elim mZ6_151.2 (fun e => by have := c149.lt; omega)⟩
   replace c149 := c149.sm Y152.sm mZ6_151.1
   have T152 : Sm (Ow h (⟨Gh.B (⟨Gh.B (Gh.more G (fun b => vb (Value.slice va150 (List.map bv d).length vc150) = some b)), S151, C151, ro151⟩ : Gh), S152, C152, ro152⟩ : Gh)) h152 h152 := .refl
   refine L_nil ⟨rfl, ?_⟩
   refine D_e (e := 15) (l := [13, 14]) (s' := [3]) kr kr rfl kr (Rk_ld _ rfl rfl rfl kr (c149.ld (o := 0) kr rfl) kr (Rk_ld _ rfl rfl rfl kr (c149.ld (o := 0) kr rfl) kr (Rk_1 rfl rfl Rk_nil))) ?_
   refine NS_b 2 kr ?_
   refine NS_nil ?_
   obtain ⟨dv9, hd9, c9⟩ := (R152.ow T152).rqL hp hr_152
   replace c9 : Cl h152 (Gh.B (⟨Gh.B (⟨Gh.B (Gh.more G (fun b => vb (Value.slice va150 (List.map bv d).length vc150) = some b)), S151, C151, ro151⟩ : Gh), S152, C152, ro152⟩ : Gh) (.rq p no)) [nk (((W.setRq p no { (W.rq p no) with act := true }).setRq p no { ((W.setRq p no { (W.rq p no) with act := true }).rq p no) with done := false }).rq p no).no, nv (((W.setRq p no { (W.rq p no) with act := true }).setRq p no { ((W.setRq p no { (W.rq p no) with act := true }).rq p no) with done := false }).rq p no).peer, nv (((W.setRq p no { (W.rq p no) with act := true }).setRq p no { ((W.setRq p no { (W.rq p no) with act := true }).rq p no) with done := false }).rq p no).ctx, nv (((W.setRq p no { (W.rq p no) with act := true }).setRq p no { ((W.setRq p no { (W.rq p no) with act := true }).rq p no) with done := false }).rq p no).tag, nv (((W.setRq p no { (W.rq p no) with act := true }).setRq p no { ((W.setRq p no { (W.rq p no) with act := true }).rq p no) with done := false }).rq p no).room, .bool (((W.setRq p no { (W.rq p no) with act := true }).setRq p no { ((W.setRq p no { (W.rq p no) with act := true }).rq p no) with done := false }).rq p no).send, .bool (((W.setRq p no { (W.rq p no) with act := true }).setRq p no { ((W.setRq p no { (W.rq p no) with act := true }).rq p no) with done := false }).rq p no).sync, .bool (((W.setRq p no { (W.rq p no) with act := true }).setRq p no { ((W.setRq p no { (W.rq p no) with act := true }).rq p no) with done := false }).rq p no).pers, .bool (((W.setRq p no { (W.rq p no) with act := true }).setRq p no { ((W.setRq p no { (W.rq p no) with act := true }).rq p no) with done := false }).rq p no).act, .bool (((W.setRq p no { (W.rq p no) with act := true }).setRq p no { ((W.setRq p no { (W.rq p no) with act := true }).rq p no) with done := false }).rq p no).done, nk (((W.setRq p no { (W.rq p no) with act := true }).setRq p no { ((W.setRq p no { (W.rq p no) with act := true }).rq p no) with done := false }).rq p no).parts, nk (((W.setRq p no { (W.rq p no) with act := true }).setRq p no { ((W.setRq p no { (W.rq p no) with act := true }).rq p no) with done := false }).rq p no).size, dv9, (⟨Gh.B (⟨Gh.B (Gh.more G (fun b => vb (Value.slice va150 (List.map bv d).length vc150) = some b)), S151, C151, ro151⟩ : Gh), S152, C152, ro152⟩ : Gh).S (.pcs p no), nk (((W.setRq p no { (W.rq p no) with act := true }).setRq p no { ((W.setRq p no { (W.rq p no) with act := true }).rq p no) with done := false }).rq p no).gone, (⟨Gh.B (⟨Gh.B (Gh.more G (fun b => vb (Value.slice va150 (List.map bv d).length vc150) = some b)), S151, C151, ro151⟩ : Gh), S152, C152, ro152⟩ : Gh).S (.snt p no), .bool (((W.setRq p no { (W.rq p no) with act := true }).setRq p no { ((W.setRq p no { (W.rq p no) with act := true }).rq p no) with done := false }).rq p no).clr, nv (((W.setRq p no { (W.rq p no) with act := true }).setRq p no { ((W.setRq p no { (W.rq p no) with act := true }).rq p no) with done := false }).rq p no).st.src, nv (((W.setRq p no { (W.rq p no) with act := true }).setRq p no { ((W.setRq p no { (W.rq p no) with act := true }).rq p no) with done := false }).rq p no).st.tag, nv (((W.setRq p no { (W.rq p no) with act := true }).setRq p no { ((W.setRq p no { (W.rq p no) with act := true }).rq p no) with done := false }).rq p no).st.size, nv (((W.setRq p no { (W.rq p no) with act := true }).setRq p no { ((W.setRq p no { (W.rq p no) with act := true }).rq p no) with done := false }).rq p no).st.err] := c9
   obtain ⟨h153, e153, d153, t153, n153⟩ := c9.storeAt (P := Try.prog) (T := 43) (o := 17) (v := .agg ⟨[nv 0, nv 0, nv 0, nv 0]⟩) (vs := [nv 0, nv 0, nv 0, nv 0]) kr rfl (by simp) (List.all_eq_true.1 rfl)
   have N153 : Nxt (((W.setRq p no { (W.rq p no) with act := true }).setRq p no { ((W.setRq p no { (W.rq p no) with act := true }).rq p no) with done := false }).setRq p no { (((W.setRq p no { (W.rq p no) with act := true }).setRq p no { ((W.setRq p no { (W.rq p no) with act := true }).rq p no) with done := false }).rq p no) with st := St.z }) (⟨Gh.B (⟨Gh.B (Gh.more G (fun b => vb (Value.slice va150 (List.map bv d).length vc150) = some b)), S151, C151, ro151⟩ : Gh), S152, C152, ro152⟩ : Gh) h152 h153 := (R152.ow T152).stRq hp hr_152 (r := { (((W.setRq p no { (W.rq p no) with act := true }).setRq p no { ((W.setRq p no { (W.rq p no) with act := true }).rq p no) with done := false }).rq p no) with st := St.z }) hd9 d153 t153 rfl rfl rfl
   clear hd9
   refine L_st _ rfl rfl rfl kr kr (e153) ?_
   obtain ⟨S153, C153, ro153, R153, Y153⟩ := N153
   have X153 := ((X152).ow T152).trans Y153
   have hr_153 := (Y153.keep _ hr_152).1
   have hdv_153 := Dr.mono0 hdv_152 (Gx.dr Y153 (R152.ow T152).op)
   have mZ6_151_152_153 : ¬ (Gh.mut ⟨Gh.B (⟨Gh.B (⟨Gh.B (Gh.more G (fun b => vb (Value.slice va150 (List.map bv d).length vc150) = some b)), S151, C151, ro151⟩ : Gh), S152, C152, ro152⟩ : Gh), S153, C153, ro153⟩) (h.next) ∧ ¬ (Gh.ro ⟨Gh.B (⟨Gh.B (⟨Gh.B (Gh.more G (fun b => vb (Value.slice va150 (List.map bv d).length vc150) = some b)), S151, C151, ro151⟩ : Gh), S152, C152, ro152⟩ : Gh), S153, C153, ro153⟩) (h.next) := ⟨fun hm => (Y153.mu _ hm).elim mZ6_151_152.1 (fun e => by have := c149.lt; omega), fun hm => (Y153.ron _ hm).elim mZ6_151_152.2 (fun e => by have := c149.lt; omega)⟩
   replace c149 := c149.sm Y153.sm mZ6_151_152.1
   have T153 : Sm (Ow h (⟨Gh.B (⟨Gh.B (⟨Gh.B (Gh.more G (fun b => vb (Value.slice va150 (List.map bv d).length vc150) = some b)), S151, C151, ro151⟩ : Gh), S152, C152, ro152⟩ : Gh), S153, C153, ro153⟩ : Gh)) h153 h153 := .refl
   refine L_nil ⟨rfl, ?_⟩
   refine D_e (e := 18) (l := [16, 17]) (s' := []) kr kr rfl kr (Rk_ld _ rfl rfl rfl kr (c149.ld (o := 0) kr rfl) kr Rk_nil) ?_
   refine NS_b 2 kr ?_
   refine NS_nil ?_
   obtain ⟨dv9, hd9, c9⟩ := (R153.ow T153).rqL hp hr_153
   replace c9 : Arm.Cl h153 (Gh.B (⟨Gh.B (⟨Gh.B (⟨Gh.B (Gh.more G (fun b => vb (Value.slice va150 (List.map bv d).length vc150) = some b)), S151, C151, ro151⟩ : Gh), S152, C152, ro152⟩ : Gh), S153, C153, ro153⟩ : Gh) (.rq p no)) [nk ((((W.setRq p no { (W.rq p no) with act := true }).setRq p no { ((W.setRq p no { (W.rq p no) with act := true }).rq p no) with done := false }).setRq p no { (((W.setRq p no { (W.rq p no) with act := true }).setRq p no { ((W.setRq p no { (W.rq p no) with act := true }).rq p no) with done := false }).rq p no) with st := St.z }).rq p no).no, nv ((((W.setRq p no { (W.rq p no) with act := true }).setRq p no { ((W.setRq p no { (W.rq p no) with act := true }).rq p no) with done := false }).setRq p no { (((W.setRq p no { (W.rq p no) with act := true }).setRq p no { ((W.setRq p no { (W.rq p no) with act := true }).rq p no) with done := false }).rq p no) with st := St.z }).rq p no).peer, nv ((((W.setRq p no { (W.rq p no) with act := true }).setRq p no { ((W.setRq p no { (W.rq p no) with act := true }).rq p no) with done := false }).setRq p no { (((W.setRq p no { (W.rq p no) with act := true }).setRq p no { ((W.setRq p no { (W.rq p no) with act := true }).rq p no) with done := false }).rq p no) with st := St.z }).rq p no).ctx, nv ((((W.setRq p no { (W.rq p no) with act := true }).setRq p no { ((W.setRq p no { (W.rq p no) with act := true }).rq p no) with done := false }).setRq p no { (((W.setRq p no { (W.rq p no) with act := true }).setRq p no { ((W.setRq p no { (W.rq p no) with act := true }).rq p no) with done := false }).rq p no) with st := St.z }).rq p no).tag, nv ((((W.setRq p no { (W.rq p no) with act := true }).setRq p no { ((W.setRq p no { (W.rq p no) with act := true }).rq p no) with done := false }).setRq p no { (((W.setRq p no { (W.rq p no) with act := true }).setRq p no { ((W.setRq p no { (W.rq p no) with act := true }).rq p no) with done := false }).rq p no) with st := St.z }).rq p no).room, .bool ((((W.setRq p no { (W.rq p no) with act := true }).setRq p no { ((W.setRq p no { (W.rq p no) with act := true }).rq p no) with done := false }).setRq p no { (((W.setRq p no { (W.rq p no) with act := true }).setRq p no { ((W.setRq p no { (W.rq p no) with act := true }).rq p no) with done := false }).rq p no) with st := St.z }).rq p no).send, .bool ((((W.setRq p no { (W.rq p no) with act := true }).setRq p no { ((W.setRq p no { (W.rq p no) with act := true }).rq p no) with done := false }).setRq p no { (((W.setRq p no { (W.rq p no) with act := true }).setRq p no { ((W.setRq p no { (W.rq p no) with act := true }).rq p no) with done := false }).rq p no) with st := St.z }).rq p no).sync, .bool ((((W.setRq p no { (W.rq p no) with act := true }).setRq p no { ((W.setRq p no { (W.rq p no) with act := true }).rq p no) with done := false }).setRq p no { (((W.setRq p no { (W.rq p no) with act := true }).setRq p no { ((W.setRq p no { (W.rq p no) with act := true }).rq p no) with done := false }).rq p no) with st := St.z }).rq p no).pers, .bool ((((W.setRq p no { (W.rq p no) with act := true }).setRq p no { ((W.setRq p no { (W.rq p no) with act := true }).rq p no) with done := false }).setRq p no { (((W.setRq p no { (W.rq p no) with act := true }).setRq p no { ((W.setRq p no { (W.rq p no) with act := true }).rq p no) with done := false }).rq p no) with st := St.z }).rq p no).act, .bool ((((W.setRq p no { (W.rq p no) with act := true }).setRq p no { ((W.setRq p no { (W.rq p no) with act := true }).rq p no) with done := false }).setRq p no { (((W.setRq p no { (W.rq p no) with act := true }).setRq p no { ((W.setRq p no { (W.rq p no) with act := true }).rq p no) with done := false }).rq p no) with st := St.z }).rq p no).done, nk ((((W.setRq p no { (W.rq p no) with act := true }).setRq p no { ((W.setRq p no { (W.rq p no) with act := true }).rq p no) with done := false }).setRq p no { (((W.setRq p no { (W.rq p no) with act := true }).setRq p no { ((W.setRq p no { (W.rq p no) with act := true }).rq p no) with done := false }).rq p no) with st := St.z }).rq p no).parts, nk ((((W.setRq p no { (W.rq p no) with act := true }).setRq p no { ((W.setRq p no { (W.rq p no) with act := true }).rq p no) with done := false }).setRq p no { (((W.setRq p no { (W.rq p no) with act := true }).setRq p no { ((W.setRq p no { (W.rq p no) with act := true }).rq p no) with done := false }).rq p no) with st := St.z }).rq p no).size, dv9, (⟨Gh.B (⟨Gh.B (⟨Gh.B (Gh.more G (fun b => vb (Value.slice va150 (List.map bv d).length vc150) = some b)), S151, C151, ro151⟩ : Gh), S152, C152, ro152⟩ : Gh), S153, C153, ro153⟩ : Gh).S (.pcs p no), nk ((((W.setRq p no { (W.rq p no) with act := true }).setRq p no { ((W.setRq p no { (W.rq p no) with act := true }).rq p no) with done := false }).setRq p no { (((W.setRq p no { (W.rq p no) with act := true }).setRq p no { ((W.setRq p no { (W.rq p no) with act := true }).rq p no) with done := false }).rq p no) with st := St.z }).rq p no).gone, (⟨Gh.B (⟨Gh.B (⟨Gh.B (Gh.more G (fun b => vb (Value.slice va150 (List.map bv d).length vc150) = some b)), S151, C151, ro151⟩ : Gh), S152, C152, ro152⟩ : Gh), S153, C153, ro153⟩ : Gh).S (.snt p no), .bool ((((W.setRq p no { (W.rq p no) with act := true }).setRq p no { ((W.setRq p no { (W.rq p no) with act := true }).rq p no) with done := false }).setRq p no { (((W.setRq p no { (W.rq p no) with act := true }).setRq p no { ((W.setRq p no { (W.rq p no) with act := true }).rq p no) with done := false }).rq p no) with st := St.z }).rq p no).clr, nv ((((W.setRq p no { (W.rq p no) with act := true }).setRq p no { ((W.setRq p no { (W.rq p no) with act := true }).rq p no) with done := false }).setRq p no { (((W.setRq p no { (W.rq p no) with act := true }).setRq p no { ((W.setRq p no { (W.rq p no) with act := true }).rq p no) with done := false }).rq p no) with st := St.z }).rq p no).st.src, nv ((((W.setRq p no { (W.rq p no) with act := true }).setRq p no { ((W.setRq p no { (W.rq p no) with act := true }).rq p no) with done := false }).setRq p no { (((W.setRq p no { (W.rq p no) with act := true }).setRq p no { ((W.setRq p no { (W.rq p no) with act := true }).rq p no) with done := false }).rq p no) with st := St.z }).rq p no).st.tag, nv ((((W.setRq p no { (W.rq p no) with act := true }).setRq p no { ((W.setRq p no { (W.rq p no) with act := true }).rq p no) with done := false }).setRq p no { (((W.setRq p no { (W.rq p no) with act := true }).setRq p no { ((W.setRq p no { (W.rq p no) with act := true }).rq p no) with done := false }).rq p no) with st := St.z }).rq p no).st.size, nv ((((W.setRq p no { (W.rq p no) with act := true }).setRq p no { ((W.setRq p no { (W.rq p no) with act := true }).rq p no) with done := false }).setRq p no { (((W.setRq p no { (W.rq p no) with act := true }).setRq p no { ((W.setRq p no { (W.rq p no) with act := true }).rq p no) with done := false }).rq p no) with st := St.z }).rq p no).st.err] := c9
   obtain ⟨h154, e154, d154, t154, n154⟩ := c9.store (P := Try.prog) (T := 23) (o := 12) (v := .slice va150 (List.map bv d).length vc150) kr rfl rfl (by simp)
   have N154 : Nxt (((((W.setRq p no { (W.rq p no) with act := true }).setRq p no { ((W.setRq p no { (W.rq p no) with act := true }).rq p no) with done := false }).setRq p no { (((W.setRq p no { (W.rq p no) with act := true }).setRq p no { ((W.setRq p no { (W.rq p no) with act := true }).rq p no) with done := false }).rq p no) with st := St.z }).setRq p no { ((((W.setRq p no { (W.rq p no) with act := true }).setRq p no { ((W.setRq p no { (W.rq p no) with act := true }).rq p no) with done := false }).setRq p no { (((W.setRq p no { (W.rq p no) with act := true }).setRq p no { ((W.setRq p no { (W.rq p no) with act := true }).rq p no) with done := false }).rq p no) with st := St.z }).rq p no) with data := d })) (⟨Gh.B (⟨Gh.B (⟨Gh.B (Gh.more G (fun b => vb (Value.slice va150 (List.map bv d).length vc150) = some b)), S151, C151, ro151⟩ : Gh), S152, C152, ro152⟩ : Gh), S153, C153, ro153⟩ : Gh) h153 h154 := by
    have := (R153.ow T153).setRq hp hr_153 (r := { ((((W.setRq p no { (W.rq p no) with act := true }).setRq p no { ((W.setRq p no { (W.rq p no) with act := true }).rq p no) with done := false }).setRq p no { (((W.setRq p no { (W.rq p no) with act := true }).setRq p no { ((W.setRq p no { (W.rq p no) with act := true }).rq p no) with done := false }).rq p no) with st := St.z }).rq p no) with data := d }) (dv := .slice va150 (List.map bv d).length vc150) d154 t154 (fun k hk => .inl hk) (((R153.ow T153).op.dr (t154.mono fun k hk => ⟨.rq p no, hr_153, by subst hk; rfl⟩)) _ _ hdv_153) rfl rfl
    exact ⟨_, _, _, this⟩
   clear hd9
   refine L_st _ rfl rfl rfl kr kr (e154) ?_
   obtain ⟨S154, C154, ro154, R154, Y154⟩ := N154
   have X154 := ((X153).ow T153).trans Y154
   have hr_154 := (Y154.keep _ hr_153).1
   have hdv_154 := Dr.mono0 hdv_153 (Gx.dr Y154 (R153.ow T153).op)
   have mZ6_151_152_153_154 : ¬ (Gh.mut ⟨Gh.B (⟨Gh.B (⟨Gh.B (⟨Gh.B (Gh.more G (fun b => vb (Value.slice va150 (List.map bv d).length vc150) = some b)), S151, C151, ro151⟩ : Gh), S152, C152, ro152⟩ : Gh), S153, C153, ro153⟩ : Gh), S154, C154, ro154⟩) (h.next) ∧ ¬ (Gh.ro ⟨Gh.B (⟨Gh.B (⟨Gh.B (⟨Gh.B (Gh.more G (fun b => vb (Value.slice va150 (List.map bv d).length vc150) = some b)), S151, C151, ro151⟩ : Gh), S152, C152, ro152⟩ : Gh), S153, C153, ro153⟩ : Gh), S154, C154, ro154⟩) (h.next) := ⟨fun hm => (Y154.mu _ hm).elim mZ6_151_152_153.1 (fun e => by have := c149.lt; omega), fun hm => (Y154.ron _ hm).elim mZ6_151_152_153.2 (fun e => by have := c149.lt; omega)⟩
   replace c149 := c149.sm Y154.sm mZ6_151_152_153.1
   have T154 : Sm (Ow h (⟨Gh.B (⟨Gh.B (⟨Gh.B (⟨Gh.B (Gh.more G (fun b => vb (Value.slice va150 (List.map bv d).length vc150) = some b)), S151, C151, ro151⟩ : Gh), S152, C152, ro152⟩ : Gh), S153, C153, ro153⟩ : Gh), S154, C154, ro154⟩ : Gh)) h154 h154 := .refl
   have eW : ((((W.setRq p no { (W.rq p no) with act := true }).setRq p no { ((W.setRq p no { (W.rq p no) with act := true }).rq p no) with done := false }).setRq p no { (((W.setRq p no { (W.rq p no) with act := true }).setRq p no { ((W.setRq p no { (W.rq p no) with act := true }).rq p no) with done := false }).rq p no) with st := St.z }).setRq p no { ((((W.setRq p no { (W.rq p no) with act := true }).setRq p no { ((W.setRq p no { (W.rq p no) with act := true }).rq p no) with done := false }).setRq p no { (((W.setRq p no { (W.rq p no) with act := true }).setRq p no { ((W.setRq p no { (W.rq p no) with act := true }).rq p no) with done := false }).rq p no) with st := St.z }).rq p no) with data := d }) = W.setRq p no { W.rq p no with act := true, done := false, st := St.z, data := d } := by simp only [Wd.setRq_at, Wd.setRq_setRq]
   rw [eW] at R154
   have eR : (W.setRq p no { W.rq p no with act := true, done := false, st := St.z, data := d }).rq p no = { W.rq p no with act := true, done := false, st := St.z, data := d } := Wd.setRq_at _ _ _ _
   obtain ⟨dvz, hdz, cz⟩ := R154.rqL (p := p) hp hr_154
   rw [eR] at hdz cz
   replace cz : Arm.Cl h154 (G.B (.rq p no)) [nk (W.rq p no).no, nv (W.rq p no).peer, nv (W.rq p no).ctx, nv (W.rq p no).tag, nv (W.rq p no).room, .bool (W.rq p no).send, .bool (W.rq p no).sync, .bool (W.rq p no).pers, .bool true, .bool false, nk (W.rq p no).parts, nk (W.rq p no).size, dvz, (⟨G.B, S154, C154, ro154⟩ : Gh).S (.pcs p no), nk (W.rq p no).gone, (⟨G.B, S154, C154, ro154⟩ : Gh).S (.snt p no), .bool (W.rq p no).clr, nv 0, nv 0, nv 0, nv 0] := cz
   have l6 := c149.lt
   refine L_nil ⟨rfl, ?_⟩
   refine D_l (l := []) kr kr Rk_nil ?_
   refine NS_nil ?_
   refine W_seq ?_
   refine W_drawn kr ?_
   refine D_e (e := 27) (l := [0, 1, 2, 3, 4, 5, 6, 7, 8, 9, 10, 11, 12, 13, 14, 15, 16, 17, 18, 19, 20, 21, 22, 23, 24, 25, 26]) (s' := []) kr kr rfl kr Rk_nil ?_
   refine NS_b 1 kr ?_
   refine NS_ld _ rfl rfl kr kr kr (c149.ld (o := 0) kr rfl) ?_
   refine NS_b 2 kr ?_
   refine NS_ld _ rfl rfl kr kr kr ((cz.sm T154 (fun hx => hx.2.1 ⟨.rq p no, hr_154, rfl⟩)).ld (o := 2) kr rfl) ?_
   refine NS_ld _ rfl rfl kr kr kr (c149.ld (o := 0) kr rfl) ?_
   refine NS_b 2 kr ?_
   refine NS_ld _ rfl rfl kr kr kr ((cz.sm T154 (fun hx => hx.2.1 ⟨.rq p no, hr_154, rfl⟩)).ld (o := 3) kr rfl) ?_
   refine NS_b 1 kr ?_
   refine NS_ln _ rfl rfl kr kr kr (H.lenA (T := 23) (el := 5) kr _) ?_
   refine NS_ld _ rfl rfl kr kr kr (c149.ld (o := 0) kr rfl) ?_
   refine NS_b 2 kr ?_
   refine NS_ld _ rfl rfl kr kr kr ((cz.sm T154 (fun hx => hx.2.1 ⟨.rq p no, hr_154, rfl⟩)).ld (o := 10) kr rfl) ?_
   refine NS_ld _ rfl rfl kr kr kr (c149.ld (o := 0) kr rfl) ?_
   refine NS_b 2 kr ?_
   refine NS_ld _ rfl rfl kr kr kr ((cz.sm T154 (fun hx => hx.2.1 ⟨.rq p no, hr_154, rfl⟩)).ld (o := 11) kr rfl) ?_
   refine NS_v (.int .i64 (IntKind.i64.wrap (((W.rq p no).parts : Int) * ((W.rq p no).size : Int)))) rfl kr rfl kr kr ?_
   refine NS_i (((List.map bv d).length : Int)) (IntKind.i64.wrap (((W.rq p no).parts : Int) * ((W.rq p no).size : Int))) (nv ((d.length + (W.rq p no).parts * (W.rq p no).size : Nat) : Int)) rfl rfl kr kr kr kr rfl (sum_nat hsm hld) ?_
   refine NS_ld _ rfl rfl kr kr kr (c149.ld (o := 0) kr rfl) ?_
   refine NS_b 2 kr ?_
   refine NS_ld _ rfl rfl kr kr kr ((cz.sm T154 (fun hx => hx.2.1 ⟨.rq p no, hr_154, rfl⟩)).ld (o := 10) kr rfl) ?_
   refine NS_b 1 kr ?_
   refine NS_newR (Al.cells [nv 0, nv 0, nv 0, nv 0, nv 0]) .ptr rfl kr rfl rfl kr (Rk_1 rfl rfl (Rk_ld _ rfl rfl rfl kr ((c149.ext (.push h154 _)).ld (o := 0) kr rfl) kr (Rk_1 rfl rfl (Rk_1 rfl rfl (Rk_ld _ rfl rfl rfl kr ((cz.sm (T154.ext (.push h154 _)) (fun hx => hx.2.1 ⟨.rq p no, hr_154, rfl⟩)).ld (o := 2) kr rfl) kr (Rk_ld _ rfl rfl rfl kr ((c149.ext (.push h154 _)).ld (o := 0) kr rfl) kr (Rk_1 rfl rfl (Rk_1 rfl rfl (Rk_ld _ rfl rfl rfl kr ((cz.sm (T154.ext (.push h154 _)) (fun hx => hx.2.1 ⟨.rq p no, hr_154, rfl⟩)).ld (o := 3) kr rfl) kr (Rk_1 rfl rfl (Rk_ln _ rfl rfl rfl kr (H.lenA (T := 23) (el := 5) kr _) kr (Rk_ld _ rfl rfl rfl kr ((c149.ext (.push h154 _)).ld (o := 0) kr rfl) kr (Rk_1 rfl rfl (Rk_1 rfl rfl (Rk_ld _ rfl rfl rfl kr ((cz.sm (T154.ext (.push h154 _)) (fun hx => hx.2.1 ⟨.rq p no, hr_154, rfl⟩)).ld (o := 10) kr rfl) kr (Rk_ld _ rfl rfl rfl kr ((c149.ext (.push h154 _)).ld (o := 0) kr rfl) kr (Rk_1 rfl rfl (Rk_1 rfl rfl (Rk_ld _ rfl rfl rfl kr ((cz.sm (T154.ext (.push h154 _)) (fun hx => hx.2.1 ⟨.rq p no, hr_154, rfl⟩)).ld (o := 11) kr rfl) kr (Rk_v (v := (.int .i64 (IntKind.i64.wrap (((W.rq p no).parts : Int) * ((W.rq p no).size : Int))))) rfl rfl kr kr (Rk_i (((List.map bv d).length : Int)) (IntKind.i64.wrap (((W.rq p no).parts : Int) * ((W.rq p no).size : Int))) (nv ((d.length + (W.rq p no).parts * (W.rq p no).size : Nat) : Int)) rfl rfl rfl kr kr rfl (sum_nat hsm hld) kr (Rk_ld _ rfl rfl rfl kr ((c149.ext (.push h154 _)).ld (o := 0) kr rfl) kr (Rk_1 rfl rfl (Rk_1 rfl rfl (Rk_ld _ rfl rfl rfl kr ((cz.sm (T154.ext (.push h154 _)) (fun hx => hx.2.1 ⟨.rq p no, hr_154, rfl⟩)).ld (o := 10) kr rfl) kr (Rk_1 rfl rfl (Rk_1 rfl rfl Rk_nil))))))))))))))))))))))))))) ?_
   have m155 : ¬ (Gh.mut (⟨Gh.B (⟨Gh.B (⟨Gh.B (⟨Gh.B (Gh.more G (fun b => vb (Value.slice va150 (List.map bv d).length vc150) = some b)), S151, C151, ro151⟩ : Gh), S152, C152, ro152⟩ : Gh), S153, C153, ro153⟩ : Gh), S154, C154, ro154⟩ : Gh)) h154.next ∧ ¬ (Gh.ro (⟨Gh.B (⟨Gh.B (⟨Gh.B (⟨Gh.B (Gh.more G (fun b => vb (Value.slice va150 (List.map bv d).length vc150) = some b)), S151, C151, ro151⟩ : Gh), S152, C152, ro152⟩ : Gh), S153, C153, ro153⟩ : Gh), S154, C154, ro154⟩ : Gh)) h154.next := ⟨(R154.ow T154).op.new (Nat.le_refl _), (R154.ow T154).op.newr (Nat.le_refl _)⟩
   have l155_t6 := c149.lt
   have c155 : Cl (h154.push (Al.cells [nv 0, nv 0, nv 0, nv 0, nv 0]).obj) h154.next [nv 0, nv 0, nv 0, nv 0, nv 0] := Cl.new h154 _
   have t155 : Sm Nix h154 (h154.push (Al.cells [nv 0, nv 0, nv 0, nv 0, nv 0]).obj) := .push h154 _
   have n155 : (h154.push (Al.cells [nv 0, nv 0, nv 0, nv 0, nv 0]).obj).next = h154.next + 1 := rfl
   generalize h154.push (Al.cells [nv 0, nv 0, nv 0, nv 0, nv 0]).obj = h155 at c155 t155 n155 ⊢
   replace c149 := c149.ext t155
   have T155 : Sm (Ow h (⟨Gh.B (⟨Gh.B (⟨Gh.B (⟨Gh.B (Gh.more G (fun b => vb (Value.slice va150 (List.map bv d).length vc150) = some b)), S151, C151, ro151⟩ : Gh), S152, C152, ro152⟩ : Gh), S153, C153, ro153⟩ : Gh), S154, C154, ro154⟩ : Gh)) h154 h155 := T154.ext t155
   have N155 := T155.nx
   refine NS_nil ?_
   obtain ⟨h156, e156, d156, t156, n156⟩ := Cl.storeN (P := Try.prog) (T := 115) (n := 5) (v := .agg ⟨[nv (p : Int), nv (W.rq p no).ctx, nv (W.rq p no).tag, nv ((d.length + (W.rq p no).parts * (W.rq p no).size : Nat) : Int), nk (W.rq p no).parts]⟩) (cs := [nv (p : Int), nv (W.rq p no).ctx, nv (W.rq p no).tag, nv ((d.length + (W.rq p no).parts * (W.rq p no).size : Nat) : Int), nk (W.rq p no).parts]) c155 rfl kr rfl rfl (List.all_eq_true.1 rfl)
   replace c149 := c149.sm t156 (show ¬ _ = _ by omega)
   replace c155 := d156
   have T156 : Sm (Ow h (⟨Gh.B (⟨Gh.B (⟨Gh.B (⟨Gh.B (Gh.more G (fun b => vb (Value.slice va150 (List.map bv d).length vc150) = some b)), S151, C151, ro151⟩ : Gh), S152, C152, ro152⟩ : Gh), S153, C153, ro153⟩ : Gh), S154, C154, ro154⟩ : Gh)) h154 h156 := T155.trans t156 (fun x hx => by have hx : x = h154.next := hx; subst hx; first | exact .inr (by omega) | exact .inl ⟨by omega, m155.1, m155.2⟩ | exact .inl rfl)
   have N156 := T156.nx
   refine L_st _ rfl rfl rfl kr kr (e156) ?_
   refine L_nil ⟨rfl, ?_⟩
   refine D_l (l := []) kr kr Rk_nil ?_
   refine NS_nil ?_
   refine W_block ?_
   refine W_seq ?_
   refine W_region ?_
   refine L_ld _ rfl rfl kr (c149.ld (o := 0) kr rfl) ?_
   refine L_g 2 kr ?_
   refine L_ld _ rfl rfl kr (((cz.sm T156 (fun hx => hx.2.1 ⟨.rq p no, hr_154, rfl⟩)).ld (o := 5) kr (by rw [← hsend]; rfl) : aLoad Try.prog 4 ⟨G.B (.rq p no), 5, none⟩ h156 = some (.bool false))) ?_
   refine L_g 1 kr ?_
   refine L_nil ?_
   refine W_cond false kr (fun e => by cases e) (fun _ => ?_)
   refine W_seq ?_
   refine W_region ?_
   refine L_ld _ rfl rfl kr (c149.ld (o := 0) kr rfl) ?_
   refine L_g 2 kr ?_
   refine L_ld _ rfl rfl kr ((cz.sm T156 (fun hx => hx.2.1 ⟨.rq p no, hr_154, rfl⟩)).ld (o := 1) kr rfl) ?_
   refine L_i ((W.rq p no).peer) (-2) (.bool false) rfl rfl kr kr rfl (by simp; omega) ?_
   refine L_g 1 kr ?_
   refine L_nil ?_
   refine W_cond false kr (fun e => by cases e) (fun _ => ?_)
   refine W_seq ?_
   refine W_region ?_
   refine L_g 3 kr ?_
   refine L_ld _ rfl rfl kr ((R154.ow T156).wdL.ld (o := 1) kr rfl) ?_
   refine L_g 1 kr ?_
   obtain ⟨b1, o1, i1, l1⟩ := (R154.ow T156).prsAt (P := Try.prog) (T := 74) (el := 77) kr kr kr hp
   refine L_ix _ rfl rfl kr kr (i1) ?_
   refine L_ld _ rfl rfl kr (l1) ?_
   refine L_g 1 kr ?_
   refine L_nil ?_
   refine W_seq ?_
   refine W_region ?_
   refine L_g 4 kr ?_
   refine L_c rfl rfl kr (take_ms (R154.ow T156) hp (pr := fun m => ((W.setRq p no { W.rq p no with act := true, done := false, st := St.z, data := d }).rq p no).fits m.en) hlm (fun _ _ => rfl) (fun x v hv h' t => by
    obtain ⟨ty, u, rfl⟩ := hv.iface
    exact st1_ok (e := x.en) ((R154.ow T156).ext t) hp hr_154 hsm9 ((c149.ext t))) hf9 hx) ?_
   rintro v157 h157 ⟨v9157, hv157, e157, N157⟩
   dsimp only at hv157 e157 N157
   subst e157
   obtain ⟨ty, u, rfl⟩ := hv157.iface
   obtain ⟨S157, C157, ro157, R157, Y157⟩ := N157
   have X157 := ((X154).ow T156).trans Y157
   have hr_157 := (Y157.keep _ hr_154).1
   have mZ6_151_152_153_154_157 : ¬ (Gh.mut ⟨Gh.B (⟨Gh.B (⟨Gh.B (⟨Gh.B (⟨Gh.B (Gh.more G (fun b => vb (Value.slice va150 (List.map bv d).length vc150) = some b)), S151, C151, ro151⟩ : Gh), S152, C152, ro152⟩ : Gh), S153, C153, ro153⟩ : Gh), S154, C154, ro154⟩ : Gh), S157, C157, ro157⟩) (h.next) ∧ ¬ (Gh.ro ⟨Gh.B (⟨Gh.B (⟨Gh.B (⟨Gh.B (⟨Gh.B (Gh.more G (fun b => vb (Value.slice va150 (List.map bv d).length vc150) = some b)), S151, C151, ro151⟩ : Gh), S152, C152, ro152⟩ : Gh), S153, C153, ro153⟩ : Gh), S154, C154, ro154⟩ : Gh), S157, C157, ro157⟩) (h.next) := ⟨fun hm => (Y157.mu _ hm).elim mZ6_151_152_153_154.1 (fun e => by have := c149.lt; omega), fun hm => (Y157.ron _ hm).elim mZ6_151_152_153_154.2 (fun e => by have := c149.lt; omega)⟩
   replace c149 := c149.sm Y157.sm mZ6_151_152_153_154.1
   have m155_157 : ¬ (Gh.mut ⟨Gh.B (⟨Gh.B (⟨Gh.B (⟨Gh.B (⟨Gh.B (Gh.more G (fun b => vb (Value.slice va150 (List.map bv d).length vc150) = some b)), S151, C151, ro151⟩ : Gh), S152, C152, ro152⟩ : Gh), S153, C153, ro153⟩ : Gh), S154, C154, ro154⟩ : Gh), S157, C157, ro157⟩) (h154.next) ∧ ¬ (Gh.ro ⟨Gh.B (⟨Gh.B (⟨Gh.B (⟨Gh.B (⟨Gh.B (Gh.more G (fun b => vb (Value.slice va150 (List.map bv d).length vc150) = some b)), S151, C151, ro151⟩ : Gh), S152, C152, ro152⟩ : Gh), S153, C153, ro153⟩ : Gh), S154, C154, ro154⟩ : Gh), S157, C157, ro157⟩) (h154.next) := ⟨fun hm => (Y157.mu _ hm).elim m155.1 (fun e => by have := c155.lt; omega), fun hm => (Y157.ron _ hm).elim m155.2 (fun e => by have := c155.lt; omega)⟩
   replace c155 := c155.sm Y157.sm m155.1
   have T157 : Sm (Ow h (⟨Gh.B (⟨Gh.B (⟨Gh.B (⟨Gh.B (⟨Gh.B (Gh.more G (fun b => vb (Value.slice va150 (List.map bv d).length vc150) = some b)), S151, C151, ro151⟩ : Gh), S152, C152, ro152⟩ : Gh), S153, C153, ro153⟩ : Gh), S154, C154, ro154⟩ : Gh), S157, C157, ro157⟩ : Gh)) h157 h157 := .refl
   have hv9 := hv157.mono (Gx.dr Y157 (R154.ow T156).op)
   refine L_g 3 kr ?_
   refine L_nw (Al.cells [nv 0, nv 0, nv 0, nv 0, nv 0, .nilIface]) .ptr rfl rfl kr ?_
   have m158 : ¬ (Gh.mut (⟨Gh.B (⟨Gh.B (⟨Gh.B (⟨Gh.B (⟨Gh.B (Gh.more G (fun b => vb (Value.slice va150 (List.map bv d).length vc150) = some b)), S151, C151, ro151⟩ : Gh), S152, C152, ro152⟩ : Gh), S153, C153, ro153⟩ : Gh), S154, C154, ro154⟩ : Gh), S157, C157, ro157⟩ : Gh)) h157.next ∧ ¬ (Gh.ro (⟨Gh.B (⟨Gh.B (⟨Gh.B (⟨Gh.B (⟨Gh.B (Gh.more G (fun b => vb (Value.slice va150 (List.map bv d).length vc150) = some b)), S151, C151, ro151⟩ : Gh), S152, C152, ro152⟩ : Gh), S153, C153, ro153⟩ : Gh), S154, C154, ro154⟩ : Gh), S157, C157, ro157⟩ : Gh)) h157.next := ⟨(R157.ow T157).op.new (Nat.le_refl _), (R157.ow T157).op.newr (Nat.le_refl _)⟩
   have l158_t6 := c149.lt
   have l158_t8 := c155.lt
   have c158 : Cl (h157.push (Al.cells [nv 0, nv 0, nv 0, nv 0, nv 0, .nilIface]).obj) h157.next [nv 0, nv 0, nv 0, nv 0, nv 0, .nilIface] := Cl.new h157 _
   have t158 : Sm Nix h157 (h157.push (Al.cells [nv 0, nv 0, nv 0, nv 0, nv 0, .nilIface]).obj) := .push h157 _
   have n158 : (h157.push (Al.cells [nv 0, nv 0, nv 0, nv 0, nv 0, .nilIface]).obj).next = h157.next + 1 := rfl
   generalize h157.push (Al.cells [nv 0, nv 0, nv 0, nv 0, nv 0, .nilIface]).obj = h158 at c158 t158 n158 ⊢
   replace c149 := c149.ext t158
   replace c155 := c155.ext t158
   have T158 : Sm (Ow h (⟨Gh.B (⟨Gh.B (⟨Gh.B (⟨Gh.B (⟨Gh.B (Gh.more G (fun b => vb (Value.slice va150 (List.map bv d).length vc150) = some b)), S151, C151, ro151⟩ : Gh), S152, C152, ro152⟩ : Gh), S153, C153, ro153⟩ : Gh), S154, C154, ro154⟩ : Gh), S157, C157, ro157⟩ : Gh)) h157 h158 := T157.ext t158
   have N158 := T158.nx
   obtain ⟨h159, e159, d159, t159, n159⟩ := Cl.storeN (P := Try.prog) (T := 117) (n := 6) (v := .agg ⟨[nv x.en.src, nv x.en.ctx, nv x.en.tag, nv x.en.size, nv x.en.parts, .iface ty u]⟩) (cs := [nv x.en.src, nv x.en.ctx, nv x.en.tag, nv x.en.size, nv x.en.parts, .iface ty u]) c158 rfl kr rfl rfl (List.all_eq_true.1 rfl)
   replace c149 := c149.sm t159 (show ¬ _ = _ by omega)
   replace c155 := c155.sm t159 (show ¬ _ = _ by omega)
   replace c158 := d159
   have T159 : Sm (Ow h (⟨Gh.B (⟨Gh.B (⟨Gh.B (⟨Gh.B (⟨Gh.B (Gh.more G (fun b => vb (Value.slice va150 (List.map bv d).length vc150) = some b)), S151, C151, ro151⟩ : Gh), S152, C152, ro152⟩ : Gh), S153, C153, ro153⟩ : Gh), S154, C154, ro154⟩ : Gh), S157, C157, ro157⟩ : Gh)) h157 h159 := T158.trans t159 (fun x hx => by have hx : x = h157.next := hx; subst hx; first | exact .inr (by omega) | exact .inl ⟨by omega, m158.1, m158.2⟩ | exact .inl rfl)
   have N159 := T159.nx
   refine L_st _ rfl rfl rfl kr kr (e159) ?_
   refine L_g 1 kr ?_
   refine L_nil ?_
   refine W_seq ?_
   refine W_region ?_
   refine L_g 1 kr ?_
   refine L_nil ?_
   refine W_cond true kr (fun _ => ?_) (fun e => by cases e)
   refine W_region ?_
   refine L_g 2 kr ?_
   refine L_ld _ rfl rfl kr (c149.ld (o := 0) kr rfl) ?_
   refine L_ld _ rfl rfl kr (Cl.allN (n := 6) c158 rfl kr) ?_
   refine L_c rfl rfl kr (match_ok (v := .iface ty u) (R157.ow T159) hp hr_157 (hv9.mono (fun _ _ z => z.ext3 T159)) he) ?_
   rintro v160 h160 N160
   dsimp only at N160
   obtain ⟨S160, C160, ro160, R160, Y160⟩ := N160
   have X160 := ((X157).ow T159).trans Y160
   have hr_160 := (Y160.keep _ hr_157).1
   have mZ6_151_152_153_154_157_160 : ¬ (Gh.mut ⟨Gh.B (⟨Gh.B (⟨Gh.B (⟨Gh.B (⟨Gh.B (⟨Gh.B (Gh.more G (fun b => vb (Value.slice va150 (List.map bv d).length vc150) = some b)), S151, C151, ro151⟩ : Gh), S152, C152, ro152⟩ : Gh), S153, C153, ro153⟩ : Gh), S154, C154, ro154⟩ : Gh), S157, C157, ro157⟩ : Gh), S160, C160, ro160⟩) (h.next) ∧ ¬ (Gh.ro ⟨Gh.B (⟨Gh.B (⟨Gh.B (⟨Gh.B (⟨Gh.B (⟨Gh.B (Gh.more G (fun b => vb (Value.slice va150 (List.map bv d).length vc150) = some b)), S151, C151, ro151⟩ : Gh), S152, C152, ro152⟩ : Gh), S153, C153, ro153⟩ : Gh), S154, C154, ro154⟩ : Gh), S157, C157, ro157⟩ : Gh), S160, C160, ro160⟩) (h.next) := ⟨fun hm => (Y160.mu _ hm).elim mZ6_151_152_153_154_157.1 (fun e => by have := c149.lt; omega), fun hm => (Y160.ron _ hm).elim mZ6_151_152_153_154_157.2 (fun e => by have := c149.lt; omega)⟩
   replace c149 := c149.sm Y160.sm mZ6_151_152_153_154_157.1
   have m155_157_160 : ¬ (Gh.mut ⟨Gh.B (⟨Gh.B (⟨Gh.B (⟨Gh.B (⟨Gh.B (⟨Gh.B (Gh.more G (fun b => vb (Value.slice va150 (List.map bv d).length vc150) = some b)), S151, C151, ro151⟩ : Gh), S152, C152, ro152⟩ : Gh), S153, C153, ro153⟩ : Gh), S154, C154, ro154⟩ : Gh), S157, C157, ro157⟩ : Gh), S160, C160, ro160⟩) (h154.next) ∧ ¬ (Gh.ro ⟨Gh.B (⟨Gh.B (⟨Gh.B (⟨Gh.B (⟨Gh.B (⟨Gh.B (Gh.more G (fun b => vb (Value.slice va150 (List.map bv d).length vc150) = some b)), S151, C151, ro151⟩ : Gh), S152, C152, ro152⟩ : Gh), S153, C153, ro153⟩ : Gh), S154, C154, ro154⟩ : Gh), S157, C157, ro157⟩ : Gh), S160, C160, ro160⟩) (h154.next) := ⟨fun hm => (Y160.mu _ hm).elim m155_157.1 (fun e => by have := c155.lt; omega), fun hm => (Y160.ron _ hm).elim m155_157.2 (fun e => by have := c155.lt; omega)⟩
   replace c155 := c155.sm Y160.sm m155_157.1
   have m158_160 : ¬ (Gh.mut ⟨Gh.B (⟨Gh.B (⟨Gh.B (⟨Gh.B (⟨Gh.B (⟨Gh.B (Gh.more G (fun b => vb (Value.slice va150 (List.map bv d).length vc150) = some b)), S151, C151, ro151⟩ : Gh), S152, C152, ro152⟩ : Gh), S153, C153, ro153⟩ : Gh), S154, C154, ro154⟩ : Gh), S157, C157, ro157⟩ : Gh), S160, C160, ro160⟩) (h157.next) ∧ ¬ (Gh.ro ⟨Gh.B (⟨Gh.B (⟨Gh.B (⟨Gh.B (⟨Gh.B (⟨Gh.B (Gh.more G (fun b => vb (Value.slice va150 (List.map bv d).length vc150) = some b)), S151, C151, ro151⟩ : Gh), S152, C152, ro152⟩ : Gh), S153, C153, ro153⟩ : Gh), S154, C154, ro154⟩ : Gh), S157, C157, ro157⟩ : Gh), S160, C160, ro160⟩) (h157.next) := ⟨fun hm => (Y160.mu _ hm).elim m158.1 (fun e => by have := c158.lt; omega), fun hm => (Y160.ron _ hm).elim m158.2 (fun e => by have := c158.lt; omega)⟩
   replace c158 := c158.sm Y160.sm m158.1
   have T160 : Sm (Ow h (⟨Gh.B (⟨Gh.B (⟨Gh.B (⟨Gh.B (⟨Gh.B (⟨Gh.B (Gh.more G (fun b => vb (Value.slice va150 (List.map bv d).length vc150) = some b)), S151, C151, ro151⟩ : Gh), S152, C152, ro152⟩ : Gh), S153, C153, ro153⟩ : Gh), S154, C154, ro154⟩ : Gh), S157, C157, ro157⟩ : Gh), S160, C160, ro160⟩ : Gh)) h160 h160 := .refl
   refine L_nil ?_
   repeat with_reducible refine blk_norm ?_
   refine done_of (v := .tuple ⟨[]⟩) (.inr rfl) kr ?_
   exact ⟨_, _, _, (R160.ow T160), ((X160).ow T160)⟩
 rename_i hf
 have hf9 : ((W.setRq p no { W.rq p no with act := true, done := false, st := St.z, data := d }).pr p).msgs.findIdx? (fun m => ((W.setRq p no { W.rq p no with act := true, done := false, st := St.z, data := d }).rq p no).fits m.en) = none := by rw [Wd.setRq_at]; exact hf
 split at he
 rotate_right
 · cases he
 rename_i hlr
 obtain rfl := Option.some.inj he
 refine Calls_of_W (n := 116) (fn := Try.f45) kr rfl rfl (Nat.le_of_ble_eq_true rfl) trivial ⟨.inr (by simp), rfl⟩ ?_
 have T0 : Sm Nix h h := .refl
 refine W_seq ?_
 refine W_region ?_
 refine L_nw (Al.cells [ptr (G.B (.rq p no))]) .ptr rfl rfl kr ?_
 have m161 : ¬ (Gh.mut G) h.next ∧ ¬ (Gh.ro G) h.next := ⟨(R.ext T0).op.new (Nat.le_refl _), (R.ext T0).op.newr (Nat.le_refl _)⟩
 have c161 : Cl (h.push (Al.cells [ptr (G.B (.rq p no))]).obj) h.next [ptr (G.B (.rq p no))] := Cl.new h _
 have t161 : Sm Nix h (h.push (Al.cells [ptr (G.B (.rq p no))]).obj) := .push h _
 have n161 : (h.push (Al.cells [ptr (G.B (.rq p no))]).obj).next = h.next + 1 := rfl
 generalize h.push (Al.cells [ptr (G.B (.rq p no))]).obj = h161 at c161 t161 n161 ⊢
 have T161 : Sm Nix h h161 := T0.ext t161
 have N161 := T161.nx
 refine L_nil ?_
 refine W_seq ?_
 refine W_drawn kr ?_
 refine D_e (e := 6) (l := [0, 1, 2, 3, 4, 5]) (s' := [0, 1, 2, 3, 4]) kr kr rfl kr Rk_nil ?_
 refine NS_ld _ rfl rfl kr kr kr (c161.ld (o := 0) kr rfl) ?_
 refine NS_ld _ rfl rfl kr kr kr (c161.ld (o := 0) kr rfl) ?_
 refine NS_ld _ rfl rfl kr kr kr (c161.ld (o := 0) kr rfl) ?_
 refine NS_ld _ rfl rfl kr kr kr (c161.ld (o := 0) kr rfl) ?_
 refine NS_b 2 kr ?_
 refine NS_nil ?_
 refine L_c rfl rfl kr (clone_by (H.ext T161) (bv_one d) (by rw [List.length_map]; exact hld)) ?_
 rintro v162 h162 ⟨r162, k162, t162, f162, s162⟩
 dsimp only at r162 k162 t162 f162 s162
 obtain ⟨R162, X162⟩ := (R.ext T161).more (Q := fun b => vb v162 = some b) t162 (fun b hb => (f162 b hb).1) (fun b hb => (f162 b hb).2)
 obtain ⟨va162, vc162, ev162⟩ := r162.form
 subst ev162
 have hdv : Dr h162 (G.more (fun b => vb (Value.slice va162 (List.map bv d).length vc162) = some b)).ro (.slice va162 (List.map bv d).length vc162) d := ⟨r162, fun b hb => .inr hb⟩
 have mZ6 : ¬ (Gh.mut (G.more (fun b => vb (Value.slice va162 (List.map bv d).length vc162) = some b))) (h.next) ∧ ¬ (Gh.ro (G.more (fun b => vb (Value.slice va162 (List.map bv d).length vc162) = some b))) (h.next) := ⟨fun hm => by obtain ⟨r, q1, q2⟩ := hm; rw [V_more] at q2; exact m161.1 ⟨r, q1, q2⟩, fun hm => hm.elim m161.2 (fun e => by have := (f162 _ e).1; have := c161.lt; omega)⟩
 have X162x := (Gx.of T161).trans X162
 replace c161 := c161.ext t162
 have T162 : Sm Nix h162 h162 := .refl
 refine L_nil ⟨rfl, ?_⟩
 refine D_e (e := 9) (l := [7, 8]) (s' := [1, 2, 3, 4]) kr kr rfl kr (Rk_ld _ rfl rfl rfl kr (c161.ld (o := 0) kr rfl) kr (Rk_ld _ rfl rfl rfl kr (c161.ld (o := 0) kr rfl) kr (Rk_ld _ rfl rfl rfl kr (c161.ld (o := 0) kr rfl) kr (Rk_ld _ rfl rfl rfl kr (c161.ld (o := 0) kr rfl) kr (Rk_1 rfl rfl Rk_nil))))) ?_
 refine NS_b 2 kr ?_
 refine NS_nil ?_
 obtain ⟨dv9, hd9, c9⟩ := (R162.ext T162).rqL hp hr
 replace c9 : Cl h162 (Gh.B (Gh.more G (fun b => vb (Value.slice va162 (List.map bv d).length vc162) = some b)) (.rq p no)) [nk (W.rq p no).no, nv (W.rq p no).peer, nv (W.rq p no).ctx, nv (W.rq p no).tag, nv (W.rq p no).room, .bool (W.rq p no).send, .bool (W.rq p no).sync, .bool (W.rq p no).pers, .bool (W.rq p no).act, .bool (W.rq p no).done, nk (W.rq p no).parts, nk (W.rq p no).size, dv9, (Gh.more G (fun b => vb (Value.slice va162 (List.map bv d).length vc162) = some b)).S (.pcs p no), nk (W.rq p no).gone, (Gh.more G (fun b => vb (Value.slice va162 (List.map bv d).length vc162) = some b)).S (.snt p no), .bool (W.rq p no).clr, nv (W.rq p no).st.src, nv (W.rq p no).st.tag, nv (W.rq p no).st.size, nv (W.rq p no).st.err] := c9
 obtain ⟨h163, e163, d163, t163, n163⟩ := c9.store (P := Try.prog) (T := 4) (o := 8) (v := .bool true) kr rfl rfl (by simp)
 have N163 : Nxt (W.setRq p no { (W.rq p no) with act := true }) (Gh.more G (fun b => vb (Value.slice va162 (List.map bv d).length vc162) = some b)) h162 h163 := (R162.ext T162).stRq hp hr (r := { (W.rq p no) with act := true }) hd9 d163 t163 rfl rfl rfl
 clear hd9
 refine L_st _ rfl rfl rfl kr kr (e163) ?_
 obtain ⟨S163, C163, ro163, R163, Y163⟩ := N163
 have X163 := ((X162x).trans (Gx.of T162)).trans Y163
 have hr_163 := (Y163.keep _ hr).1
 have hdv_163 := Dr.mono0 hdv (Gx.dr Y163 (R162.ext T162).op)
 have mZ6_163 : ¬ (Gh.mut ⟨Gh.B (Gh.more G (fun b => vb (Value.slice va162 (List.map bv d).length vc162) = some b)), S163, C163, ro163⟩) (h.next) ∧ ¬ (Gh.ro ⟨Gh.B (Gh.more G (fun b => vb (Value.slice va162 (List.map bv d).length vc162) = some b)), S163, C163, ro163⟩) (h.next) := ⟨fun hm => (Y163.mu _ hm).elim mZ6.1 (fun e => by have := c161.lt; omega), fun hm => (Y163.ron _ hm).elim mZ6.2 (fun e => by have := c161.lt; omega)⟩
 replace c161 := c161.sm Y163.sm mZ6.1
 have T163 : Sm (Ow h (⟨Gh.B (Gh.more G (fun b => vb (Value.slice va162 (List.map bv d).length vc162) = some b)), S163, C163, ro163⟩ : Gh)) h163 h163 := .refl
 refine L_nil ⟨rfl, ?_⟩
 refine D_e (e := 12) (l := [10, 11]) (s' := [2, 3, 4]) kr kr rfl kr (Rk_ld _ rfl rfl rfl kr (c161.ld (o := 0) kr rfl) kr (Rk_ld _ rfl rfl rfl kr (c161.ld (o := 0) kr rfl) kr (Rk_ld _ rfl rfl rfl kr (c161.ld (o := 0) kr rfl) kr (Rk_1 rfl rfl Rk_nil)))) ?_
 refine NS_b 2 kr ?_
 refine NS_nil ?_
 obtain ⟨dv9, hd9, c9⟩ := (R163.ow T163).rqL hp hr_163
 replace c9 : Cl h163 (Gh.B (⟨Gh.B (Gh.more G (fun b => vb (Value.slice va162 (List.map bv d).length vc162) = some b)), S163, C163, ro163⟩ : Gh) (.rq p no)) [nk ((W.setRq p no { (W.rq p no) with act := true }).rq p no).no, nv ((W.setRq p no { (W.rq p no) with act := true }).rq p no).peer, nv ((W.setRq p no { (W.rq p no) with act := true }).rq p no).ctx, nv ((W.setRq p no { (W.rq p no) with act := true }).rq p no).tag, nv ((W.setRq p no { (W.rq p no) with act := true }).rq p no).room, .bool ((W.setRq p no { (W.rq p no) with act := true }).rq p no).send, .bool ((W.setRq p no { (W.rq p no) with act := true }).rq p no).sync, .bool ((W.setRq p no { (W.rq p no) with act := true }).rq p no).pers, .bool ((W.setRq p no { (W.rq p no) with act := true }).rq p no).act, .bool ((W.setRq p no { (W.rq p no) with act := true }).rq p no).done, nk ((W.setRq p no { (W.rq p no) with act := true }).rq p no).parts, nk ((W.setRq p no { (W.rq p no) with act := true }).rq p no).size, dv9, (⟨Gh.B (Gh.more G (fun b => vb (Value.slice va162 (List.map bv d).length vc162) = some b)), S163, C163, ro163⟩ : Gh).S (.pcs p no), nk ((W.setRq p no { (W.rq p no) with act := true }).rq p no).gone, (⟨Gh.B (Gh.more G (fun b => vb (Value.slice va162 (List.map bv d).length vc162) = some b)), S163, C163, ro163⟩ : Gh).S (.snt p no), .bool ((W.setRq p no { (W.rq p no) with act := true }).rq p no).clr, nv ((W.setRq p no { (W.rq p no) with act := true }).rq p no).st.src, nv ((W.setRq p no { (W.rq p no) with act := true }).rq p no).st.tag, nv ((W.setRq p no { (W.rq p no) with act := true }).rq p no).st.size, nv ((W.setRq p no { (W.rq p no) with act := true }).rq p no).st.err] := c9
 obtain ⟨h164, e164, d164, t164, n164⟩ := c9.store (P := Try.prog) (T := 4) (o := 9) (v := .bool false) kr rfl rfl (by simp)
 have N164 : Nxt ((W.setRq p no { (W.rq p no) with act := true }).setRq p no { ((W.setRq p no { (W.rq p no) with act := true }).rq p no) with done := false }) (⟨Gh.B (Gh.more G (fun b => vb (Value.slice va162 (List.map bv d).length vc162) = some b)), S163, C163, ro163⟩ : Gh) h163 h164 := (R163.ow T163).stRq hp hr_163 (r := { ((W.setRq p no { (W.rq p no) with act := true }).rq p no) with done := false }) hd9 d164 t164 rfl rfl rfl
 clear hd9
 refine L_st _ rfl rfl rfl kr kr (e164) ?_
 obtain ⟨S164, C164, ro164, R164, Y164⟩ := N164
 have X164 := ((X163).ow T163).trans Y164
 have hr_164 := (Y164.keep _ hr_163).1
 have hdv_164 := Dr.mono0 hdv_163 (Gx.dr Y164 (R163.ow T163).op)
 have mZ6_163_164 : ¬ (Gh.mut ⟨Gh.B (⟨Gh.B (Gh.more G (fun b => vb (Value.slice va162 (List.map bv d).length vc162) = some b)), S163, C163, ro163⟩ : Gh), S164, C164, ro164⟩) (h.next) ∧ ¬ (Gh.ro ⟨Gh.B (⟨Gh.B (Gh.more G (fun b => vb (Value.slice va162 (List.map bv d).length vc162) = some b)), S163, C163, ro163⟩ : Gh), S164, C164, ro164⟩) (h.next) := ⟨fun hm => (Y164.mu _ hm).elim mZ6_163.1 (fun e => by have := c161.lt; omega), fun hm => (Y164.ron _ hm).elim mZ6_163.2 (fun e => by have := c161.lt; omega)⟩
 replace c161 := c161.sm Y164.sm mZ6_163.1
 have T164 : Sm (Ow h (⟨Gh.B (⟨Gh.B (Gh.more G (fun b => vb (Value.slice va162 (List.map bv d).length vc162) = some b)), S163, C163, ro163⟩ : Gh), S164, C164, ro164⟩ : Gh)) h164 h164 := .refl
 refine L_nil ⟨rfl, ?_⟩
 refine D_e (e := 15) (l := [13, 14]) (s' := [3]) kr kr rfl kr (Rk_ld _ rfl rfl rfl kr (c161.ld (o := 0) kr rfl) kr (Rk_ld _ rfl rfl rfl kr (c161.ld (o := 0) kr rfl) kr (Rk_1 rfl rfl Rk_nil))) ?_
 refine NS_b 2 kr ?_
 refine NS_nil ?_
 obtain ⟨dv9, hd9, c9⟩ := (R164.ow T164).rqL hp hr_164
 replace c9 : Cl h164 (Gh.B (⟨Gh.B (⟨Gh.B (Gh.more G (fun b => vb (Value.slice va162 (List.map bv d).length vc162) = some b)), S163, C163, ro163⟩ : Gh), S164, C164, ro164⟩ : Gh) (.rq p no)) [nk (((W.setRq p no { (W.rq p no) with act := true }).setRq p no { ((W.setRq p no { (W.rq p no) with act := true }).rq p no) with done := false }).rq p no).no, nv (((W.setRq p no { (W.rq p no) with act := true }).setRq p no { ((W.setRq p no { (W.rq p no) with act := true }).rq p no) with done := false }).rq p no).peer, nv (((W.setRq p no { (W.rq p no) with act := true }).setRq p no { ((W.setRq p no { (W.rq p no) with act := true }).rq p no) with done := false }).rq p no).ctx, nv (((W.setRq p no { (W.rq p no) with act := true }).setRq p no { ((W.setRq p no { (W.rq p no) with act := true }).rq p no) with done := false }).rq p no).tag, nv (((W.setRq p no { (W.rq p no) with act := true }).setRq p no { ((W.setRq p no { (W.rq p no) with act := true }).rq p no) with done := false }).rq p no).room, .bool (((W.setRq p no { (W.rq p no) with act := true }).setRq p no { ((W.setRq p no { (W.rq p no) with act := true }).rq p no) with done := false }).rq p no).send, .bool (((W.setRq p no { (W.rq p no) with act := true }).setRq p no { ((W.setRq p no { (W.rq p no) with act := true }).rq p no) with done := false }).rq p no).sync, .bool (((W.setRq p no { (W.rq p no) with act := true }).setRq p no { ((W.setRq p no { (W.rq p no) with act := true }).rq p no) with done := false }).rq p no).pers, .bool (((W.setRq p no { (W.rq p no) with act := true }).setRq p no { ((W.setRq p no { (W.rq p no) with act := true }).rq p no) with done := false }).rq p no).act, .bool (((W.setRq p no { (W.rq p no) with act := true }).setRq p no { ((W.setRq p no { (W.rq p no) with act := true }).rq p no) with done := false }).rq p no).done, nk (((W.setRq p no { (W.rq p no) with act := true }).setRq p no { ((W.setRq p no { (W.rq p no) with act := true }).rq p no) with done := false }).rq p no).parts, nk (((W.setRq p no { (W.rq p no) with act := true }).setRq p no { ((W.setRq p no { (W.rq p no) with act := true }).rq p no) with done := false }).rq p no).size, dv9, (⟨Gh.B (⟨Gh.B (Gh.more G (fun b => vb (Value.slice va162 (List.map bv d).length vc162) = some b)), S163, C163, ro163⟩ : Gh), S164, C164, ro164⟩ : Gh).S (.pcs p no), nk (((W.setRq p no { (W.rq p no) with act := true }).setRq p no { ((W.setRq p no { (W.rq p no) with act := true }).rq p no) with done := false }).rq p no).gone, (⟨Gh.B (⟨Gh.B (Gh.more G (fun b => vb (Value.slice va162 (List.map bv d).length vc162) = some b)), S163, C163, ro163⟩ : Gh), S164, C164, ro164⟩ : Gh).S (.snt p no), .bool (((W.setRq p no { (W.rq p no) with act := true }).setRq p no { ((W.setRq p no { (W.rq p no) with act := true }).rq p no) with done := false }).rq p no).clr, nv (((W.setRq p no { (W.rq p no) with act := true }).setRq p no { ((W.setRq p no { (W.rq p no) with act := true }).rq p no) with done := false }).rq p no).st.src, nv (((W.setRq p no { (W.rq p no) with act := true }).setRq p no { ((W.setRq p no { (W.rq p no) with act := true }).rq p no) with done := false }).rq p no).st.tag, nv (((W.setRq p no { (W.rq p no) with act := true }).setRq p no { ((W.setRq p no { (W.rq p no) with act := true }).rq p no) with done := false }).rq p no).st.size, nv (((W.setRq p no { (W.rq p no) with act := true }).setRq p no { ((W.setRq p no { (W.rq p no) with act := true }).rq p no) with done := false }).rq p no).st.err] := c9
 obtain ⟨h165, e165, d165, t165, n165⟩ := c9.storeAt (P := Try.prog) (T := 43) (o := 17) (v := .agg ⟨[nv 0, nv 0, nv 0, nv 0]⟩) (vs := [nv 0, nv 0, nv 0, nv 0]) kr rfl (by simp) (List.all_eq_true.1 rfl)
 have N165 : Nxt (((W.setRq p no { (W.rq p no) with act := true }).setRq p no { ((W.setRq p no { (W.rq p no) with act := true }).rq p no) with done := false }).setRq p no { (((W.setRq p no { (W.rq p no) with act := true }).setRq p no { ((W.setRq p no { (W.rq p no) with act := true }).rq p no) with done := false }).rq p no) with st := St.z }) (⟨Gh.B (⟨Gh.B (Gh.more G (fun b => vb (Value.slice va162 (List.map bv d).length vc162) = some b)), S163, C163, ro163⟩ : Gh), S164, C164, ro164⟩ : Gh) h164 h165 := (R164.ow T164).stRq hp hr_164 (r := { (((W.setRq p no { (W.rq p no) with act := true }).setRq p no { ((W.setRq p no { (W.rq p no) with act := true }).rq p no) with done := false }).rq p no) with st := St.z }) hd9 d165 t165 rfl rfl rfl
 clear hd9
 refine L_st _ rfl rfl rfl kr kr (e165) ?_
 obtain ⟨S165, C165, ro165, R165, Y165⟩ := N165
 have X165 := ((X164).ow T164).trans Y165
 have hr_165 := (Y165.keep _ hr_164).1
 have hdv_165 := Dr.mono0 hdv_164 (Gx.dr Y165 (R164.ow T164).op)
 have mZ6_163_164_165 : ¬ (Gh.mut ⟨Gh.B (⟨Gh.B (⟨Gh.B (Gh.more G (fun b => vb (Value.slice va162 (List.map bv d).length vc162) = some b)), S163, C163, ro163⟩ : Gh), S164, C164, ro164⟩ : Gh), S165, C165, ro165⟩) (h.next) ∧ ¬ (Gh.ro ⟨Gh.B (⟨Gh.B (⟨Gh.B (Gh.more G (fun b => vb (Value.slice va162 (List.map bv d).length vc162) = some b)), S163, C163, ro163⟩ : Gh), S164, C164, ro164⟩ : Gh), S165, C165, ro165⟩) (h.next) := ⟨fun hm => (Y165.mu _ hm).elim mZ6_163_164.1 (fun e => by have := c161.lt; omega), fun hm => (Y165.ron _ hm).elim mZ6_163_164.2 (fun e => by have := c161.lt; omega)⟩
 replace c161 := c161.sm Y165.sm mZ6_163_164.1
 have T165 : Sm (Ow h (⟨Gh.B (⟨Gh.B (⟨Gh.B (Gh.more G (fun b => vb (Value.slice va162 (List.map bv d).length vc162) = some b)), S163, C163, ro163⟩ : Gh), S164, C164, ro164⟩ : Gh), S165, C165, ro165⟩ : Gh)) h165 h165 := .refl
 refine L_nil ⟨rfl, ?_⟩
 refine D_e (e := 18) (l := [16, 17]) (s' := []) kr kr rfl kr (Rk_ld _ rfl rfl rfl kr (c161.ld (o := 0) kr rfl) kr Rk_nil) ?_
 refine NS_b 2 kr ?_
 refine NS_nil ?_
 obtain ⟨dv9, hd9, c9⟩ := (R165.ow T165).rqL hp hr_165
 replace c9 : Arm.Cl h165 (Gh.B (⟨Gh.B (⟨Gh.B (⟨Gh.B (Gh.more G (fun b => vb (Value.slice va162 (List.map bv d).length vc162) = some b)), S163, C163, ro163⟩ : Gh), S164, C164, ro164⟩ : Gh), S165, C165, ro165⟩ : Gh) (.rq p no)) [nk ((((W.setRq p no { (W.rq p no) with act := true }).setRq p no { ((W.setRq p no { (W.rq p no) with act := true }).rq p no) with done := false }).setRq p no { (((W.setRq p no { (W.rq p no) with act := true }).setRq p no { ((W.setRq p no { (W.rq p no) with act := true }).rq p no) with done := false }).rq p no) with st := St.z }).rq p no).no, nv ((((W.setRq p no { (W.rq p no) with act := true }).setRq p no { ((W.setRq p no { (W.rq p no) with act := true }).rq p no) with done := false }).setRq p no { (((W.setRq p no { (W.rq p no) with act := true }).setRq p no { ((W.setRq p no { (W.rq p no) with act := true }).rq p no) with done := false }).rq p no) with st := St.z }).rq p no).peer, nv ((((W.setRq p no { (W.rq p no) with act := true }).setRq p no { ((W.setRq p no { (W.rq p no) with act := true }).rq p no) with done := false }).setRq p no { (((W.setRq p no { (W.rq p no) with act := true }).setRq p no { ((W.setRq p no { (W.rq p no) with act := true }).rq p no) with done := false }).rq p no) with st := St.z }).rq p no).ctx, nv ((((W.setRq p no { (W.rq p no) with act := true }).setRq p no { ((W.setRq p no { (W.rq p no) with act := true }).rq p no) with done := false }).setRq p no { (((W.setRq p no { (W.rq p no) with act := true }).setRq p no { ((W.setRq p no { (W.rq p no) with act := true }).rq p no) with done := false }).rq p no) with st := St.z }).rq p no).tag, nv ((((W.setRq p no { (W.rq p no) with act := true }).setRq p no { ((W.setRq p no { (W.rq p no) with act := true }).rq p no) with done := false }).setRq p no { (((W.setRq p no { (W.rq p no) with act := true }).setRq p no { ((W.setRq p no { (W.rq p no) with act := true }).rq p no) with done := false }).rq p no) with st := St.z }).rq p no).room, .bool ((((W.setRq p no { (W.rq p no) with act := true }).setRq p no { ((W.setRq p no { (W.rq p no) with act := true }).rq p no) with done := false }).setRq p no { (((W.setRq p no { (W.rq p no) with act := true }).setRq p no { ((W.setRq p no { (W.rq p no) with act := true }).rq p no) with done := false }).rq p no) with st := St.z }).rq p no).send, .bool ((((W.setRq p no { (W.rq p no) with act := true }).setRq p no { ((W.setRq p no { (W.rq p no) with act := true }).rq p no) with done := false }).setRq p no { (((W.setRq p no { (W.rq p no) with act := true }).setRq p no { ((W.setRq p no { (W.rq p no) with act := true }).rq p no) with done := false }).rq p no) with st := St.z }).rq p no).sync, .bool ((((W.setRq p no { (W.rq p no) with act := true }).setRq p no { ((W.setRq p no { (W.rq p no) with act := true }).rq p no) with done := false }).setRq p no { (((W.setRq p no { (W.rq p no) with act := true }).setRq p no { ((W.setRq p no { (W.rq p no) with act := true }).rq p no) with done := false }).rq p no) with st := St.z }).rq p no).pers, .bool ((((W.setRq p no { (W.rq p no) with act := true }).setRq p no { ((W.setRq p no { (W.rq p no) with act := true }).rq p no) with done := false }).setRq p no { (((W.setRq p no { (W.rq p no) with act := true }).setRq p no { ((W.setRq p no { (W.rq p no) with act := true }).rq p no) with done := false }).rq p no) with st := St.z }).rq p no).act, .bool ((((W.setRq p no { (W.rq p no) with act := true }).setRq p no { ((W.setRq p no { (W.rq p no) with act := true }).rq p no) with done := false }).setRq p no { (((W.setRq p no { (W.rq p no) with act := true }).setRq p no { ((W.setRq p no { (W.rq p no) with act := true }).rq p no) with done := false }).rq p no) with st := St.z }).rq p no).done, nk ((((W.setRq p no { (W.rq p no) with act := true }).setRq p no { ((W.setRq p no { (W.rq p no) with act := true }).rq p no) with done := false }).setRq p no { (((W.setRq p no { (W.rq p no) with act := true }).setRq p no { ((W.setRq p no { (W.rq p no) with act := true }).rq p no) with done := false }).rq p no) with st := St.z }).rq p no).parts, nk ((((W.setRq p no { (W.rq p no) with act := true }).setRq p no { ((W.setRq p no { (W.rq p no) with act := true }).rq p no) with done := false }).setRq p no { (((W.setRq p no { (W.rq p no) with act := true }).setRq p no { ((W.setRq p no { (W.rq p no) with act := true }).rq p no) with done := false }).rq p no) with st := St.z }).rq p no).size, dv9, (⟨Gh.B (⟨Gh.B (⟨Gh.B (Gh.more G (fun b => vb (Value.slice va162 (List.map bv d).length vc162) = some b)), S163, C163, ro163⟩ : Gh), S164, C164, ro164⟩ : Gh), S165, C165, ro165⟩ : Gh).S (.pcs p no), nk ((((W.setRq p no { (W.rq p no) with act := true }).setRq p no { ((W.setRq p no { (W.rq p no) with act := true }).rq p no) with done := false }).setRq p no { (((W.setRq p no { (W.rq p no) with act := true }).setRq p no { ((W.setRq p no { (W.rq p no) with act := true }).rq p no) with done := false }).rq p no) with st := St.z }).rq p no).gone, (⟨Gh.B (⟨Gh.B (⟨Gh.B (Gh.more G (fun b => vb (Value.slice va162 (List.map bv d).length vc162) = some b)), S163, C163, ro163⟩ : Gh), S164, C164, ro164⟩ : Gh), S165, C165, ro165⟩ : Gh).S (.snt p no), .bool ((((W.setRq p no { (W.rq p no) with act := true }).setRq p no { ((W.setRq p no { (W.rq p no) with act := true }).rq p no) with done := false }).setRq p no { (((W.setRq p no { (W.rq p no) with act := true }).setRq p no { ((W.setRq p no { (W.rq p no) with act := true }).rq p no) with done := false }).rq p no) with st := St.z }).rq p no).clr, nv ((((W.setRq p no { (W.rq p no) with act := true }).setRq p no { ((W.setRq p no { (W.rq p no) with act := true }).rq p no) with done := false }).setRq p no { (((W.setRq p no { (W.rq p no) with act := true }).setRq p no { ((W.setRq p no { (W.rq p no) with act := true }).rq p no) with done := false }).rq p no) with st := St.z }).rq p no).st.src, nv ((((W.setRq p no { (W.rq p no) with act := true }).setRq p no { ((W.setRq p no { (W.rq p no) with act := true }).rq p no) with done := false }).setRq p no { (((W.setRq p no { (W.rq p no) with act := true }).setRq p no { ((W.setRq p no { (W.rq p no) with act := true }).rq p no) with done := false }).rq p no) with st := St.z }).rq p no).st.tag, nv ((((W.setRq p no { (W.rq p no) with act := true }).setRq p no { ((W.setRq p no { (W.rq p no) with act := true }).rq p no) with done := false }).setRq p no { (((W.setRq p no { (W.rq p no) with act := true }).setRq p no { ((W.setRq p no { (W.rq p no) with act := true }).rq p no) with done := false }).rq p no) with st := St.z }).rq p no).st.size, nv ((((W.setRq p no { (W.rq p no) with act := true }).setRq p no { ((W.setRq p no { (W.rq p no) with act := true }).rq p no) with done := false }).setRq p no { (((W.setRq p no { (W.rq p no) with act := true }).setRq p no { ((W.setRq p no { (W.rq p no) with act := true }).rq p no) with done := false }).rq p no) with st := St.z }).rq p no).st.err] := c9
 obtain ⟨h166, e166, d166, t166, n166⟩ := c9.store (P := Try.prog) (T := 23) (o := 12) (v := .slice va162 (List.map bv d).length vc162) kr rfl rfl (by simp)
 have N166 : Nxt (((((W.setRq p no { (W.rq p no) with act := true }).setRq p no { ((W.setRq p no { (W.rq p no) with act := true }).rq p no) with done := false }).setRq p no { (((W.setRq p no { (W.rq p no) with act := true }).setRq p no { ((W.setRq p no { (W.rq p no) with act := true }).rq p no) with done := false }).rq p no) with st := St.z }).setRq p no { ((((W.setRq p no { (W.rq p no) with act := true }).setRq p no { ((W.setRq p no { (W.rq p no) with act := true }).rq p no) with done := false }).setRq p no { (((W.setRq p no { (W.rq p no) with act := true }).setRq p no { ((W.setRq p no { (W.rq p no) with act := true }).rq p no) with done := false }).rq p no) with st := St.z }).rq p no) with data := d })) (⟨Gh.B (⟨Gh.B (⟨Gh.B (Gh.more G (fun b => vb (Value.slice va162 (List.map bv d).length vc162) = some b)), S163, C163, ro163⟩ : Gh), S164, C164, ro164⟩ : Gh), S165, C165, ro165⟩ : Gh) h165 h166 := by
   have := (R165.ow T165).setRq hp hr_165 (r := { ((((W.setRq p no { (W.rq p no) with act := true }).setRq p no { ((W.setRq p no { (W.rq p no) with act := true }).rq p no) with done := false }).setRq p no { (((W.setRq p no { (W.rq p no) with act := true }).setRq p no { ((W.setRq p no { (W.rq p no) with act := true }).rq p no) with done := false }).rq p no) with st := St.z }).rq p no) with data := d }) (dv := .slice va162 (List.map bv d).length vc162) d166 t166 (fun k hk => .inl hk) (((R165.ow T165).op.dr (t166.mono fun k hk => ⟨.rq p no, hr_165, by subst hk; rfl⟩)) _ _ hdv_165) rfl rfl
   exact ⟨_, _, _, this⟩
 clear hd9
 refine L_st _ rfl rfl rfl kr kr (e166) ?_
 obtain ⟨S166, C166, ro166, R166, Y166⟩ := N166
 have X166 := ((X165).ow T165).trans Y166
 have hr_166 := (Y166.keep _ hr_165).1
 have hdv_166 := Dr.mono0 hdv_165 (Gx.dr Y166 (R165.ow T165).op)
 have mZ6_163_164_165_166 : ¬ (Gh.mut ⟨Gh.B (⟨Gh.B (⟨Gh.B (⟨Gh.B (Gh.more G (fun b => vb (Value.slice va162 (List.map bv d).length vc162) = some b)), S163, C163, ro163⟩ : Gh), S164, C164, ro164⟩ : Gh), S165, C165, ro165⟩ : Gh), S166, C166, ro166⟩) (h.next) ∧ ¬ (Gh.ro ⟨Gh.B (⟨Gh.B (⟨Gh.B (⟨Gh.B (Gh.more G (fun b => vb (Value.slice va162 (List.map bv d).length vc162) = some b)), S163, C163, ro163⟩ : Gh), S164, C164, ro164⟩ : Gh), S165, C165, ro165⟩ : Gh), S166, C166, ro166⟩) (h.next) := ⟨fun hm => (Y166.mu _ hm).elim mZ6_163_164_165.1 (fun e => by have := c161.lt; omega), fun hm => (Y166.ron _ hm).elim mZ6_163_164_165.2 (fun e => by have := c161.lt; omega)⟩
 replace c161 := c161.sm Y166.sm mZ6_163_164_165.1
 have T166 : Sm (Ow h (⟨Gh.B (⟨Gh.B (⟨Gh.B (⟨Gh.B (Gh.more G (fun b => vb (Value.slice va162 (List.map bv d).length vc162) = some b)), S163, C163, ro163⟩ : Gh), S164, C164, ro164⟩ : Gh), S165, C165, ro165⟩ : Gh), S166, C166, ro166⟩ : Gh)) h166 h166 := .refl
 have eW : ((((W.setRq p no { (W.rq p no) with act := true }).setRq p no { ((W.setRq p no { (W.rq p no) with act := true }).rq p no) with done := false }).setRq p no { (((W.setRq p no { (W.rq p no) with act := true }).setRq p no { ((W.setRq p no { (W.rq p no) with act := true }).rq p no) with done := false }).rq p no) with st := St.z }).setRq p no { ((((W.setRq p no { (W.rq p no) with act := true }).setRq p no { ((W.setRq p no { (W.rq p no) with act := true }).rq p no) with done := false }).setRq p no { (((W.setRq p no { (W.rq p no) with act := true }).setRq p no { ((W.setRq p no { (W.rq p no) with act := true }).rq p no) with done := false }).rq p no) with st := St.z }).rq p no) with data := d }) = W.setRq p no { W.rq p no with act := true, done := false, st := St.z, data := d } := by simp only [Wd.setRq_at, Wd.setRq_setRq]
 rw [eW] at R166
 have eR : (W.setRq p no { W.rq p no with act := true, done := false, st := St.z, data := d }).rq p no = { W.rq p no with act := true, done := false, st := St.z, data := d } := Wd.setRq_at _ _ _ _
 obtain ⟨dvz, hdz, cz⟩ := R166.rqL (p := p) hp hr_166
 rw [eR] at hdz cz
 replace cz : Arm.Cl h166 (G.B (.rq p no)) [nk (W.rq p no).no, nv (W.rq p no).peer, nv (W.rq p no).ctx, nv (W.rq p no).tag, nv (W.rq p no).room, .bool (W.rq p no).send, .bool (W.rq p no).sync, .bool (W.rq p no).pers, .bool true, .bool false, nk (W.rq p no).parts, nk (W.rq p no).size, dvz, (⟨G.B, S166, C166, ro166⟩ : Gh).S (.pcs p no), nk (W.rq p no).gone, (⟨G.B, S166, C166, ro166⟩ : Gh).S (.snt p no), .bool (W.rq p no).clr, nv 0, nv 0, nv 0, nv 0] := cz
 have l6 := c161.lt
 refine L_nil ⟨rfl, ?_⟩
 refine D_l (l := []) kr kr Rk_nil ?_
 refine NS_nil ?_
 refine W_seq ?_
 refine W_drawn kr ?_
 refine D_e (e := 27) (l := [0, 1, 2, 3, 4, 5, 6, 7, 8, 9, 10, 11, 12, 13, 14, 15, 16, 17, 18, 19, 20, 21, 22, 23, 24, 25, 26]) (s' := []) kr kr rfl kr Rk_nil ?_
 refine NS_b 1 kr ?_
 refine NS_ld _ rfl rfl kr kr kr (c161.ld (o := 0) kr rfl) ?_
 refine NS_b 2 kr ?_
 refine NS_ld _ rfl rfl kr kr kr ((cz.sm T166 (fun hx => hx.2.1 ⟨.rq p no, hr_166, rfl⟩)).ld (o := 2) kr rfl) ?_
 refine NS_ld _ rfl rfl kr kr kr (c161.ld (o := 0) kr rfl) ?_
 refine NS_b 2 kr ?_
 refine NS_ld _ rfl rfl kr kr kr ((cz.sm T166 (fun hx => hx.2.1 ⟨.rq p no, hr_166, rfl⟩)).ld (o := 3) kr rfl) ?_
 refine NS_b 1 kr ?_
 refine NS_ln _ rfl rfl kr kr kr (H.lenA (T := 23) (el := 5) kr _) ?_
 refine NS_ld _ rfl rfl kr kr kr (c161.ld (o := 0) kr rfl) ?_
 refine NS_b 2 kr ?_
 refine NS_ld _ rfl rfl kr kr kr ((cz.sm T166 (fun hx => hx.2.1 ⟨.rq p no, hr_166, rfl⟩)).ld (o := 10) kr rfl) ?_
 refine NS_ld _ rfl rfl kr kr kr (c161.ld (o := 0) kr rfl) ?_
 refine NS_b 2 kr ?_
 refine NS_ld _ rfl rfl kr kr kr ((cz.sm T166 (fun hx => hx.2.1 ⟨.rq p no, hr_166, rfl⟩)).ld (o := 11) kr rfl) ?_
 refine NS_v (.int .i64 (IntKind.i64.wrap (((W.rq p no).parts : Int) * ((W.rq p no).size : Int)))) rfl kr rfl kr kr ?_
 refine NS_i (((List.map bv d).length : Int)) (IntKind.i64.wrap (((W.rq p no).parts : Int) * ((W.rq p no).size : Int))) (nv ((d.length + (W.rq p no).parts * (W.rq p no).size : Nat) : Int)) rfl rfl kr kr kr kr rfl (sum_nat hsm hld) ?_
 refine NS_ld _ rfl rfl kr kr kr (c161.ld (o := 0) kr rfl) ?_
 refine NS_b 2 kr ?_
 refine NS_ld _ rfl rfl kr kr kr ((cz.sm T166 (fun hx => hx.2.1 ⟨.rq p no, hr_166, rfl⟩)).ld (o := 10) kr rfl) ?_
 refine NS_b 1 kr ?_
 refine NS_newR (Al.cells [nv 0, nv 0, nv 0, nv 0, nv 0]) .ptr rfl kr rfl rfl kr (Rk_1 rfl rfl (Rk_ld _ rfl rfl rfl kr ((c161.ext (.push h166 _)).ld (o := 0) kr rfl) kr (Rk_1 rfl rfl (Rk_1 rfl rfl (Rk_ld _ rfl rfl rfl kr ((cz.sm (T166.ext (.push h166 _)) (fun hx => hx.2.1 ⟨.rq p no, hr_166, rfl⟩)).ld (o := 2) kr rfl) kr (Rk_ld _ rfl rfl rfl kr ((c161.ext (.push h166 _)).ld (o := 0) kr rfl) kr (Rk_1 rfl rfl (Rk_1 rfl rfl (Rk_ld _ rfl rfl rfl kr ((cz.sm (T166.ext (.push h166 _)) (fun hx => hx.2.1 ⟨.rq p no, hr_166, rfl⟩)).ld (o := 3) kr rfl) kr (Rk_1 rfl rfl (Rk_ln _ rfl rfl rfl kr (H.lenA (T := 23) (el := 5) kr _) kr (Rk_ld _ rfl rfl rfl kr ((c161.ext (.push h166 _)).ld (o := 0) kr rfl) kr (Rk_1 rfl rfl (Rk_1 rfl rfl (Rk_ld _ rfl rfl rfl kr ((cz.sm (T166.ext (.push h166 _)) (fun hx => hx.2.1 ⟨.rq p no, hr_166, rfl⟩)).ld (o := 10) kr rfl) kr (Rk_ld _ rfl rfl rfl kr ((c161.ext (.push h166 _)).ld (o := 0) kr rfl) kr (Rk_1 rfl rfl (Rk_1 rfl rfl (Rk_ld _ rfl rfl rfl kr ((cz.sm (T166.ext (.push h166 _)) (fun hx => hx.2.1 ⟨.rq p no, hr_166, rfl⟩)).ld (o := 11) kr rfl) kr (Rk_v (v := (.int .i64 (IntKind.i64.wrap (((W.rq p no).parts : Int) * ((W.rq p no).size : Int))))) rfl rfl kr kr (Rk_i (((List.map bv d).length : Int)) (IntKind.i64.wrap (((W.rq p no).parts : Int) * ((W.rq p no).size : Int))) (nv ((d.length + (W.rq p no).parts * (W.rq p no).size : Nat) : Int)) rfl rfl rfl kr kr rfl (sum_nat hsm hld) kr (Rk_ld _ rfl rfl rfl kr ((c161.ext (.push h166 _)).ld (o := 0) kr rfl) kr (Rk_1 rfl rfl (Rk_1 rfl rfl (Rk_ld _ rfl rfl rfl kr ((cz.sm (T166.ext (.push h166 _)) (fun hx => hx.2.1 ⟨.rq p no, hr_166, rfl⟩)).ld (o := 10) kr rfl) kr (Rk_1 rfl rfl (Rk_1 rfl rfl Rk_nil))))))))))))))))))))))))))) ?_
 have m167 : ¬ (Gh.mut (⟨Gh.B (⟨Gh.B (⟨Gh.B (⟨Gh.B (Gh.more G (fun b => vb (Value.slice va162 (List.map bv d).length vc162) = some b)), S163, C163, ro163⟩ : Gh), S164, C164, ro164⟩ : Gh), S165, C165, ro165⟩ : Gh), S166, C166, ro166⟩ : Gh)) h166.next ∧ ¬ (Gh.ro (⟨Gh.B (⟨Gh.B (⟨Gh.B (⟨Gh.B (Gh.more G (fun b => vb (Value.slice va162 (List.map bv d).length vc162) = some b)), S163, C163, ro163⟩ : Gh), S164, C164, ro164⟩ : Gh), S165, C165, ro165⟩ : Gh), S166, C166, ro166⟩ : Gh)) h166.next := ⟨(R166.ow T166).op.new (Nat.le_refl _), (R166.ow T166).op.newr (Nat.le_refl _)⟩
 have l167_t6 := c161.lt
 have c167 : Cl (h166.push (Al.cells [nv 0, nv 0, nv 0, nv 0, nv 0]).obj) h166.next [nv 0, nv 0, nv 0, nv 0, nv 0] := Cl.new h166 _
 have t167 : Sm Nix h166 (h166.push (Al.cells [nv 0, nv 0, nv 0, nv 0, nv 0]).obj) := .push h166 _
 have n167 : (h166.push (Al.cells [nv 0, nv 0, nv 0, nv 0, nv 0]).obj).next = h166.next + 1 := rfl
 generalize h166.push (Al.cells [nv 0, nv 0, nv 0, nv 0, nv 0]).obj = h167 at c167 t167 n167 ⊢
 replace c161 := c161.ext t167
 have T167 : Sm (Ow h (⟨Gh.B (⟨Gh.B (⟨Gh.B (⟨Gh.B (Gh.more G (fun b => vb (Value.slice va162 (List.map bv d).length vc162) = some b)), S163, C163, ro163⟩ : Gh), S164, C164, ro164⟩ : Gh), S165, C165, ro165⟩ : Gh), S166, C166, ro166⟩ : Gh)) h166 h167 := T166.ext t167
 have N167 := T167.nx
 refine NS_nil ?_
 obtain ⟨h168, e168, d168, t168, n168⟩ := Cl.storeN (P := Try.prog) (T := 115) (n := 5) (v := .agg ⟨[nv (p : Int), nv (W.rq p no).ctx, nv (W.rq p no).tag, nv ((d.length + (W.rq p no).parts * (W.rq p no).size : Nat) : Int), nk (W.rq p no).parts]⟩) (cs := [nv (p : Int), nv (W.rq p no).ctx, nv (W.rq p no).tag, nv ((d.length + (W.rq p no).parts * (W.rq p no).size : Nat) : Int), nk (W.rq p no).parts]) c167 rfl kr rfl rfl (List.all_eq_true.1 rfl)
 replace c161 := c161.sm t168 (show ¬ _ = _ by omega)
 replace c167 := d168
 have T168 : Sm (Ow h (⟨Gh.B (⟨Gh.B (⟨Gh.B (⟨Gh.B (Gh.more G (fun b => vb (Value.slice va162 (List.map bv d).length vc162) = some b)), S163, C163, ro163⟩ : Gh), S164, C164, ro164⟩ : Gh), S165, C165, ro165⟩ : Gh), S166, C166, ro166⟩ : Gh)) h166 h168 := T167.trans t168 (fun x hx => by have hx : x = h166.next := hx; subst hx; first | exact .inr (by omega) | exact .inl ⟨by omega, m167.1, m167.2⟩ | exact .inl rfl)
 have N168 := T168.nx
 refine L_st _ rfl rfl rfl kr kr (e168) ?_
 refine L_nil ⟨rfl, ?_⟩
 refine D_l (l := []) kr kr Rk_nil ?_
 refine NS_nil ?_
 refine W_block ?_
 refine W_seq ?_
 refine W_region ?_
 refine L_ld _ rfl rfl kr (c161.ld (o := 0) kr rfl) ?_
 refine L_g 2 kr ?_
 refine L_ld _ rfl rfl kr (((cz.sm T168 (fun hx => hx.2.1 ⟨.rq p no, hr_166, rfl⟩)).ld (o := 5) kr (by rw [← hsend]; rfl) : aLoad Try.prog 4 ⟨G.B (.rq p no), 5, none⟩ h168 = some (.bool false))) ?_
 refine L_g 1 kr ?_
 refine L_nil ?_
 refine W_cond false kr (fun e => by cases e) (fun _ => ?_)
 refine W_seq ?_
 refine W_region ?_
 refine L_ld _ rfl rfl kr (c161.ld (o := 0) kr rfl) ?_
 refine L_g 2 kr ?_
 refine L_ld _ rfl rfl kr ((cz.sm T168 (fun hx => hx.2.1 ⟨.rq p no, hr_166, rfl⟩)).ld (o := 1) kr rfl) ?_
 refine L_i ((W.rq p no).peer) (-2) (.bool false) rfl rfl kr kr rfl (by simp; omega) ?_
 refine L_g 1 kr ?_
 refine L_nil ?_
 refine W_cond false kr (fun e => by cases e) (fun _ => ?_)
 refine W_seq ?_
 refine W_region ?_
 refine L_g 3 kr ?_
 refine L_ld _ rfl rfl kr ((R166.ow T168).wdL.ld (o := 1) kr rfl) ?_
 refine L_g 1 kr ?_
 obtain ⟨b1, o1, i1, l1⟩ := (R166.ow T168).prsAt (P := Try.prog) (T := 74) (el := 77) kr kr kr hp
 refine L_ix _ rfl rfl kr kr (i1) ?_
 refine L_ld _ rfl rfl kr (l1) ?_
 refine L_g 1 kr ?_
 refine L_nil ?_
 refine W_seq ?_
 refine W_region ?_
 refine L_g 4 kr ?_
 refine L_c rfl rfl kr (take_ms_no (R166.ow T168) hp (pr := fun m => ((W.setRq p no { W.rq p no with act := true, done := false, st := St.z, data := d }).rq p no).fits m.en) hlm (fun _ _ => rfl) (fun x v hv h' t => by
   obtain ⟨ty, u, rfl⟩ := hv.iface
   exact st1_ok (e := x.en) ((R166.ow T168).ext t) hp hr_166 hsm9 ((c161.ext t))) hf9) ?_
 rintro v169 h169 ⟨e169, t169⟩
 try dsimp only at e169
 try dsimp only at t169
 subst e169
 replace c161 := c161.ext t169
 replace c167 := c167.ext t169
 have T169 : Sm (Ow h (⟨Gh.B (⟨Gh.B (⟨Gh.B (⟨Gh.B (Gh.more G (fun b => vb (Value.slice va162 (List.map bv d).length vc162) = some b)), S163, C163, ro163⟩ : Gh), S164, C164, ro164⟩ : Gh), S165, C165, ro165⟩ : Gh), S166, C166, ro166⟩ : Gh)) h166 h169 := T168.ext t169
 have N169 := T169.nx
 have M169 := t169.nx
 refine L_g 3 kr ?_
 refine L_nw (Al.cells [nv 0, nv 0, nv 0, nv 0, nv 0, .nilIface]) .ptr rfl rfl kr ?_
 have m170 : ¬ (Gh.mut (⟨Gh.B (⟨Gh.B (⟨Gh.B (⟨Gh.B (Gh.more G (fun b => vb (Value.slice va162 (List.map bv d).length vc162) = some b)), S163, C163, ro163⟩ : Gh), S164, C164, ro164⟩ : Gh), S165, C165, ro165⟩ : Gh), S166, C166, ro166⟩ : Gh)) h169.next ∧ ¬ (Gh.ro (⟨Gh.B (⟨Gh.B (⟨Gh.B (⟨Gh.B (Gh.more G (fun b => vb (Value.slice va162 (List.map bv d).length vc162) = some b)), S163, C163, ro163⟩ : Gh), S164, C164, ro164⟩ : Gh), S165, C165, ro165⟩ : Gh), S166, C166, ro166⟩ : Gh)) h169.next := ⟨(R166.ow T169).op.new (Nat.le_refl _), (R166.ow T169).op.newr (Nat.le_refl _)⟩
 have l170_t6 := c161.lt
 have l170_t8 := c167.lt
 have c170 : Cl (h169.push (Al.cells [nv 0, nv 0, nv 0, nv 0, nv 0, .nilIface]).obj) h169.next [nv 0, nv 0, nv 0, nv 0, nv 0, .nilIface] := Cl.new h169 _
 have t170 : Sm Nix h169 (h169.push (Al.cells [nv 0, nv 0, nv 0, nv 0, nv 0, .nilIface]).obj) := .push h169 _
 have n170 : (h169.push (Al.cells [nv 0, nv 0, nv 0, nv 0, nv 0, .nilIface]).obj).next = h169.next + 1 := rfl
 generalize h169.push (Al.cells [nv 0, nv 0, nv 0, nv 0, nv 0, .nilIface]).obj = h170 at c170 t170 n170 ⊢
 replace c161 := c161.ext t170
 replace c167 := c167.ext t170
 have T170 : Sm (Ow h (⟨Gh.B (⟨Gh.B (⟨Gh.B (⟨Gh.B (Gh.more G (fun b => vb (Value.slice va162 (List.map bv d).length vc162) = some b)), S163, C163, ro163⟩ : Gh), S164, C164, ro164⟩ : Gh), S165, C165, ro165⟩ : Gh), S166, C166, ro166⟩ : Gh)) h166 h170 := T169.ext t170
 have N170 := T170.nx
 obtain ⟨h171, e171, d171, t171, n171⟩ := Cl.storeN (P := Try.prog) (T := 117) (n := 6) (v := .agg ⟨[.int .i64 0, .int .i64 0, .int .i64 0, .int .i64 0, .int .i64 0, .nilIface]⟩) (cs := [.int .i64 0, .int .i64 0, .int .i64 0, .int .i64 0, .int .i64 0, .nilIface]) c170 rfl kr rfl rfl (List.all_eq_true.1 rfl)
 replace c161 := c161.sm t171 (show ¬ _ = _ by omega)
 replace c167 := c167.sm t171 (show ¬ _ = _ by omega)
 replace c170 := d171
 have T171 : Sm (Ow h (⟨Gh.B (⟨Gh.B (⟨Gh.B (⟨Gh.B (Gh.more G (fun b => vb (Value.slice va162 (List.map bv d).length vc162) = some b)), S163, C163, ro163⟩ : Gh), S164, C164, ro164⟩ : Gh), S165, C165, ro165⟩ : Gh), S166, C166, ro166⟩ : Gh)) h166 h171 := T170.trans t171 (fun x hx => by have hx : x = h169.next := hx; subst hx; first | exact .inr (by omega) | exact .inl ⟨by omega, m170.1, m170.2⟩ | exact .inl rfl)
 have N171 := T171.nx
 refine L_st _ rfl rfl rfl kr kr (e171) ?_
 refine L_g 1 kr ?_
 refine L_nil ?_
 refine W_seq ?_
 refine W_region ?_
 refine L_g 1 kr ?_
 refine L_nil ?_
 refine W_cond false kr (fun e => by cases e) (fun _ => ?_)
 refine W_drawn kr ?_
 refine D_e (e := 4) (l := [0, 1, 2, 3]) (s' := []) kr kr rfl kr Rk_nil ?_
 refine NS_b 3 kr ?_
 refine NS_ld _ rfl rfl kr kr kr (c161.ld (o := 0) kr rfl) ?_
 refine NS_nil ?_
 refine L_c rfl rfl kr (putq_rq (R166.ow T171) hp hr_166 hlr) ?_
 rintro v172 h172 N172
 dsimp only at N172
 obtain ⟨S172, C172, ro172, R172, Y172⟩ := N172
 have X172 := ((X166).ow T171).trans Y172
 have hr_172 := (Y172.keep _ hr_166).1
 have mZ6_163_164_165_166_172 : ¬ (Gh.mut ⟨Gh.B (⟨Gh.B (⟨Gh.B (⟨Gh.B (⟨Gh.B (Gh.more G (fun b => vb (Value.slice va162 (List.map bv d).length vc162) = some b)), S163, C163, ro163⟩ : Gh), S164, C164, ro164⟩ : Gh), S165, C165, ro165⟩ : Gh), S166, C166, ro166⟩ : Gh), S172, C172, ro172⟩) (h.next) ∧ ¬ (Gh.ro ⟨Gh.B (⟨Gh.B (⟨Gh.B (⟨Gh.B (⟨Gh.B (Gh.more G (fun b => vb (Value.slice va162 (List.map bv d).length vc162) = some b)), S163, C163, ro163⟩ : Gh), S164, C164, ro164⟩ : Gh), S165, C165, ro165⟩ : Gh), S166, C166, ro166⟩ : Gh), S172, C172, ro172⟩) (h.next) := ⟨fun hm => (Y172.mu _ hm).elim mZ6_163_164_165_166.1 (fun e => by have := c161.lt; omega), fun hm => (Y172.ron _ hm).elim mZ6_163_164_165_166.2 (fun e => by have := c161.lt; omega)⟩
 replace c161 := c161.sm Y172.sm mZ6_163_164_165_166.1
 have m167_172 : ¬ (Gh.mut ⟨Gh.B (⟨Gh.B (⟨Gh.B (⟨Gh.B (⟨Gh.B (Gh.more G (fun b => vb (Value.slice va162 (List.map bv d).length vc162) = some b)), S163, C163, ro163⟩ : Gh), S164, C164, ro164⟩ : Gh), S165, C165, ro165⟩ : Gh), S166, C166, ro166⟩ : Gh), S172, C172, ro172⟩) (h166.next) ∧ ¬ (Gh.ro ⟨Gh.B (⟨Gh.B (⟨Gh.B (⟨Gh.B (⟨Gh.B (Gh.more G (fun b => vb (Value.slice va162 (List.map bv d).length vc162) = some b)), S163, C163, ro163⟩ : Gh), S164, C164, ro164⟩ : Gh), S165, C165, ro165⟩ : Gh), S166, C166, ro166⟩ : Gh), S172, C172, ro172⟩) (h166.next) := ⟨fun hm => (Y172.mu _ hm).elim m167.1 (fun e => by have := c167.lt; omega), fun hm => (Y172.ron _ hm).elim m167.2 (fun e => by have := c167.lt; omega)⟩
 replace c167 := c167.sm Y172.sm m167.1
 have m170_172 : ¬ (Gh.mut ⟨Gh.B (⟨Gh.B (⟨Gh.B (⟨Gh.B (⟨Gh.B (Gh.more G (fun b => vb (Value.slice va162 (List.map bv d).length vc162) = some b)), S163, C163, ro163⟩ : Gh), S164, C164, ro164⟩ : Gh), S165, C165, ro165⟩ : Gh), S166, C166, ro166⟩ : Gh), S172, C172, ro172⟩) (h169.next) ∧ ¬ (Gh.ro ⟨Gh.B (⟨Gh.B (⟨Gh.B (⟨Gh.B (⟨Gh.B (Gh.more G (fun b => vb (Value.slice va162 (List.map bv d).length vc162) = some b)), S163, C163, ro163⟩ : Gh), S164, C164, ro164⟩ : Gh), S165, C165, ro165⟩ : Gh), S166, C166, ro166⟩ : Gh), S172, C172, ro172⟩) (h169.next) := ⟨fun hm => (Y172.mu _ hm).elim m170.1 (fun e => by have := c170.lt; omega), fun hm => (Y172.ron _ hm).elim m170.2 (fun e => by have := c170.lt; omega)⟩
 replace c170 := c170.sm Y172.sm m170.1
 have T172 : Sm (Ow h (⟨Gh.B (⟨Gh.B (⟨Gh.B (⟨Gh.B (⟨Gh.B (Gh.more G (fun b => vb (Value.slice va162 (List.map bv d).length vc162) = some b)), S163, C163, ro163⟩ : Gh), S164, C164, ro164⟩ : Gh), S165, C165, ro165⟩ : Gh), S166, C166, ro166⟩ : Gh), S172, C172, ro172⟩ : Gh)) h172 h172 := .refl
 refine L_nil ⟨rfl, ?_⟩
 refine D_l (l := []) kr kr Rk_nil ?_
 refine NS_nil ?_
 repeat with_reducible refine blk_norm ?_
 refine done_of (v := .tuple ⟨[]⟩) (.inr rfl) kr ?_
 exact ⟨_, _, _, (R172.ow T172), ((X172).ow T172)⟩
end
end Go.Proofs.Ytmehemeoaplepaa
