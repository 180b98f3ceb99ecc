/- Own texts for this claim: Ce, Cf, Cg, Ck0, Ck1, Ck2, Ck3, Ck4, Nums, Ck5, Ck6, Ck7, Jn, Tp4, Te4, Te5, Te7, Te8, Mt8, SortShelfPlain, Ts1, Te9, Ts2, Ts3, Ts4, Ts5, Ts6, Ts7, Ts8, Te1, Tab, Http, Pct, Te2, Pk, Te3. -/
import Derived.Test.YtcohmieljbdlhaaGreatDoorMarkNoneCardP3
import Derived.Test.YtcohmieljbdlhaaGreatDoorMarkNoneCardP6
import Derived.Test.YtcohmieljbdlhaaGreatDoorMarkNoneCardP5
import Derived.Shelf.SlSortCmp.WholeK
import Derived.Shelf.SlicesG.Cmp
import Derived.Ground.SlsfProg
import Derived.Ground.SlgcProg
import Derived.Ground.NamesProg
import Derived.Test.YtcohmieljbdlhaaGreatDoorProg
import Derived.Shelf.Strings.FieldsFuncGrows
set_option linter.all false
section
open Go Go.Sv Go.RowKit
namespace Go.Proofs.Tw
attribute [local irreducible] Wp FinQ resV Ent Pur Go.Sv.Fn Sat0
set_option maxRecDepth 100000
set_option maxHeartbeats 4000000
variable {G:Nat→Option (List Cell)} [Back G]
theorem term_k3 (b:List UInt8) (hb:b.length≤30000000000000) (f p l:Nat) (hf:f<16) (hl:0<l) (hl2:l≤64) (hp:p<b.length) (hk:(b.getD p 0).toNat=3) {F:Nat→Nat→Cell} {p1:Nat} {c1:Int} (ck:FnB Tryz.prog G 259 [cB b (p+1) ((64:Int)-(l:Int)+1)] [.c (.ptr 0 0),.c (.int .i64 1),.c (.int .i64 (17-(f:Int)))] [.c (.sl 4 1 F),.c .nilif] [(0,cB b p1 c1)]):FnB Tryz.prog G 222 [cB b p ((64:Int)-(l:Int))] [.c (.ptr 0 0),.c (.int .i64 (17-((f+1:Nat):Int)))] [.agg (encK ⟨3,0,[],1,F⟩),.c .nilif] [(0,cB b p1 c1)]:=by
 refine zf Tryz.func222 ?_
 have ht0:(bif decide ((64:Int)-(l:Int)+1>64) then true else decide (17-((f+1:Nat):Int)>16))=false:=by rw [decide_eq_false oM,decide_eq_false oM];rfl
 have c9:=take_one (G:=G) b hb p ((64:Int)-(l:Int)+1) hp hk
 have e2:=deep_D f
 refine zg [(16,{cs:=[(3,cb [0] ck)],fm:=[(2,.c (.int .i64 ((17:Int)-(f:Int))))]}),(4,{cs:=[(1,cb [0] c9)]})] [false,false,false,false,true,true] [inR .i64 (64-(l:Int)+1),(bif decide ((64:Int)-(l:Int)+(1:Int)>(64:Int)) then true else decide ((17:Int)-(↑(f+(1:Nat)):Int)>(16:Int)))=false,(!true)=false,(0:Int)≤(0:Int)∧(0:Int)<(↑(1:Nat):Int),(IntKind.i64.wrap (↑(3:Nat):Int)==(1:Int))=false,(IntKind.i64.wrap (↑(3:Nat):Int)==(2:Int))=false,(IntKind.i64.wrap (↑(3:Nat):Int)==(3:Int))=true,(IntKind.i64.wrap (↑(3:Nat):Int)==(3:Int))=true,EqvI (.c (.int .i64 ((17:Int)-(↑(f+(1:Nat)):Int)+(1:Int)))) (.c (.int .i64 ((17:Int)-(f:Int)))),EqvD (.c (.int .i64 ((17:Int)-(↑(f+(1:Nat)):Int)+(1:Int)))) (.c (.int .i64 ((17:Int)-(f:Int)))),inR .i64 ((17:Int)-(↑(f+(1:Nat)):Int)+(1:Int))] ⟨i6,aS,rfl,oM,rfl,rfl,rfl,rfl,fun _ _=>trivial,aS,i6⟩ ?_
 exact zb []
theorem term_kx3 (b:List UInt8) (hb:b.length≤30000000000000) (f p l:Nat) (hf:f<16) (hl:0<l) (hl2:l≤64) (hp:p<b.length) (hk:(b.getD p 0).toNat=3) {p1:Nat} {c1 e:Int} (ck:FnB Tryz.prog G 259 [cB b (p+1) ((64:Int)-(l:Int)+1)] [.c (.ptr 0 0),.c (.int .i64 1),.c (.int .i64 (17-(f:Int)))] [.c .nilsl,.c (errC e)] [(0,cB b p1 c1)]):FnB Tryz.prog G 222 [cB b p ((64:Int)-(l:Int))] [.c (.ptr 0 0),.c (.int .i64 (17-((f+1:Nat):Int)))] [.agg (encK ⟨3,0,[],0,fun _ _ => .nilif⟩),.c (errC e)] [(0,cB b p1 c1)]:=by
 refine zf Tryz.func222 ?_
 have ht0:(bif decide ((64:Int)-(l:Int)+1>64) then true else decide (17-((f+1:Nat):Int)>16))=false:=by rw [decide_eq_false oM,decide_eq_false oM];rfl
 have c9:=take_one (G:=G) b hb p ((64:Int)-(l:Int)+1) hp hk
 have e2:=deep_D f
 have eD:=@kids_D 3 0 [] (fun _ _ => .nilif)
 have eI:=@kids_I 3 0 [] (fun _ _ => .nilif)
 refine zg [(16,{cs:=[(3,cb [0] ck)],fm:=[(2,.c (.int .i64 ((17:Int)-(f:Int))))]}),(21,{fm:=[(0,.agg [.int .i64 3,.int .i64 0,.str [],.sl 4 0 (fun _ _ => .nilif)])]}),(4,{cs:=[(1,cb [0] c9)]})] [false,false,false,false,true,true] [inR .i64 (64-(l:Int)+1),(bif decide ((64:Int)-(l:Int)+(1:Int)>(64:Int)) then true else decide ((17:Int)-(↑(f+(1:Nat)):Int)>(16:Int)))=false,(!true)=false,(0:Int)≤(0:Int)∧(0:Int)<(↑(1:Nat):Int),(IntKind.i64.wrap (↑(3:Nat):Int)==(1:Int))=false,(IntKind.i64.wrap (↑(3:Nat):Int)==(2:Int))=false,(IntKind.i64.wrap (↑(3:Nat):Int)==(3:Int))=true,(IntKind.i64.wrap (↑(3:Nat):Int)==(3:Int))=true,EqvI (.c (.int .i64 ((17:Int)-(↑(f+(1:Nat)):Int)+(1:Int)))) (.c (.int .i64 ((17:Int)-(f:Int)))),EqvD (.c (.int .i64 ((17:Int)-(↑(f+(1:Nat)):Int)+(1:Int)))) (.c (.int .i64 ((17:Int)-(f:Int)))),inR .i64 ((17:Int)-(↑(f+(1:Nat)):Int)+(1:Int)),EqvI (.agg [.int .i64 (IntKind.i64.wrap (↑(3:Nat):Int)),.int .i64 0,.str [],.nilsl]) (.agg [.int .i64 3,.int .i64 0,.str [],.sl 4 (0:Nat) fun (x x_1:Nat) => .nilif]),EqvD (.agg [.int .i64 (IntKind.i64.wrap (↑(3:Nat):Int)),.int .i64 0,.str [],.nilsl]) (.agg [.int .i64 3,.int .i64 0,.str [],.sl 4 (0:Nat) fun (x x_1:Nat) => .nilif])] ⟨i6,aS,rfl,oM,rfl,rfl,rfl,rfl,fun _ _=>trivial,aS,i6,eqvI_flat _ _ kR,(show EqvD (.agg [.int .i64 (IntKind.i64.wrap (↑(3:Nat):Int)),.int .i64 (0:Int),.str [],.nilsl]) (.agg [.int .i64 (3:Int),.int .i64 (0:Int),.str [],.sl (4:Nat) (0:Nat) fun (x x_1:Nat) => .nilif]) from aS)⟩ ?_
 exact zb []
theorem term_k4 (b:List UInt8) (hb:b.length≤30000000000000) (f p l:Nat) (hf:f<16) (hl:0<l) (hl2:l≤64) (hp:p<b.length) (hk:(b.getD p 0).toNat=4) {F:Nat→Nat→Cell} {p1:Nat} {c1:Int} (ck:FnB Tryz.prog G 259 [cB b (p+1) ((64:Int)-(l:Int)+1)] [.c (.ptr 0 0),.c (.int .i64 1),.c (.int .i64 (17-(f:Int)))] [.c (.sl 4 1 F),.c .nilif] [(0,cB b p1 c1)]):FnB Tryz.prog G 222 [cB b p ((64:Int)-(l:Int))] [.c (.ptr 0 0),.c (.int .i64 (17-((f+1:Nat):Int)))] [.agg (encK ⟨4,0,[],1,F⟩),.c .nilif] [(0,cB b p1 c1)]:=by
 refine zf Tryz.func222 ?_
 have ht0:(bif decide ((64:Int)-(l:Int)+1>64) then true else decide (17-((f+1:Nat):Int)>16))=false:=by rw [decide_eq_false oM,decide_eq_false oM];rfl
 have c9:=take_one (G:=G) b hb p ((64:Int)-(l:Int)+1) hp hk
 have e2:=deep_D f
 refine zg [(16,{cs:=[(3,cb [0] ck)],fm:=[(2,.c (.int .i64 ((17:Int)-(f:Int))))]}),(4,{cs:=[(1,cb [0] c9)]})] [false,false,false,false,false,true] [inR .i64 (64-(l:Int)+1),(bif decide ((64:Int)-(l:Int)+(1:Int)>(64:Int)) then true else decide ((17:Int)-(↑(f+(1:Nat)):Int)>(16:Int)))=false,(!true)=false,(0:Int)≤(0:Int)∧(0:Int)<(↑(1:Nat):Int),(IntKind.i64.wrap (↑(4:Nat):Int)==(1:Int))=false,(IntKind.i64.wrap (↑(4:Nat):Int)==(2:Int))=false,(IntKind.i64.wrap (↑(4:Nat):Int)==(3:Int))=false,(IntKind.i64.wrap (↑(4:Nat):Int)==(4:Int))=true,EqvI (.c (.int .i64 ((17:Int)-(↑(f+(1:Nat)):Int)+(1:Int)))) (.c (.int .i64 ((17:Int)-(f:Int)))),EqvD (.c (.int .i64 ((17:Int)-(↑(f+(1:Nat)):Int)+(1:Int)))) (.c (.int .i64 ((17:Int)-(f:Int)))),inR .i64 ((17:Int)-(↑(f+(1:Nat)):Int)+(1:Int))] ⟨i6,aS,rfl,oM,rfl,rfl,rfl,rfl,fun _ _=>trivial,aS,i6⟩ ?_
 exact zb []
theorem term_kx4 (b:List UInt8) (hb:b.length≤30000000000000) (f p l:Nat) (hf:f<16) (hl:0<l) (hl2:l≤64) (hp:p<b.length) (hk:(b.getD p 0).toNat=4) {p1:Nat} {c1 e:Int} (ck:FnB Tryz.prog G 259 [cB b (p+1) ((64:Int)-(l:Int)+1)] [.c (.ptr 0 0),.c (.int .i64 1),.c (.int .i64 (17-(f:Int)))] [.c .nilsl,.c (errC e)] [(0,cB b p1 c1)]):FnB Tryz.prog G 222 [cB b p ((64:Int)-(l:Int))] [.c (.ptr 0 0),.c (.int .i64 (17-((f+1:Nat):Int)))] [.agg (encK ⟨4,0,[],0,fun _ _ => .nilif⟩),.c (errC e)] [(0,cB b p1 c1)]:=by
 refine zf Tryz.func222 ?_
 have ht0:(bif decide ((64:Int)-(l:Int)+1>64) then true else decide (17-((f+1:Nat):Int)>16))=false:=by rw [decide_eq_false oM,decide_eq_false oM];rfl
 have c9:=take_one (G:=G) b hb p ((64:Int)-(l:Int)+1) hp hk
 have e2:=deep_D f
 have eD:=@kids_D 4 0 [] (fun _ _ => .nilif)
 have eI:=@kids_I 4 0 [] (fun _ _ => .nilif)
 refine zg [(16,{cs:=[(3,cb [0] ck)],fm:=[(2,.c (.int .i64 ((17:Int)-(f:Int))))]}),(21,{fm:=[(0,.agg [.int .i64 4,.int .i64 0,.str [],.sl 4 0 (fun _ _ => .nilif)])]}),(4,{cs:=[(1,cb [0] c9)]})] [false,false,false,false,false,true] [inR .i64 (64-(l:Int)+1),(bif decide ((64:Int)-(l:Int)+(1:Int)>(64:Int)) then true else decide ((17:Int)-(↑(f+(1:Nat)):Int)>(16:Int)))=false,(!true)=false,(0:Int)≤(0:Int)∧(0:Int)<(↑(1:Nat):Int),(IntKind.i64.wrap (↑(4:Nat):Int)==(1:Int))=false,(IntKind.i64.wrap (↑(4:Nat):Int)==(2:Int))=false,(IntKind.i64.wrap (↑(4:Nat):Int)==(3:Int))=false,(IntKind.i64.wrap (↑(4:Nat):Int)==(4:Int))=true,EqvI (.c (.int .i64 ((17:Int)-(↑(f+(1:Nat)):Int)+(1:Int)))) (.c (.int .i64 ((17:Int)-(f:Int)))),EqvD (.c (.int .i64 ((17:Int)-(↑(f+(1:Nat)):Int)+(1:Int)))) (.c (.int .i64 ((17:Int)-(f:Int)))),inR .i64 ((17:Int)-(↑(f+(1:Nat)):Int)+(1:Int)),EqvI (.agg [.int .i64 (IntKind.i64.wrap (↑(4:Nat):Int)),.int .i64 0,.str [],.nilsl]) (.agg [.int .i64 4,.int .i64 0,.str [],.sl 4 (0:Nat) fun (x x_1:Nat) => .nilif]),EqvD (.agg [.int .i64 (IntKind.i64.wrap (↑(4:Nat):Int)),.int .i64 0,.str [],.nilsl]) (.agg [.int .i64 4,.int .i64 0,.str [],.sl 4 (0:Nat) fun (x x_1:Nat) => .nilif])] ⟨i6,aS,rfl,oM,rfl,rfl,rfl,rfl,fun _ _=>trivial,aS,i6,eqvI_flat _ _ kR,(show EqvD (.agg [.int .i64 (IntKind.i64.wrap (↑(4:Nat):Int)),.int .i64 (0:Int),.str [],.nilsl]) (.agg [.int .i64 (4:Int),.int .i64 (0:Int),.str [],.sl (4:Nat) (0:Nat) fun (x x_1:Nat) => .nilif]) from aS)⟩ ?_
 exact zb []
theorem term_k5 (b:List UInt8) (hb:b.length≤30000000000000) (f p l:Nat) (hf:f<16) (hl:0<l) (hl2:l≤64) (hp:p<b.length) (hk:(b.getD p 0).toNat=5) {F:Nat→Nat→Cell} {p1:Nat} {c1:Int} (ck:FnB Tryz.prog G 259 [cB b (p+1) ((64:Int)-(l:Int)+1)] [.c (.ptr 0 0),.c (.int .i64 2),.c (.int .i64 (17-(f:Int)))] [.c (.sl 4 2 F),.c .nilif] [(0,cB b p1 c1)]):FnB Tryz.prog G 222 [cB b p ((64:Int)-(l:Int))] [.c (.ptr 0 0),.c (.int .i64 (17-((f+1:Nat):Int)))] [.agg (encK ⟨5,0,[],2,F⟩),.c .nilif] [(0,cB b p1 c1)]:=by
 refine zf Tryz.func222 ?_
 have ht0:(bif decide ((64:Int)-(l:Int)+1>64) then true else decide (17-((f+1:Nat):Int)>16))=false:=by rw [decide_eq_false oM,decide_eq_false oM];rfl
 have c9:=take_one (G:=G) b hb p ((64:Int)-(l:Int)+1) hp hk
 have e2:=deep_D f
 refine zg [(20,{cs:=[(3,cb [0] ck)],fm:=[(2,.c (.int .i64 ((17:Int)-(f:Int))))]}),(4,{cs:=[(1,cb [0] c9)]})] [false,false,false,false,false,false,true,true] [inR .i64 (64-(l:Int)+1),(bif decide ((64:Int)-(l:Int)+(1:Int)>(64:Int)) then true else decide ((17:Int)-(↑(f+(1:Nat)):Int)>(16:Int)))=false,(!true)=false,(0:Int)≤(0:Int)∧(0:Int)<(↑(1:Nat):Int),(IntKind.i64.wrap (↑(5:Nat):Int)==(1:Int))=false,(IntKind.i64.wrap (↑(5:Nat):Int)==(2:Int))=false,(IntKind.i64.wrap (↑(5:Nat):Int)==(3:Int))=false,(IntKind.i64.wrap (↑(5:Nat):Int)==(4:Int))=false,(IntKind.i64.wrap (↑(5:Nat):Int)==(5:Int))=true,(IntKind.i64.wrap (↑(5:Nat):Int)==(5:Int))=true,EqvI (.c (.int .i64 ((17:Int)-(↑(f+(1:Nat)):Int)+(1:Int)))) (.c (.int .i64 ((17:Int)-(f:Int)))),EqvD (.c (.int .i64 ((17:Int)-(↑(f+(1:Nat)):Int)+(1:Int)))) (.c (.int .i64 ((17:Int)-(f:Int)))),inR .i64 ((17:Int)-(↑(f+(1:Nat)):Int)+(1:Int))] ⟨i6,aS,rfl,oM,rfl,rfl,rfl,rfl,rfl,rfl,fun _ _=>trivial,aS,i6⟩ ?_
 exact zb []
theorem term_kx5 (b:List UInt8) (hb:b.length≤30000000000000) (f p l:Nat) (hf:f<16) (hl:0<l) (hl2:l≤64) (hp:p<b.length) (hk:(b.getD p 0).toNat=5) {p1:Nat} {c1 e:Int} (ck:FnB Tryz.prog G 259 [cB b (p+1) ((64:Int)-(l:Int)+1)] [.c (.ptr 0 0),.c (.int .i64 2),.c (.int .i64 (17-(f:Int)))] [.c .nilsl,.c (errC e)] [(0,cB b p1 c1)]):FnB Tryz.prog G 222 [cB b p ((64:Int)-(l:Int))] [.c (.ptr 0 0),.c (.int .i64 (17-((f+1:Nat):Int)))] [.agg (encK ⟨5,0,[],0,fun _ _ => .nilif⟩),.c (errC e)] [(0,cB b p1 c1)]:=by
 refine zf Tryz.func222 ?_
 have ht0:(bif decide ((64:Int)-(l:Int)+1>64) then true else decide (17-((f+1:Nat):Int)>16))=false:=by rw [decide_eq_false oM,decide_eq_false oM];rfl
 have c9:=take_one (G:=G) b hb p ((64:Int)-(l:Int)+1) hp hk
 have e2:=deep_D f
 have eD:=@kids_D 5 0 [] (fun _ _ => .nilif)
 have eI:=@kids_I 5 0 [] (fun _ _ => .nilif)
 refine zg [(20,{cs:=[(3,cb [0] ck)],fm:=[(2,.c (.int .i64 ((17:Int)-(f:Int))))]}),(21,{fm:=[(0,.agg [.int .i64 5,.int .i64 0,.str [],.sl 4 0 (fun _ _ => .nilif)])]}),(4,{cs:=[(1,cb [0] c9)]})] [false,false,false,false,false,false,true,true] [inR .i64 (64-(l:Int)+1),(bif decide ((64:Int)-(l:Int)+(1:Int)>(64:Int)) then true else decide ((17:Int)-(↑(f+(1:Nat)):Int)>(16:Int)))=false,(!true)=false,(0:Int)≤(0:Int)∧(0:Int)<(↑(1:Nat):Int),(IntKind.i64.wrap (↑(5:Nat):Int)==(1:Int))=false,(IntKind.i64.wrap (↑(5:Nat):Int)==(2:Int))=false,(IntKind.i64.wrap (↑(5:Nat):Int)==(3:Int))=false,(IntKind.i64.wrap (↑(5:Nat):Int)==(4:Int))=false,(IntKind.i64.wrap (↑(5:Nat):Int)==(5:Int))=true,(IntKind.i64.wrap (↑(5:Nat):Int)==(5:Int))=true,EqvI (.c (.int .i64 ((17:Int)-(↑(f+(1:Nat)):Int)+(1:Int)))) (.c (.int .i64 ((17:Int)-(f:Int)))),EqvD (.c (.int .i64 ((17:Int)-(↑(f+(1:Nat)):Int)+(1:Int)))) (.c (.int .i64 ((17:Int)-(f:Int)))),inR .i64 ((17:Int)-(↑(f+(1:Nat)):Int)+(1:Int)),EqvI (.agg [.int .i64 (IntKind.i64.wrap (↑(5:Nat):Int)),.int .i64 0,.str [],.nilsl]) (.agg [.int .i64 5,.int .i64 0,.str [],.sl 4 (0:Nat) fun (x x_1:Nat) => .nilif]),EqvD (.agg [.int .i64 (IntKind.i64.wrap (↑(5:Nat):Int)),.int .i64 0,.str [],.nilsl]) (.agg [.int .i64 5,.int .i64 0,.str [],.sl 4 (0:Nat) fun (x x_1:Nat) => .nilif])] ⟨i6,aS,rfl,oM,rfl,rfl,rfl,rfl,rfl,rfl,fun _ _=>trivial,aS,i6,eqvI_flat _ _ kR,(show EqvD (.agg [.int .i64 (IntKind.i64.wrap (↑(5:Nat):Int)),.int .i64 (0:Int),.str [],.nilsl]) (.agg [.int .i64 (5:Int),.int .i64 (0:Int),.str [],.sl (4:Nat) (0:Nat) fun (x x_1:Nat) => .nilif]) from aS)⟩ ?_
 exact zb []
theorem term_k6 (b:List UInt8) (hb:b.length≤30000000000000) (f p l:Nat) (hf:f<16) (hl:0<l) (hl2:l≤64) (hp:p<b.length) (hk:(b.getD p 0).toNat=6) {F:Nat→Nat→Cell} {p1:Nat} {c1:Int} (ck:FnB Tryz.prog G 259 [cB b (p+1) ((64:Int)-(l:Int)+1)] [.c (.ptr 0 0),.c (.int .i64 2),.c (.int .i64 (17-(f:Int)))] [.c (.sl 4 2 F),.c .nilif] [(0,cB b p1 c1)]):FnB Tryz.prog G 222 [cB b p ((64:Int)-(l:Int))] [.c (.ptr 0 0),.c (.int .i64 (17-((f+1:Nat):Int)))] [.agg (encK ⟨6,0,[],2,F⟩),.c .nilif] [(0,cB b p1 c1)]:=by
 refine zf Tryz.func222 ?_
 have ht0:(bif decide ((64:Int)-(l:Int)+1>64) then true else decide (17-((f+1:Nat):Int)>16))=false:=by rw [decide_eq_false oM,decide_eq_false oM];rfl
 have c9:=take_one (G:=G) b hb p ((64:Int)-(l:Int)+1) hp hk
 have e2:=deep_D f
 refine zg [(20,{cs:=[(3,cb [0] ck)],fm:=[(2,.c (.int .i64 ((17:Int)-(f:Int))))]}),(4,{cs:=[(1,cb [0] c9)]})] [false,false,false,false,false,false,false,true,true] [inR .i64 (64-(l:Int)+1),(bif decide ((64:Int)-(l:Int)+(1:Int)>(64:Int)) then true else decide ((17:Int)-(↑(f+(1:Nat)):Int)>(16:Int)))=false,(!true)=false,(0:Int)≤(0:Int)∧(0:Int)<(↑(1:Nat):Int),(IntKind.i64.wrap (↑(6:Nat):Int)==(1:Int))=false,(IntKind.i64.wrap (↑(6:Nat):Int)==(2:Int))=false,(IntKind.i64.wrap (↑(6:Nat):Int)==(3:Int))=false,(IntKind.i64.wrap (↑(6:Nat):Int)==(4:Int))=false,(IntKind.i64.wrap (↑(6:Nat):Int)==(5:Int))=false,(IntKind.i64.wrap (↑(6:Nat):Int)==(6:Int))=true,(IntKind.i64.wrap (↑(6:Nat):Int)==(6:Int))=true,EqvI (.c (.int .i64 ((17:Int)-(↑(f+(1:Nat)):Int)+(1:Int)))) (.c (.int .i64 ((17:Int)-(f:Int)))),EqvD (.c (.int .i64 ((17:Int)-(↑(f+(1:Nat)):Int)+(1:Int)))) (.c (.int .i64 ((17:Int)-(f:Int)))),inR .i64 ((17:Int)-(↑(f+(1:Nat)):Int)+(1:Int))] ⟨i6,aS,rfl,oM,rfl,rfl,rfl,rfl,rfl,rfl,rfl,fun _ _=>trivial,aS,i6⟩ ?_
 exact zb []
theorem term_kx6 (b:List UInt8) (hb:b.length≤30000000000000) (f p l:Nat) (hf:f<16) (hl:0<l) (hl2:l≤64) (hp:p<b.length) (hk:(b.getD p 0).toNat=6) {p1:Nat} {c1 e:Int} (ck:FnB Tryz.prog G 259 [cB b (p+1) ((64:Int)-(l:Int)+1)] [.c (.ptr 0 0),.c (.int .i64 2),.c (.int .i64 (17-(f:Int)))] [.c .nilsl,.c (errC e)] [(0,cB b p1 c1)]):FnB Tryz.prog G 222 [cB b p ((64:Int)-(l:Int))] [.c (.ptr 0 0),.c (.int .i64 (17-((f+1:Nat):Int)))] [.agg (encK ⟨6,0,[],0,fun _ _ => .nilif⟩),.c (errC e)] [(0,cB b p1 c1)]:=by
 refine zf Tryz.func222 ?_
 have ht0:(bif decide ((64:Int)-(l:Int)+1>64) then true else decide (17-((f+1:Nat):Int)>16))=false:=by rw [decide_eq_false oM,decide_eq_false oM];rfl
 have c9:=take_one (G:=G) b hb p ((64:Int)-(l:Int)+1) hp hk
 have e2:=deep_D f
 have eD:=@kids_D 6 0 [] (fun _ _ => .nilif)
 have eI:=@kids_I 6 0 [] (fun _ _ => .nilif)
 refine zg [(20,{cs:=[(3,cb [0] ck)],fm:=[(2,.c (.int .i64 ((17:Int)-(f:Int))))]}),(21,{fm:=[(0,.agg [.int .i64 6,.int .i64 0,.str [],.sl 4 0 (fun _ _ => .nilif)])]}),(4,{cs:=[(1,cb [0] c9)]})] [false,false,false,false,false,false,false,true,true] [inR .i64 (64-(l:Int)+1),(bif decide ((64:Int)-(l:Int)+(1:Int)>(64:Int)) then true else decide ((17:Int)-(↑(f+(1:Nat)):Int)>(16:Int)))=false,(!true)=false,(0:Int)≤(0:Int)∧(0:Int)<(↑(1:Nat):Int),(IntKind.i64.wrap (↑(6:Nat):Int)==(1:Int))=false,(IntKind.i64.wrap (↑(6:Nat):Int)==(2:Int))=false,(IntKind.i64.wrap (↑(6:Nat):Int)==(3:Int))=false,(IntKind.i64.wrap (↑(6:Nat):Int)==(4:Int))=false,(IntKind.i64.wrap (↑(6:Nat):Int)==(5:Int))=false,(IntKind.i64.wrap (↑(6:Nat):Int)==(6:Int))=true,(IntKind.i64.wrap (↑(6:Nat):Int)==(6:Int))=true,EqvI (.c (.int .i64 ((17:Int)-(↑(f+(1:Nat)):Int)+(1:Int)))) (.c (.int .i64 ((17:Int)-(f:Int)))),EqvD (.c (.int .i64 ((17:Int)-(↑(f+(1:Nat)):Int)+(1:Int)))) (.c (.int .i64 ((17:Int)-(f:Int)))),inR .i64 ((17:Int)-(↑(f+(1:Nat)):Int)+(1:Int)),EqvI (.agg [.int .i64 (IntKind.i64.wrap (↑(6:Nat):Int)),.int .i64 0,.str [],.nilsl]) (.agg [.int .i64 6,.int .i64 0,.str [],.sl 4 (0:Nat) fun (x x_1:Nat) => .nilif]),EqvD (.agg [.int .i64 (IntKind.i64.wrap (↑(6:Nat):Int)),.int .i64 0,.str [],.nilsl]) (.agg [.int .i64 6,.int .i64 0,.str [],.sl 4 (0:Nat) fun (x x_1:Nat) => .nilif])] ⟨i6,aS,rfl,oM,rfl,rfl,rfl,rfl,rfl,rfl,rfl,fun _ _=>trivial,aS,i6,eqvI_flat _ _ kR,(show EqvD (.agg [.int .i64 (IntKind.i64.wrap (↑(6:Nat):Int)),.int .i64 (0:Int),.str [],.nilsl]) (.agg [.int .i64 (6:Int),.int .i64 (0:Int),.str [],.sl (4:Nat) (0:Nat) fun (x x_1:Nat) => .nilif]) from aS)⟩ ?_
 exact zb []
theorem term_k7 (b:List UInt8) (hb:b.length≤30000000000000) (f p l:Nat) (hf:f<16) (hl:0<l) (hl2:l≤64) (hp:p<b.length) (hk:(b.getD p 0).toNat=7) {F:Nat→Nat→Cell} {p1:Nat} {c1:Int} (ck:FnB Tryz.prog G 259 [cB b (p+1) ((64:Int)-(l:Int)+1)] [.c (.ptr 0 0),.c (.int .i64 2),.c (.int .i64 (17-(f:Int)))] [.c (.sl 4 2 F),.c .nilif] [(0,cB b p1 c1)]):FnB Tryz.prog G 222 [cB b p ((64:Int)-(l:Int))] [.c (.ptr 0 0),.c (.int .i64 (17-((f+1:Nat):Int)))] [.agg (encK ⟨7,0,[],2,F⟩),.c .nilif] [(0,cB b p1 c1)]:=by
 refine zf Tryz.func222 ?_
 have ht0:(bif decide ((64:Int)-(l:Int)+1>64) then true else decide (17-((f+1:Nat):Int)>16))=false:=by rw [decide_eq_false oM,decide_eq_false oM];rfl
 have c9:=take_one (G:=G) b hb p ((64:Int)-(l:Int)+1) hp hk
 have e2:=deep_D f
 refine zg [(20,{cs:=[(3,cb [0] ck)],fm:=[(2,.c (.int .i64 ((17:Int)-(f:Int))))]}),(4,{cs:=[(1,cb [0] c9)]})] [false,false,false,false,false,false,false,false,true] [inR .i64 (64-(l:Int)+1),(bif decide ((64:Int)-(l:Int)+(1:Int)>(64:Int)) then true else decide ((17:Int)-(↑(f+(1:Nat)):Int)>(16:Int)))=false,(!true)=false,(0:Int)≤(0:Int)∧(0:Int)<(↑(1:Nat):Int),(IntKind.i64.wrap (↑(7:Nat):Int)==(1:Int))=false,(IntKind.i64.wrap (↑(7:Nat):Int)==(2:Int))=false,(IntKind.i64.wrap (↑(7:Nat):Int)==(3:Int))=false,(IntKind.i64.wrap (↑(7:Nat):Int)==(4:Int))=false,(IntKind.i64.wrap (↑(7:Nat):Int)==(5:Int))=false,(IntKind.i64.wrap (↑(7:Nat):Int)==(6:Int))=false,(IntKind.i64.wrap (↑(7:Nat):Int)==(7:Int))=true,EqvI (.c (.int .i64 ((17:Int)-(↑(f+(1:Nat)):Int)+(1:Int)))) (.c (.int .i64 ((17:Int)-(f:Int)))),EqvD (.c (.int .i64 ((17:Int)-(↑(f+(1:Nat)):Int)+(1:Int)))) (.c (.int .i64 ((17:Int)-(f:Int)))),inR .i64 ((17:Int)-(↑(f+(1:Nat)):Int)+(1:Int))] ⟨i6,aS,rfl,oM,rfl,rfl,rfl,rfl,rfl,rfl,rfl,fun _ _=>trivial,aS,i6⟩ ?_
 exact zb []
theorem term_kx7 (b:List UInt8) (hb:b.length≤30000000000000) (f p l:Nat) (hf:f<16) (hl:0<l) (hl2:l≤64) (hp:p<b.length) (hk:(b.getD p 0).toNat=7) {p1:Nat} {c1 e:Int} (ck:FnB Tryz.prog G 259 [cB b (p+1) ((64:Int)-(l:Int)+1)] [.c (.ptr 0 0),.c (.int .i64 2),.c (.int .i64 (17-(f:Int)))] [.c .nilsl,.c (errC e)] [(0,cB b p1 c1)]):FnB Tryz.prog G 222 [cB b p ((64:Int)-(l:Int))] [.c (.ptr 0 0),.c (.int .i64 (17-((f+1:Nat):Int)))] [.agg (encK ⟨7,0,[],0,fun _ _ => .nilif⟩),.c (errC e)] [(0,cB b p1 c1)]:=by
 refine zf Tryz.func222 ?_
 have ht0:(bif decide ((64:Int)-(l:Int)+1>64) then true else decide (17-((f+1:Nat):Int)>16))=false:=by rw [decide_eq_false oM,decide_eq_false oM];rfl
 have c9:=take_one (G:=G) b hb p ((64:Int)-(l:Int)+1) hp hk
 have e2:=deep_D f
 have eD:=@kids_D 7 0 [] (fun _ _ => .nilif)
 have eI:=@kids_I 7 0 [] (fun _ _ => .nilif)
 refine zg [(20,{cs:=[(3,cb [0] ck)],fm:=[(2,.c (.int .i64 ((17:Int)-(f:Int))))]}),(21,{fm:=[(0,.agg [.int .i64 7,.int .i64 0,.str [],.sl 4 0 (fun _ _ => .nilif)])]}),(4,{cs:=[(1,cb [0] c9)]})] [false,false,false,false,false,false,false,false,true] [inR .i64 (64-(l:Int)+1),(bif decide ((64:Int)-(l:Int)+(1:Int)>(64:Int)) then true else decide ((17:Int)-(↑(f+(1:Nat)):Int)>(16:Int)))=false,(!true)=false,(0:Int)≤(0:Int)∧(0:Int)<(↑(1:Nat):Int),(IntKind.i64.wrap (↑(7:Nat):Int)==(1:Int))=false,(IntKind.i64.wrap (↑(7:Nat):Int)==(2:Int))=false,(IntKind.i64.wrap (↑(7:Nat):Int)==(3:Int))=false,(IntKind.i64.wrap (↑(7:Nat):Int)==(4:Int))=false,(IntKind.i64.wrap (↑(7:Nat):Int)==(5:Int))=false,(IntKind.i64.wrap (↑(7:Nat):Int)==(6:Int))=false,(IntKind.i64.wrap (↑(7:Nat):Int)==(7:Int))=true,EqvI (.c (.int .i64 ((17:Int)-(↑(f+(1:Nat)):Int)+(1:Int)))) (.c (.int .i64 ((17:Int)-(f:Int)))),EqvD (.c (.int .i64 ((17:Int)-(↑(f+(1:Nat)):Int)+(1:Int)))) (.c (.int .i64 ((17:Int)-(f:Int)))),inR .i64 ((17:Int)-(↑(f+(1:Nat)):Int)+(1:Int)),EqvI (.agg [.int .i64 (IntKind.i64.wrap (↑(7:Nat):Int)),.int .i64 0,.str [],.nilsl]) (.agg [.int .i64 7,.int .i64 0,.str [],.sl 4 (0:Nat) fun (x x_1:Nat) => .nilif]),EqvD (.agg [.int .i64 (IntKind.i64.wrap (↑(7:Nat):Int)),.int .i64 0,.str [],.nilsl]) (.agg [.int .i64 7,.int .i64 0,.str [],.sl 4 (0:Nat) fun (x x_1:Nat) => .nilif])] ⟨i6,aS,rfl,oM,rfl,rfl,rfl,rfl,rfl,rfl,rfl,fun _ _=>trivial,aS,i6,eqvI_flat _ _ kR,(show EqvD (.agg [.int .i64 (IntKind.i64.wrap (↑(7:Nat):Int)),.int .i64 (0:Int),.str [],.nilsl]) (.agg [.int .i64 (7:Int),.int .i64 (0:Int),.str [],.sl (4:Nat) (0:Nat) fun (x x_1:Nat) => .nilif]) from aS)⟩ ?_
 exact zb []
def TermR (G:Nat→Option (List Cell)) (b:List UInt8) (f p:Nat) (c:Int) (r:Option (Tm×Nat×Nat)):Prop:=match r with
 | some (t,p',l')=>FnB Tryz.prog G 222 [cB b p c] [.c (.ptr 0 0),.c (.int .i64 (17-(f:Int)))] [.agg (encK (toK t)),.c .nilif] [(0,cB b p' ((64:Int)-(l':Int)))]
 | none=>∃ (x:KT) (p':Nat) (c' e:Int),e≠0∧FnB Tryz.prog G 222 [cB b p c] [.c (.ptr 0 0),.c (.int .i64 (17-(f:Int)))] [.agg (encK x),.c (errC e)] [(0,cB b p' c')]
theorem term_ok (b:List UInt8) (hb:b.length≤30000000000000):∀ (f:Nat),f≤16→∀ (p l:Nat),p≤b.length→l≤64→TermR G b f p ((64:Int)-(l:Int)) (rdT b f p l)
 | 0,hf,p,l,hp,hl=>⟨_,_,_,_,dC,term_deep b 0 p l hf hl (.inl rfl)⟩
 | f+1,hf,p,l,hp,hl2=>by
  have ih:=term_ok b hb f oM
  rcases Nat.eq_zero_or_pos l with h0 | hl
  ·rw [rdT,if_pos h0]
   exact ⟨_,_,_,_,dC,term_deep b (f+1) p l hf hl2 (.inr h0)⟩
  rw [rdT,if_neg oM]
  have el:((64:Int)-((l-1:Nat):Int))=(64:Int)-(l:Int)+1:=by omega
  rcases Nat.lt_or_ge p b.length with hlt | hge
  ·rw [if_neg oM]
   have hk9:(b.getD p 0).toNat<256:=UInt8.toNat_lt _
   generalize hk:(b.getD p 0).toNat=k at hk9 ⊢
   by_cases k1:k=1
   ·subst k1
    rw [if_pos rfl]
    rcases Nat.lt_or_ge b.length (p+1+2) with h2 | h2
    ·rw [if_pos h2]
     exact ⟨_,_,_,_,dC,term_a1 b hb f p l hf hl hl2 hlt hk h2⟩
    ·rw [if_neg oM]
     generalize hn:(beN b (p+1) 2).toNat=n
     rcases Nat.lt_or_ge 1024 n with h3 | h3
     ·rw [if_pos h3]
      exact ⟨_,_,_,_,dC,term_a2 b hb f p l hf hl hl2 hlt hk h2 hn h3⟩
     ·rw [if_neg oM]
      rcases Nat.lt_or_ge b.length (p+1+2+n) with h4 | h4
      ·rw [if_pos h4]
       exact ⟨_,_,_,_,dC,term_a3 b hb f p l hf hl hl2 hlt hk h2 hn h3 h4⟩
      ·rw [if_neg oM]
       have:=term_a4 (G:=G) b hb f p l hf hl hl2 hlt hk h2 hn h3 h4
       rw [← el] at this
       exact this
   rw [if_neg k1]
   by_cases k2:k=2
   ·subst k2
    rw [if_pos rfl]
    rcases Nat.lt_or_ge b.length (p+1+4) with h2 | h2
    ·rw [if_pos h2]
     exact ⟨_,_,_,_,dC,term_n1 b hb f p l hf hl hl2 hlt hk h2⟩
    ·rw [if_neg oM]
     generalize hn:(beN b (p+1) 4).toNat=n
     rcases Nat.lt_or_ge 1073741824 n with h3 | h3
     ·rw [if_pos h3]
      exact ⟨_,_,_,_,dC,term_n2 b hb f p l hf hl hl2 hlt hk h2 hn h3⟩
     ·rw [if_neg oM]
      have:=term_n3 (G:=G) b hb f p l hf hl hl2 hlt hk h2 hn h3
      rw [← el] at this
      exact this
   rw [if_neg k2]
   have ih1:=ih (p+1) (l-1) oM oM
   rw [el] at ih1
   by_cases k34:k=3∨k=4
   ·rw [if_pos k34]
    cases h1:rdT b f (p+1) (l-1) with
    | none =>
     rw [h1] at ih1
     obtain ⟨x,p1,c1,e1,he,c⟩:=ih1
     rcases k34 with rfl | rfl
     ·exact ⟨_,_,_,_,he,term_kx3 b hb f p l hf hl hl2 hlt hk (kidsC_x b _ _ _ c)⟩
     ·exact ⟨_,_,_,_,he,term_kx4 b hb f p l hf hl hl2 hlt hk (kidsC_x b _ _ _ c)⟩
    | some r =>
     obtain ⟨t,p1,l1⟩:=r
     rw [h1] at ih1
     have c:=ih1
     rcases k34 with rfl | rfl
     ·exact term_k3 b hb f p l hf hl hl2 hlt hk (kidsC_1 b _ _ _ c)
     ·exact term_k4 b hb f p l hf hl hl2 hlt hk (kidsC_1 b _ _ _ c)
   rw [if_neg k34]
   by_cases k57:k=5∨k=6∨k=7
   ·rw [if_pos k57]
    cases h1:rdT b f (p+1) (l-1) with
    | none =>
     rw [h1] at ih1
     obtain ⟨x,p1,c1,e1,he,c⟩:=ih1
     rcases k57 with rfl | rfl | rfl
     ·exact ⟨_,_,_,_,he,term_kx5 b hb f p l hf hl hl2 hlt hk (kidsC_x2 b _ _ _ c)⟩
     ·exact ⟨_,_,_,_,he,term_kx6 b hb f p l hf hl hl2 hlt hk (kidsC_x2 b _ _ _ c)⟩
     ·exact ⟨_,_,_,_,he,term_kx7 b hb f p l hf hl hl2 hlt hk (kidsC_x2 b _ _ _ c)⟩
    | some r =>
     obtain ⟨t,p1,l1⟩:=r
     rw [h1] at ih1
     have c:=ih1
     have hle:=rdT_le b f _ _ _ _ _ h1
     have ih2:=ih p1 l1 hle.1 oM
     simp only []
     cases h2:rdT b f p1 l1 with
     | none =>
      rw [h2] at ih2
      obtain ⟨x,p2,c2,e2,he,d⟩:=ih2
      rcases k57 with rfl | rfl | rfl
      ·exact ⟨_,_,_,_,he,term_kx5 b hb f p l hf hl hl2 hlt hk (kidsC_y b _ _ _ c d)⟩
      ·exact ⟨_,_,_,_,he,term_kx6 b hb f p l hf hl hl2 hlt hk (kidsC_y b _ _ _ c d)⟩
      ·exact ⟨_,_,_,_,he,term_kx7 b hb f p l hf hl hl2 hlt hk (kidsC_y b _ _ _ c d)⟩
     | some r2 =>
      obtain ⟨u,p2,l2⟩:=r2
      rw [h2] at ih2
      have d:=ih2
      rcases k57 with rfl | rfl | rfl
      ·exact term_k5 b hb f p l hf hl hl2 hlt hk (kidsC_2 b _ _ _ c d)
      ·exact term_k6 b hb f p l hf hl hl2 hlt hk (kidsC_2 b _ _ _ c d)
      ·exact term_k7 b hb f p l hf hl hl2 hlt hk (kidsC_2 b _ _ _ c d)
   rw [if_neg k57]
   exact ⟨_,_,_,_,dC,term_bad b hb f p l hf hl hl2 hlt hk oM hk9⟩
  ·rw [if_pos oM]
   exact ⟨_,_,_,_,dC,term_short b hb f p l hf hl hl2 oM⟩
theorem takeC_good (b:List UInt8) (hb:b.length≤30000000000000) {t:Tm} {p l:Nat} (h:rdT b 16 0 64=some (t,p,l)):Pur Tryz.prog G 182 [.c (.sl 1 b.length (bytesF b))] [.agg (encK (toK t)),.c (.int .i64 (p:Int)),.c (.int .i64 0)]:=by
 have c:=term_ok (G:=G) b hb 16 dC 0 64 oM dC
 rw [h] at c
 have c:FnB Tryz.prog G 222 [cB b 0 0] [.c (.ptr 0 0),.c (.int .i64 1)] [.agg (encK (toK t)),.c .nilif] [(0,cB b p ((64:Int)-(l:Int)))]:=c
 refine zp Tryz.func182 ?_
 refine zg [(2,{cs:=[(1,cb [80] c)]})] [false] [false=false] rfl ?_
 exact zr
theorem takeC_bad (b:List UInt8) (hb:b.length≤30000000000000) (h:rdT b 16 0 64=none):∃ e:Int,e≠0∧Pur Tryz.prog G 182 [.c (.sl 1 b.length (bytesF b))] [.agg [.int .i64 0,.int .i64 0,.str [],.nilsl],.c (.int .i64 0),.c (.int .i64 e)]:=by
 have c:=term_ok (G:=G) b hb 16 dC 0 64 oM dC
 rw [h] at c
 obtain ⟨x,p',c',e,he,c⟩:=c
 refine ⟨e,he,?_⟩
 have c:FnB Tryz.prog G 222 [cB b 0 0] [.c (.ptr 0 0),.c (.int .i64 1)] [.agg (encK x),.c (errC e)] [(0,cB b p' c')]:=c
 refine zp Tryz.func182 ?_
 refine zg [(2,{cs:=[(1,cb [80] c)]})] [true] [true=true] rfl ?_
 exact zr
theorem oneC_good (b:List UInt8) (hb:b.length≤30000000000000) {t:Tm} (h:oneT b=some t):Pur Tryz.prog G 137 [.c (.sl 1 b.length (bytesF b))] [.agg (encK (toK t)),.c (.int .i64 0)]:=by
 unfold oneT at h
 split at h
 ·rename_i t2 p l h1
  split at h
  ·rename_i hp
   simp only [Option.some.injEq] at h
   subst h hp
   refine zp Tryz.func137 ?_
   have c:=takeC_good (G:=G) b hb h1
   have ht:(bif (0:Int)==0 then decide ((b.length:Int)<(b.length:Int)) else false)=false:=by simp
   refine zg [(1,{cs:=[(1,pc c)]})] [false,false] [(bif (0:Int)==(0:Int) then decide ((b.length:Int)<(b.length:Int)) else false)=false,((0:Int) != (0:Int))=false] ⟨aS,rfl⟩ ?_
   exact zr
  ·cases h
 ·cases h
theorem oneC_bad (b:List UInt8) (hb:b.length≤30000000000000) (h:oneT b=none):∃ e:Int,e≠0∧Pur Tryz.prog G 137 [.c (.sl 1 b.length (bytesF b))] [.agg [.int .i64 0,.int .i64 0,.str [],.nilsl],.c (.int .i64 e)]:=by
 unfold oneT at h
 split at h
 ·rename_i t2 p l h1
  split at h
  ·cases h
  ·rename_i hp
   refine ⟨5,by decide,?_⟩
   refine zp Tryz.func137 ?_
   have c:=takeC_good (G:=G) b hb h1
   have hle:=rdT_le b _ _ _ _ _ _ h1
   have ht:(bif (0:Int)==0 then decide ((p:Int)<(b.length:Int)) else false)=true:=by simp;omega
   refine zg [(1,{cs:=[(1,pc c)]})] [true,true] [(bif (0:Int)==(0:Int) then decide ((p:Int)<(b.length:Int)) else false)=true,((5:Int) != (0:Int))=true] ⟨aS,rfl⟩ ?_
   exact zr
 ·rename_i h1
  obtain ⟨e,he,c⟩:=takeC_bad (G:=G) b hb h1
  refine ⟨e,he,?_⟩
  refine zp Tryz.func137 ?_
  have ht:(bif e==0 then decide ((0:Int)<(b.length:Int)) else false)=false:=by simp [he]
  have ht2:(e != 0)=true:=by simp [he]
  refine zg [(1,{cs:=[(1,pc c)]})] [false,true] [(bif e==(0:Int) then decide ((0:Int)<(b.length:Int)) else false)=false,(e != (0:Int))=true] ⟨aS,(show (e != (0:Int))=true from aS)⟩ ?_
  exact zr
theorem innC_good (s:List UInt8) (hs:s.length≤30000000000000) {t:Tm} (h:innT s=some t) (hlen:∀ o,dec8 s=some o→o.length≤30000000000000):Pur Tryz.prog G 84 [.c (.str s)] [.agg (encK (toK t)),.c (.bool true)]:=by
 unfold innT at h
 split at h
 ·rename_i o ho
  have c1:=dec64_ok (G:=G) s hs
  rw [decR_some ho] at c1
  have c2:=oneC_good (G:=G) o (hlen o ho) h
  have e1:=slB_D o
  refine zp Tryz.func84 ?_
  cases o with
  | nil =>
   have c1:Pur Tryz.prog G 94 [.c (.str s)] [.c .nilsl,.c (.int .i64 0)]:=c1
   have c2:Pur Tryz.prog G 137 [.c (.sl 1 0 (bytesF []))] [.agg (encK (toK t)),.c (.int .i64 0)]:=c2
   have e1:=nil_sl (f:=bytesF [])
   refine zg [(4,{cs:=[(1,pc c2)],fm:=[(0,.c (.sl 1 0 (bytesF [])))]}),(1,{cs:=[(1,pc c1)]})] [false] [((0:Int) != (0:Int))=false,EqvI (.c .nilsl) (.c (.sl 1 0 (bytesF []))),EqvD (.c .nilsl) (.c (.sl 1 0 (bytesF [])))] ⟨rfl,fun _ _=>trivial,(show EqvD (.c .nilsl) (.c (.sl (1:Nat) (0:Nat) (bytesF []))) from aS)⟩ ?_
   exact zr
  | cons a r =>
   have c1:Pur Tryz.prog G 94 [.c (.str s)] [.c (.sl 1 (a::r).length (bytesF (a::r))),.c (.int .i64 0)]:=c1
   generalize a::r=o at c1 c2
   refine zg [(1,{cs:=[(1,pc c1)]}),(4,{cs:=[(1,pc c2)]})] [false] [((0:Int) != (0:Int))=false] rfl ?_
   exact zr
 ·cases h
theorem innC_bad (s:List UInt8) (hs:s.length≤30000000000000) (h:innT s=none) (hlen:∀ o,dec8 s=some o→o.length≤30000000000000):Pur Tryz.prog G 84 [.c (.str s)] [.agg [.int .i64 0,.int .i64 0,.str [],.nilsl],.c (.bool false)]:=by
 have c1:=dec64_ok (G:=G) s hs
 unfold innT at h
 refine zp Tryz.func84 ?_
 cases ho:dec8 s with
 | none =>
  rw [decR_none ho] at c1
  refine zg [(1,{cs:=[(1,pc c1)]})] [true] [((3:Int) != (0:Int))=true] rfl ?_
  exact zr
 | some o =>
  rw [decR_some ho] at c1
  rw [ho] at h
  obtain ⟨e,he,c2⟩:=oneC_bad (G:=G) o (hlen o ho) h
  have ht:(e==0)=false:=by simp [he]
  cases o with
  | nil =>
   have c1:Pur Tryz.prog G 94 [.c (.str s)] [.c .nilsl,.c (.int .i64 0)]:=c1
   have c2:Pur Tryz.prog G 137 [.c (.sl 1 0 (bytesF []))] [.agg [.int .i64 0,.int .i64 0,.str [],.nilsl],.c (.int .i64 e)]:=c2
   have e1:=nil_sl (f:=bytesF [])
   refine zg [(4,{cs:=[(1,pc c2)],fm:=[(0,.c (.sl 1 0 (bytesF [])))]}),(1,{cs:=[(1,pc c1)]})] [false] [((0:Int) != (0:Int))=false,EqvI (.c .nilsl) (.c (.sl 1 0 (bytesF []))),EqvD (.c .nilsl) (.c (.sl 1 0 (bytesF [])))] ⟨rfl,fun _ _=>trivial,(show EqvD (.c .nilsl) (.c (.sl (1:Nat) (0:Nat) (bytesF []))) from aS)⟩ ?_
   exact zS [.agg [.int .i64 (0:Int),.int .i64 (0:Int),.str [],.nilsl],.c (.bool (e==(0:Int)))] (by simp only [Int.ofNat_eq_natCast,Int.toNat_natCast,List.take_length,List.drop_zero, *])
  | cons a r =>
   have c1:Pur Tryz.prog G 94 [.c (.str s)] [.c (.sl 1 (a::r).length (bytesF (a::r))),.c (.int .i64 0)]:=c1
   generalize a::r=o at c1 c2
   refine zg [(1,{cs:=[(1,pc c1)]}),(4,{cs:=[(1,pc c2)]})] [false] [((0:Int) != (0:Int))=false] rfl ?_
   exact zS [.agg [.int .i64 (0:Int),.int .i64 (0:Int),.str [],.nilsl],.c (.bool (e==(0:Int)))] (by simp only [Int.ofNat_eq_natCast,Int.toNat_natCast,List.take_length,List.drop_zero, *])
theorem innerC_ok (s:List UInt8) (hs:s.length≤30000000000000):(∃ t,innT s=some t∧Pur Tryz.prog G 84 [.c (.str s)] [.agg (encK (toK t)),.c (.bool true)])∨(innT s=none∧Pur Tryz.prog G 84 [.c (.str s)] [.agg [.int .i64 0,.int .i64 0,.str [],.nilsl],.c (.bool false)]):=by
 have hl:∀ o,dec8 s=some o→o.length≤30000000000000:=fun o h=>by have:=dec8_len h;omega
 cases h:innT s with
 | none=>exact .inr ⟨rfl,innC_bad s hs h hl⟩
 | some t=>exact .inl ⟨t,rfl,innC_good s hs h hl⟩
end Go.Proofs.Tw
end
section
open Go Go.Sv Go.RowKit
namespace Go.Proofs.Tw
attribute [local irreducible] Wp FinQ resV Ent Pur Go.Sv.Fn Sat0
set_option maxRecDepth 100000
set_option maxHeartbeats 4000000
variable {G:Nat→Option (List Cell)}


end Go.Proofs.Tw
end
section
open Go Go.Sv Go.RowKit
namespace Go.Proofs.Tw
attribute [local irreducible] Wp FinQ resV Ent Pur Go.Sv.Fn Sat0
set_option maxRecDepth 100000
set_option maxHeartbeats 4000000
variable {G:Nat→Option (List Cell)} [Back G]

theorem split_hit {s sep:List UInt8} {i:Nat} (hs:sep≠[]) (h:Lib.index s sep=i):Lib.split s sep=s.take i::Lib.split (s.drop (i+sep.length)) sep:=by
 have hne:((i:Int) == -1)=false:=by rw [beq_eq_false_iff_ne];omega
 unfold Lib.split
 rw [Lib.count_hit hs h,Nat.add_comm 1,Lib.splitK,h,hne]
 simp
theorem split_miss {s sep:List UInt8} (h:Lib.index s sep = -1):Lib.split s sep=[s]:=by
 unfold Lib.split;rw [Lib.count_miss h];rfl
theorem occ_drop (s sep:List UInt8) (a j:Nat):Lib.occAt (s.drop a) sep j=Lib.occAt s sep (a+j):=by
 unfold Lib.occAt;rw [List.drop_drop]
theorem split_at {s sep:List UInt8} (hs:sep≠[]) {a i:Nat} (hai:a≤i) (hi:i≤s.length) (ho:Lib.occAt s sep i=true) (hall:∀ j,a≤j→j<i→Lib.occAt s sep j=false) :
  Lib.split (s.drop a) sep=(s.take i).drop a::Lib.split (s.drop (i+sep.length)) sep:=by
 have h:Lib.index (s.drop a) sep=((i-a:Nat):Int):=Lib.index_first (by rw [List.length_drop];omega) (by rw [occ_drop,show a+(i-a)=i from by omega];exact ho) (fun j hj=>by rw [occ_drop];exact hall _ oM oM)
 rw [split_hit hs h,List.drop_drop,show a+(i-a+sep.length)=i+sep.length from by omega,List.drop_take]
theorem split_end {s sep:List UInt8} (hs:sep≠[]) {a i:Nat} (hi:s.length<i+sep.length) (hall:∀ j,a≤j→j<i→Lib.occAt s sep j=false):Lib.split (s.drop a) sep=[(s.take s.length).drop a]:=by
 rw [List.take_length]
 refine split_miss (Lib.index_none fun j hj => ?_)
 cases hq:Lib.occAt (s.drop a) sep j with
 | false=>rfl
 | true =>
  rcases Lib.occAt_room hq with h' | h'
  ·rw [List.length_drop] at h'
   have hp:0<sep.length:=List.length_pos_iff.2 hs
   have:=hall (a+j) oM oM
   rw [occ_drop,this] at hq;cases hq
  ·exact (hs h').elim
theorem parts_ok (s sep:List UInt8) (hl:s.length<1000000000) (hs:sep≠[]) (hn:sep.length<1000):Pur Tryz.prog G 155 [.c (.str s),.c (.str sep)] [.c (.sl 1 (Lib.split s sep).length (strsF (Lib.split s sep)))]:=by
 refine zp Tryz.func155 ?_
 have hp:0<sep.length:=List.length_pos_iff.2 hs
 refine z0 [] [] ?_
 refine Wp.loopK kR (fun (x:Nat×Nat×Nat×List (List UInt8))=>⟨[(0,.v (.c (.str s))),(1,.v (.c (.str sep))),(5,.v (.c (.row 1 64 0 x.2.2.1))),(6,.v (.c (.int .i64 (x.2.1:Int)))),(7,.v (.c (.int .i64 (x.1:Int))))],[(64,.row 9 1 x.2.2.1 (strsF x.2.2.2))],80⟩) (fun x=>x.1≤s.length∧x.2.1≤s.length∧x.2.2.1=x.2.2.2.length∧x.2.2.1≤x.1∧Lib.split s sep=x.2.2.2++Lib.split (s.drop x.2.1) sep∧∀ j,x.2.1≤j→j<x.1→Lib.occAt s sep j=false) (fun x=>s.length-x.1) (0,0,0,[]) (Ent.trans (Ent.empT (t:=5) (sz:=1) (e:=9) (f:=(strsF [])) dC kR rfl) (Ent.of [] kR kR kR trivial)) ⟨Nat.zero_le _,Nat.zero_le _,rfl,Nat.le_refl _,rfl,fun j _ h=>absurd h (Nat.not_lt_zero _)⟩ ?_
 rintro ⟨i,a,n,acc⟩ L ⟨hi,ha,hna,hni,hq,hall⟩ again
 simp only at hi ha hna hni hq hall
 by_cases hlt:i+sep.length≤s.length
 ·have ho:=occ_at s sep i hlt
  by_cases hai:a≤i
  ·cases hoc:Lib.occAt s sep i with
   | true =>
    rw [hoc] at ho
    have ht:(bif decide ((i:Int)≥(a:Int)) then List.drop i (List.take (i+sep.length) s)==sep else false)=true:=by rw [decide_eq_true oM];exact ho.symm
    rw [split_at hs hai hi hoc hall] at hq
    have hq2:Lib.split s sep=(acc++[(s.take i).drop a])++Lib.split (s.drop (i+sep.length)) sep:=by rw [hq];simp
    have hall2:∀ j,i+sep.length≤j→j<i+1→Lib.occAt s sep j=false:=fun j h1 h2=>by omega
    have e1:BlkEqv (.row 9 1 (n+1) (catF n (strsF acc) (fun i' j=>nthD [.str ((s.take i).drop a)] ((0+i')*1+j)))) (.row 9 1 (n+1) (strsF (acc++[(s.take i).drop a]))):=strs_app acc _ hna
    have q2:n+1=(acc++[(s.take i).drop a]).length:=by simp [hna]
    clear hq hall hoc ho
    refine zg [(7,{bs:=[(6,.row 9 1 (n+1) (strsF (acc++[(s.take i).drop a])))]})] [true,true] [inR .i64 ((i:Int)+(sep.length:Int)),decide ((i:Int)+(sep.length:Int)≤(s.length:Int))=true,decide ((i:Int)≥(a:Int))=true→inR .i64 ((i:Int)+(sep.length:Int)),decide ((i:Int)≥(a:Int))=true→(0:Int)≤Int.ofNat i∧Int.ofNat i≤Int.ofNat (i+sep.length)∧Int.ofNat (i+sep.length)≤(s.length:Int),(bif decide ((i:Int)≥(a:Int)) then List.drop (Int.ofNat i).toNat (List.take (Int.ofNat (i+sep.length)).toNat s)==sep else false)=true,(0:Int)≤Int.ofNat a∧Int.ofNat a≤Int.ofNat i∧Int.ofNat i≤(s.length:Int),(n+1)*16≤140737488355328,BlkEqv (.row 9 (1:Nat) (n+(1:Nat)) (catF n (strsF acc) fun (i_1 j:Nat)=>nthD [.str (List.drop (Int.ofNat a).toNat (List.take (Int.ofNat i).toNat s))] (((0:Nat)+i_1)*(1:Nat)+j))) (.row 9 (1:Nat) (n+(1:Nat)) (strsF (acc++[List.drop a (List.take i s)]))),n≤n,0+1≤1,inR .i64 ((i:Int)+(sep.length:Int)),inR .i64 ((i:Int)+1)] ⟨i6,sO,(fun _=>i6),sO,aS,⟨(by simp;done),⟨sO,sO⟩⟩,oM,aS,oM,oM,i6,i6⟩ ?_
    exact za [(64,512)] (again _ (i+1,i+sep.length,n+1,acc++[(s.take i).drop a]) ⟨oM,⟨aS,⟨aS,⟨sO,⟨aS,aS⟩⟩⟩⟩⟩ oM)
   | false =>
    rw [hoc] at ho
    have ht:(bif decide ((i:Int)≥(a:Int)) then List.drop i (List.take (i+sep.length) s)==sep else false)=false:=by rw [decide_eq_true oM];exact ho.symm
    have hall2:∀ j,a≤j→j<i+1→Lib.occAt s sep j=false:=fun j h1 h2=>by
     rcases Nat.lt_or_ge j i with h | h
     ·exact hall j h1 h
     ·rw [show j=i from by omega];exact hoc
    clear hall hoc ho
    refine zg [] [true,false] [inR .i64 ((i:Int)+(sep.length:Int)),decide ((i:Int)+(sep.length:Int)≤(s.length:Int))=true,decide ((i:Int)≥(a:Int))=true→inR .i64 ((i:Int)+(sep.length:Int)),decide ((i:Int)≥(a:Int))=true→(0:Int)≤Int.ofNat i∧Int.ofNat i≤Int.ofNat (i+sep.length)∧Int.ofNat (i+sep.length)≤(s.length:Int),(bif decide ((i:Int)≥(a:Int)) then List.drop (Int.ofNat i).toNat (List.take (Int.ofNat (i+sep.length)).toNat s)==sep else false)=false,inR .i64 ((i:Int)+1)] ⟨i6,sO,(fun _=>i6),sO,aS,i6⟩ ?_
    exact za [] (again _ (i+1,a,n,acc) ⟨oM,⟨aS,⟨aS,⟨sO,⟨aS,aS⟩⟩⟩⟩⟩ oM)
  ·have hall2:∀ j,a≤j→j<i+1→Lib.occAt s sep j=false:=fun j h1 h2=>by omega
   clear hall ho
   refine zg [] [true,false] [inR .i64 ((i:Int)+(sep.length:Int)),decide ((i:Int)+(sep.length:Int)≤(s.length:Int))=true,decide ((i:Int)≥(a:Int))=true→inR .i64 ((i:Int)+(sep.length:Int)),decide ((i:Int)≥(a:Int))=true→(0:Int)≤Int.ofNat i∧Int.ofNat i≤Int.ofNat (i+sep.length)∧Int.ofNat (i+sep.length)≤(s.length:Int),(bif decide ((i:Int)≥(a:Int)) then List.drop (Int.ofNat i).toNat (List.take (Int.ofNat (i+sep.length)).toNat s)==sep else false)=false,inR .i64 ((i:Int)+1)] ⟨i6,sO,(fun _=>i6),sO,sO,i6⟩ ?_
   exact za [] (again _ (i+1,a,n,acc) ⟨oM,⟨aS,⟨aS,⟨sO,⟨aS,aS⟩⟩⟩⟩⟩ oM)
 ·rw [split_end hs oM hall] at hq
  rw [hq]
  have e1:BlkEqv (.row 9 1 (n+1) (catF n (strsF acc) (fun i' j=>nthD [.str ((s.take s.length).drop a)] ((0+i')*1+j)))) (.row 9 1 (n+1) (strsF (acc++[(s.take s.length).drop a]))):=strs_app acc _ hna
  have q2:n+1=(acc++[(s.take s.length).drop a]).length:=by simp [hna]
  clear hq hall
  refine zg [(9,{bs:=[(5,.row 9 1 (n+1) (strsF (acc++[(s.take s.length).drop a])))]})] [false] [inR .i64 ((i:Int)+(sep.length:Int)),decide ((i:Int)+(sep.length:Int)≤(s.length:Int))=false,(0:Int)≤Int.ofNat a∧Int.ofNat a≤Int.ofNat s.length∧Int.ofNat s.length≤(s.length:Int),(n+1)*16≤140737488355328,BlkEqv (.row 9 (1:Nat) (n+(1:Nat)) (catF n (strsF acc) fun i j=>nthD [.str (List.drop (Int.ofNat a).toNat (List.take (Int.ofNat s.length).toNat s))] (((0:Nat)+i)*(1:Nat)+j))) (.row 9 (1:Nat) (n+(1:Nat)) (strsF (acc++[List.drop a (List.take s.length s)]))),n≤n,0+1≤1] ⟨i6,sO,⟨(by simp;done),⟨sO,(by simp;done)⟩⟩,oM,aS,oM,(show (0:Nat)+(1:Nat)≤(1:Nat) from oM)⟩ ?_
  refine Wp.ent' kR (Ent.pubT (t:=4) (e:=9) (sz:=(1:Nat)) (id:=272) (off:=(0:Nat)) (m:=n+(1:Nat)) (n:=n+(1:Nat)) (f:=strsF (acc++[List.drop a (List.take s.length s)])) (m':=(acc++[List.drop a (List.take s.length s)]).length) (f':=strsF (acc++[List.drop a (List.take s.length s)])) kR kR oM aS (fun i _ j _=>by rw [Nat.zero_add]) rfl) ?_
  exact zr




theorem idx_at (a t r:List UInt8) (c:UInt8) (h:c∉a):Lib.index (a++(c::r)++t) (c::r)=a.length:=by
 refine Lib.index_first (by simp only [List.length_append];omega) ?_ (fun j hj => ?_)
 ·unfold Lib.occAt
  rw [List.append_assoc,List.drop_left]
  exact List.isPrefixOf_iff_prefix.2 (List.prefix_append _ _)
 ·unfold Lib.occAt
  have hx:(a++(c::r)++t).drop j=a.getD j 0::(a++(c::r)++t).drop (j+1):=by
   rw [dropS _ j (by simp only [List.length_append];omega)]
   congr 1
   rw [List.append_assoc,List.getD_eq_getElem?_getD,List.getD_eq_getElem?_getD,List.getElem?_append_left hj]
  rw [hx,List.isPrefixOf]
  have:(c==a.getD j 0)=false:=by
   rw [beq_eq_false_iff_ne]
   rintro rfl
   exact h (by rw [List.getD_eq_getElem?_getD,List.getElem?_eq_getElem hj];exact List.getElem_mem hj)
  rw [this];rfl
end Go.Proofs.Tw
end
section
open Go Go.Sv
namespace Go.Proofs.Tw
set_option maxRecDepth 100000
set_option maxHeartbeats 4000000
theorem idx_no (a r:List UInt8) (c:UInt8) (h:c∉a):Lib.index a (c::r) = -1:=by
 refine Lib.index_none fun j hj => ?_
 cases hq:Lib.occAt a (c::r) j with
 | false=>rfl
 | true =>
  have:=Lib.occAt_head rfl hq
  exact (h (List.mem_of_getElem? this)).elim
theorem splitK_ne (sep:List UInt8) (k:Nat) (s:List UInt8):Lib.splitK sep 0 k s≠[]:=by
 cases k with
 | zero=>simp [Lib.splitK]
 | succ k=>unfold Lib.splitK; split<;>simp
end Go.Proofs.Tw
end
section
open Go Go.Sv Go.RowKit
namespace Go.Proofs.Tw
set_option maxRecDepth 100000
set_option maxHeartbeats 4000000
def cuts (c:UInt8):List UInt8→List UInt8→List (List UInt8)
 | [],cur=>[cur]
 | x::r,cur=>if x=c then cur::cuts c r [] else cuts c r (cur++[x])
theorem cuts_no (c:UInt8):∀ (s cur:List UInt8),c∉s→cuts c s cur=[cur++s]
 | [],cur,_=>by simp [cuts]
 | x::r,cur,h=>by
  rw [cuts,if_neg (fun e=>h (by simp [e])),cuts_no c r _ (fun hc=>h (by simp [hc]))]
  simp
theorem cuts_at (c:UInt8):∀ (a b cur:List UInt8),c∉a→cuts c (a++c::b) cur=(cur++a)::cuts c b []
 | [],b,cur,_=>by simp [cuts]
 | x::r,b,cur,h=>by
  rw [List.cons_append,cuts,if_neg (fun e=>h (by simp [e])),cuts_at c r b _ (fun hc=>h (by simp [hc]))]
  simp
theorem cuts_ne (c:UInt8):∀ (s cur:List UInt8),cuts c s cur≠[]
 | [],cur=>by simp [cuts]
 | x::r,cur=>by
  rw [cuts];split
  ·simp
  ·exact cuts_ne c r _
theorem cuts_len (c:UInt8):∀ (s cur:List UInt8),(cuts c s cur).length≤s.length+1
 | [],cur=>by simp [cuts]
 | x::r,cur=>by
  rw [cuts];split
  ·have:=cuts_len c r [];simp;omega
  ·have:=cuts_len c r (cur++[x]);simp;omega
theorem cuts_piece (c:UInt8):∀ (s cur x:List UInt8),x∈cuts c s cur→x.length≤cur.length+s.length
 | [],cur,x,h=>by simp [cuts] at h; simp [h]
 | y::r,cur,x,h=>by
  rw [cuts] at h;split at h
  ·rcases List.mem_cons.1 h with rfl | h
   ·simp
   ·have:=cuts_piece c r [] x h;simp at this ⊢;omega
  ·have:=cuts_piece c r _ x h;simp at this ⊢;omega
theorem first_at (c:UInt8):∀ s:List UInt8,c∈s→∃ a b,s=a++c::b∧c∉a
 | [],h=>by cases h
 | x::r,h=>by
  by_cases e:x=c
  ·exact ⟨[],r,by simp [e],by simp⟩
  ·obtain ⟨a,b,h1,h2⟩:=first_at c r (by rcases List.mem_cons.1 h with h | h;exact (e h.symm).elim;exact h)
   exact ⟨x::a,b,by simp [h1],by simp [h2];exact fun h=>e h.symm⟩
theorem split_cuts (c:UInt8):∀ (n:Nat) (s:List UInt8),s.length≤n→Lib.split s [c]=cuts c s []
 | n,s,hn=>by
  by_cases h:c∈s
  ·obtain ⟨a,b,rfl,ha⟩:=first_at c s h
   match n,hn with
   | 0,hn=>simp at hn
   | n+1,hn =>
    rw [cuts_at c a b [] ha,split_hit (by simp) (show Lib.index (a++c::b) [c]=a.length from by have:=idx_at a b [] c ha;simpa using this)]
    simp at hn
    rw [← split_cuts c n b oM]
    simp
  ·rw [cuts_no c s [] h,split_miss (idx_no s [] c h)];rfl
theorem partsT_cuts (s:List UInt8):partsT s=cuts 126 s []:=split_cuts 126 _ s (Nat.le_refl _)
theorem partsT_len (s:List UInt8):(partsT s).length≤s.length+1:=by rw [partsT_cuts];exact cuts_len _ _ _
theorem partsT_piece (s:List UInt8) (i:Nat):((partsT s).getD i []).length≤s.length:=by
 rw [List.getD_eq_getElem?_getD]
 cases h:(partsT s)[i]? with
 | none=>simp
 | some x =>
  have hm:=List.mem_of_getElem? h
  rw [partsT_cuts] at hm
  have:=cuts_piece 126 s [] x hm
  simpa using this
theorem mid_mem {α:Type} (a b:List α) (x:α) (ha:a≠[]) (hb:b≠[]):x∈midL (a++x::b):=by
 obtain ⟨y,a,rfl⟩:=List.exists_cons_of_ne_nil ha
 have hb:=List.length_pos_iff.2 hb
 unfold midL
 rw [List.cons_append]
 simp only [List.length_cons,List.length_append]
 rw [show a.length+(b.length+1)+1-1=a.length+b.length+1 by omega,List.take_succ_cons,List.drop_succ_cons,List.drop_zero,List.take_append]
 rw [List.take_of_length_le oM,show a.length+b.length-a.length=b.length-1+1 by omega,List.take_succ_cons]
 simp
theorem cuts_two (c:UInt8):∀ (a b cur:List UInt8),cuts c (a++c::b) cur=cuts c a cur++cuts c b []
 | [],b,cur=>by simp [cuts]
 | x::r,b,cur=>by
  rw [List.cons_append,cuts,cuts]
  split
  ·rw [cuts_two c r b [],List.cons_append]
  ·rw [cuts_two c r b _]
theorem plain_has (a r b:List UInt8) {t:Tm} (hr:(126:UInt8)∉r) (h:innT r=some t):t∈plainT (a++([126]++r++[126])++b):=by
 unfold plainT
 rw [partsT_cuts]
 have e:a++([126]++r++[126])++b=a++126::(r++126::b):=by simp
 rw [e,cuts_two,cuts_at 126 r b [] hr,List.nil_append]
 exact List.mem_filterMap.2 ⟨r,mid_mem _ _ _ (cuts_ne _ _ _) (cuts_ne _ _ _),h⟩
theorem tilde_no:sgB 126=false:=by kernel_rfl
theorem sgn_tilde {r:List UInt8} (h:∀ c∈r,0≤sgI c):(126:UInt8)∉r:=by
 intro hm
 have:=h _ hm
 have h2:=tilde_no
 unfold sgB at h2
 simp at h2
 omega
theorem runs_app (x r cur:List UInt8) (h:∀ c∈x,sgB c=true):runsF (x++r) cur=runsF r (cur++x):=by
 induction x generalizing cur with
 | nil=>simp
 | cons c x ih =>
  rw [List.cons_append,runsF,if_pos (h c (by simp)),ih _ (fun c hc=>h c (by simp [hc]))]
  simp
theorem runs_has:∀ (a:List UInt8) (c:UInt8) (x:List UInt8) (d:UInt8) (b cur:List UInt8),sgB c=false→sgB d=false→(∀ y∈x,sgB y=true)→x≠[]→x∈runsF (a++c::(x++d::b)) cur
 | [],c,x,d,b,cur,hc,hd,hx,hn=>by
  rw [List.nil_append,runsF_no hc,runs_app x _ _ hx,List.nil_append,runsF_no hd]
  unfold closeF
  rw [if_neg hn]
  simp
 | y::a,c,x,d,b,cur,hc,hd,hx,hn=>by
  rw [List.cons_append,runsF]
  split
  ·exact runs_has a c x d b _ hc hd hx hn
  ·split
   ·exact runs_has a c x d b _ hc hd hx hn
   ·exact List.mem_cons_of_mem _ (runs_has a c x d b _ hc hd hx hn)
theorem enc_pos (b:List UInt8) (h:b≠[]):enc8 b≠[]:=by
 intro e
 have:=dec_enc b
 rw [e] at this
 exact h (Option.some.inj this).symm
theorem enc_sgB (b:List UInt8):∀ y∈enc8 b,sgB y=true:=fun y hy=>decide_eq_true (enc8_sgn b y hy)
theorem stands_1 (a b:List UInt8) {t:TT} (ht:mayTT t=true) (k:List UInt8) (hk:k=[126]++enc8 (putB t)++[126]):∃ tm,toT tm=t∧tm∈allM (a++k++b):=by
 obtain ⟨tm,e1,e2⟩:=inn_put ht
 refine ⟨tm,e1,?_⟩
 unfold allM
 rw [hk]
 exact List.mem_append_left _ (plain_has a _ b (sgn_tilde (enc8_sgn _)) e2)
theorem stands_2 (a b:List UInt8) {t:TT} (ht:mayTT t=true) (k:List UInt8) (hk:k=[126]++enc8 (putB t)++[126]) (u v:List UInt8) :
  ∃ tm,toT tm=t∧tm∈allM (a++46::(enc8 (u++k++v)++46::b)):=by
 obtain ⟨tm,e1,e2⟩:=inn_put ht
 refine ⟨tm,e1,?_⟩
 unfold allM
 refine List.mem_append_right _ (List.mem_flatMap.2 ⟨enc8 (u++k++v),runs_has a 46 _ 46 b [] kR kR (enc_sgB _) (enc_pos _ (by rw [hk];simp)),?_⟩)
 unfold tellT
 rw [dec_enc]
 simp only []
 rw [hk]
 exact plain_has u _ v (sgn_tilde (enc8_sgn _)) e2
end Go.Proofs.Tw
end
section
open Go Go.Sv Go.RowKit
namespace Go.Proofs.Tw
attribute [local irreducible] Wp FinQ resV Ent Pur Go.Sv.Fn Sat0
set_option maxRecDepth 100000
set_option maxHeartbeats 4000000
variable {G:Nat→Option (List Cell)} [Back G]
def plK (ps:List (List UInt8)):Nat→List Tm
 | 0=>[]
 | k+1=>match innT (ps.getD (k+1) []) with
  | some t=>plK ps k++[t]
  | none=>plK ps k
theorem plK_eq (ps:List (List UInt8)):∀ k,k+1≤ps.length→plK ps k=((ps.drop 1).take k).filterMap innT
 | 0,_=>by rw [List.take_zero]; rfl
 | k+1,h=>by
  have hg:(ps.drop 1)[k]?=some (ps.getD (k+1) []):=by
   rw [List.getElem?_drop,show 1+k=k+1 by omega,List.getD_eq_getElem?_getD,List.getElem?_eq_getElem oM];rfl
  rw [plK,plK_eq ps k oM,List.take_add_one,hg,List.filterMap_append]
  show _=_++List.filterMap innT [ps.getD (k+1) []]
  cases hi:innT (ps.getD (k+1) []) with
  | none=>rw [List.filterMap_cons_none hi,List.filterMap_nil,List.append_nil]
  | some t=>rw [List.filterMap_cons_some hi,List.filterMap_nil]
theorem plK_all (s:List UInt8):plK (partsT s) ((partsT s).length-2)=plainT s:=by
 unfold plainT midL
 have h0:0<(partsT s).length:=List.length_pos_iff.2 (splitK_ne _ _ _)
 rw [plK_eq _ _ oM,List.drop_take,show (partsT s).length-1-1=(partsT s).length-2 by omega]
theorem plK_len (ps:List (List UInt8)):∀ k,(plK ps k).length≤k
 | 0=>Nat.le_refl _
 | k+1=>by
  have:=plK_len ps k
  rw [plK];split
  ·simp;omega
  ·omega
theorem plK_good {ps:List (List UInt8)} {k:Nat} {t:Tm} (h:innT (ps.getD (k+1) [])=some t):plK ps (k+1)=plK ps k++[t]:=by rw [plK,h]
theorem plK_bad {ps:List (List UInt8)} {k:Nat} (h:innT (ps.getD (k+1) [])=none):plK ps (k+1)=plK ps k:=by rw [plK,h]
def plW (ps:List (List UInt8)):Nat×Option (Nat×List KT)→St
 | (k,none)=>⟨[(3,.v (.c .nilsl)),(4,.v (.c (.sl 1 ps.length (strsF ps)))),(5,.v (.c (.int .i64 ((k+1:Nat):Int))))],[],96⟩
 | (k,some (n,l))=>⟨[(3,.v (.c (.row 4 40 0 n))),(4,.v (.c (.sl 1 ps.length (strsF ps)))),(5,.v (.c (.int .i64 ((k+1:Nat):Int))))],[(40,.row 64 4 n (rowF encK .nil l))],96⟩
def plF (ps:List (List UInt8)):Nat×Option (Nat×List KT)→Prop
 | (k,none)=>(k=0∨k+2≤ps.length)∧plK ps k=[]
 | (k,some (n,l))=>(k=0∨k+2≤ps.length)∧(plK ps k).map toK=l∧n=l.length∧0<n
theorem nil4 {f:Nat→Nat→Cell}:EqvD (.c .nilsl) (.c (.sl 4 0 f)):=fun D ρ u h=>⟨none,0,h,Nat.le_refl _,Nat.zero_le _,.inl rfl⟩
theorem nil4I {f:Nat→Nat→Cell}:EqvI (.c .nilsl) (.c (.sl 4 0 f)):=fun _ _=>trivial
theorem mplain_ok {m:Int} (hG:G 1=some [.int .i64 m]) (s:List UInt8) (hs:s.length<1000000000):Pur Tryz.prog G 90 [.c (.str s)] [.c (.sl 4 (plainT s).length (rowF encK .nil ((plainT s).map toK)))]:=by
 have c1:Pur Tryz.prog G 145 [.c (.str s),.c (.str [126])] [.c (.sl 1 (partsT s).length (strsF (partsT s)))]:=lib_Split hG s [126] oM dC
 have h0:0<(partsT s).length:=List.length_pos_iff.2 (splitK_ne _ _ _)
 have hl:=partsT_len s
 have hp:∀ i,((partsT s).getD i []).length≤30000000000000:=fun i=>by have:=partsT_piece s i;omega
 have hA:=plK_all s
 refine zp Tryz.func90 ?_
 generalize partsT s=ps at *
 refine z0 [(2,{cs:=[(1,pc c1)]})] [] ?_
 refine zl (plW ps) (plF ps) (fun x=>ps.length-x.1) (0,none) ⟨.inl rfl,rfl⟩ ?_
 rintro ⟨k,o⟩ W hx again
 by_cases hi:k+2<ps.length
 ·have hlt:decide (((k+1:Nat):Int)<(ps.length:Int)-1)=true:=by simp;omega
  have hlen:=plK_len ps k
  rcases innerC_ok (G:=G) (ps.getD (k+1) []) (hp _) with ⟨t,ht,c⟩ | ⟨ht,c⟩
  ·have hK:=plK_good ht
   match o,hx with
   | none,hx =>
    obtain ⟨x1,x2⟩:=hx
    have e1:BlkEqv (.row 64 4 1 (catF 0 (fun _ _ => .nilif) (fun i j=>nthD (encK (toK t)) ((0+i)*4+j)))) (.row 64 4 1 (rowF encK .nil [toK t])):=kid_new (toK t)
    have hfin:plF ps (k+1,some (1,[toK t])):=⟨.inr oM,by rw [hK,x2];rfl,rfl,by omega⟩
    clear ht hK x2 hA
    refine zg [(8,{bs:=[(3,.row 64 4 1 (rowF encK .nil [toK t]))]}),(6,{cs:=[(4,pc c)]})] [true,true] [inR .i64 ((ps.length:Int)-1),decide ((↑(k+(1:Nat)):Int)<(ps.length:Int)-(1:Int))=true,(0:Int)≤(↑(k+(1:Nat)):Int)∧(↑(k+(1:Nat)):Int)<(ps.length:Int),true=true,56≤140737488355328,BlkEqv (.row 64 4 1 (catF 0 (fun (x x_1:Nat) => .nilif) fun i j=>nthD (encK (toK t)) ((0+i)*4+j))) (.row 64 4 1 (rowF encK KT.nil [toK t])),0+1≤1,inR .i64 ((↑(k+(1:Nat)):Int)+(1:Int))] ⟨i6,aS,oM,rfl,oM,aS,oM,i6⟩ ?_
    exact za [(40,416)] (again _ (k+1,some (1,[toK t])) aS oM)
   | some (n,l),hx =>
    obtain ⟨x1,x2,x3,x4⟩:=hx
    have e1:BlkEqv (.row 64 4 (n+1) (catF n (rowF encK .nil l) (fun i j=>nthD (encK (toK t)) ((0+i)*4+j)))) (.row 64 4 (n+1) (rowF encK .nil (l++[toK t]))):=enc_app l (toK t) x3
    have hn:n≤k:=by rw [x3,← x2];simpa using hlen
    have hfin:plF ps (k+1,some (n+1,l++[toK t])):=⟨.inr oM,by rw [hK,List.map_append,x2];rfl,by simp [x3],by omega⟩
    clear ht hK x2 hA
    refine zg [(8,{bs:=[(3,.row 64 4 (n+1) (rowF encK .nil (l++[toK t])))]}),(6,{cs:=[(4,pc c)]})] [true,true] [inR .i64 ((ps.length:Int)-1),decide ((↑(k+(1:Nat)):Int)<(ps.length:Int)-(1:Int))=true,(0:Int)≤(↑(k+(1:Nat)):Int)∧(↑(k+(1:Nat)):Int)<(ps.length:Int),true=true,(n+1)*56≤140737488355328,BlkEqv (.row 64 4 (n+1) (catF n (rowF encK KT.nil l) fun i j=>nthD (encK (toK t)) ((0+i)*4+j))) (.row 64 4 (n+1) (rowF encK KT.nil (l++[toK t]))),n≤n,0+1≤1,inR .i64 ((↑(k+(1:Nat)):Int)+(1:Int))] ⟨i6,aS,oM,rfl,oM,aS,oM,oM,i6⟩ ?_
    exact za [(40,416)] (again _ (k+1,some (n+1,l++[toK t])) aS oM)
  ·have hK:=plK_bad ht
   match o,hx with
   | none,hx =>
    obtain ⟨x1,x2⟩:=hx
    have hfin:plF ps (k+1,none):=⟨.inr oM,by rw [hK,x2]⟩
    clear ht hK x2 hA
    refine zg [(6,{cs:=[(4,pc c)]})] [true,false] [inR .i64 ((ps.length:Int)-1),decide ((↑(k+(1:Nat)):Int)<(ps.length:Int)-(1:Int))=true,(0:Int)≤(↑(k+(1:Nat)):Int)∧(↑(k+(1:Nat)):Int)<(ps.length:Int),false=false,inR .i64 ((↑(k+(1:Nat)):Int)+(1:Int))] ⟨i6,aS,oM,rfl,i6⟩ ?_
    exact za [] (again _ (k+1,none) aS oM)
   | some (n,l),hx =>
    obtain ⟨x1,x2,x3,x4⟩:=hx
    have hfin:plF ps (k+1,some (n,l)):=⟨.inr oM,by rw [hK,x2],x3,x4⟩
    clear ht hK x2 hA
    refine zg [(6,{cs:=[(4,pc c)]})] [true,false] [inR .i64 ((ps.length:Int)-1),decide ((↑(k+(1:Nat)):Int)<(ps.length:Int)-(1:Int))=true,(0:Int)≤(↑(k+(1:Nat)):Int)∧(↑(k+(1:Nat)):Int)<(ps.length:Int),false=false,inR .i64 ((↑(k+(1:Nat)):Int)+(1:Int))] ⟨i6,aS,oM,rfl,i6⟩ ?_
    exact za [] (again _ (k+1,some (n,l)) aS oM)
 ·have hlt:decide (((k+1:Nat):Int)<(ps.length:Int)-1)=false:=by simp;omega
  have hk:plK ps k=plainT s:=by
   match o,hx with
   | none,hx=>rw [← hA]; congr 1; rcases hx.1 with h | h<;>omega
   | some (n,l),hx=>rw [← hA]; congr 1; rcases hx.1 with h | h<;>omega
  rw [← hk]
  clear hA hk again
  match o,hx with
  | none,hx =>
   rw [hx.2]
   have e1:EqvD (.c .nilsl) (.c (.sl 4 0 (rowF encK .nil []))):=nil4
   have e2:EqvI (.c .nilsl) (.c (.sl 4 0 (rowF encK .nil []))):=nil4I
   refine zg [(9,{fm:=[(0,.c (.sl 4 0 (rowF encK .nil [])))]})] [false] [inR .i64 ((ps.length:Int)-1),decide ((↑(k+(1:Nat)):Int)<(ps.length:Int)-(1:Int))=false,EqvI (.c .nilsl) (.c (.sl 4 0 (rowF encK KT.nil []))),EqvD (.c .nilsl) (.c (.sl 4 0 (rowF encK KT.nil [])))] ⟨i6,aS,fun _ _=>trivial,(show EqvD (.c .nilsl) (.c (.sl (4:Nat) (0:Nat) (rowF encK KT.nil []))) from aS)⟩ ?_
   exact zr
  | some (n,l),hx =>
   obtain ⟨x1,x2,x3,x4⟩:=hx
   have x5:(plK ps k).length=n:=by rw [x3,← x2];simp
   rw [x2,x5]
   clear x2 x3 x5
   refine zg [] [false] [inR .i64 ((ps.length:Int)-1),decide ((↑(k+(1:Nat)):Int)<(ps.length:Int)-(1:Int))=false] ⟨i6,(show decide ((↑(k+(1:Nat)):Int)<(↑ps.length:Int)-(1:Int))=false from aS)⟩ ?_
   refine Wp.ent' kR (Ent.pubT (t:=2) (e:=64) (sz:=(4:Nat)) (id:=40) (off:=(0:Nat)) (m:=n) (n:=n) (f:=rowF encK KT.nil l) (m':=n) (f':=rowF encK KT.nil l) kR kR oM rfl (fun i _ j _=>by rw [Nat.zero_add]) rfl) ?_
   exact zr
theorem fn_args {P:Program} {f:FuncId} {hin:List Blk} {cs bs:List V1} {R:List V1→List (Nat×Blk)→Prop} (h:Go.Sv.Fn P G f hin cs R) (hl:bs.length=cs.length) (he:∀ (j:Nat) (x y:V1),bs[j]?=some x→cs[j]?=some y→EqvD x y):Go.Sv.Fn P G f hin bs R:=by
 unfold Go.Sv.Fn at h ⊢
 intro D ρ w vs h1 h2 hgw h3 h4 h5
 refine h D ρ w vs ⟨h1.1.trans hl,fun j y hy => ?_⟩ h2 hgw h3 h4 h5
 have hj:j<bs.length:=by rw [hl];exact (List.getElem?_eq_some_iff.1 hy).1
 obtain ⟨u,hu,hd⟩:=h1.2 j bs[j] (List.getElem?_eq_getElem hj)
 exact ⟨u,hu,he j _ y (List.getElem?_eq_getElem hj) hy D ρ u hd⟩
theorem EqvD.rfl' (x:V1):EqvD x x:=fun _ _ _ h=>h
theorem pur_2 {P:Program} {f:FuncId} {x y a:V1} {rs:List V1} (h:Pur P G f [a,y] rs) (e:EqvD x y):Pur P G f [a,x] rs:=by
 unfold Pur at h ⊢
 exact fn_args h rfl fun j p q hp hq=>by
  match j,hp,hq with
  | 0,hp,hq=>cases hp; cases hq; exact EqvD.rfl' _
  | 1,hp,hq=>cases hp; cases hq; exact e
  | _+2,hp,_=>cases hp
def AllP (l:List TP):Prop:=∀ p∈l,LowR p.1∧Rep p.1 p.2
def rowP (l:List TP):Cell := .sl 4 l.length (rowF encK .nil (l.map Prod.snd))
theorem snd_at (l:List TP) (k:Nat):(l.map Prod.snd).getD k .nil=(l.getD k (.nil,.nil)).2:=by
 rw [List.getD_eq_getElem?_getD,List.getElem?_map,List.getD_eq_getElem?_getD];cases l[k]?<;>rfl
theorem AllP.at {l:List TP} (h:AllP l) {k:Nat} (hk:k<l.length):LowR (l.getD k (.nil,.nil)).1∧Rep (l.getD k (.nil,.nil)).1 (l.getD k (.nil,.nil)).2:=by
 rw [List.getD_eq_getElem?_getD,List.getElem?_eq_getElem hk]
 exact h _ (List.getElem_mem hk)
theorem addP_all {l:List TP} {t:TP} (h:AllP l) (ht:LowR t.1∧Rep t.1 t.2):AllP (addP l t):=fun p hp=>by
 rcases addP_mem l t p hp with h1 | rfl
 ·exact h p h1
 ·exact ht
theorem takeK_D (v:List KT) (k:Nat) (hk:k≤v.length):EqvD (.c (.sl 4 (k-0) (fun i j=>rowF encK .nil v (0+i) j))) (.c (.sl 4 k (rowF encK .nil (v.take k)))):=by
 refine EqvD.sl oM fun i hi j hj => ?_
 have hik:i<k:=by omega
 unfold rowF
 rw [Nat.zero_add]
 simp [List.getD,List.getElem?_take,hik]
theorem dropK_D (v:List KT) (n k:Nat):EqvD (.c (.sl 4 (n-k) (fun i j=>rowF encK .nil v (k+i) j))) (.c (.sl 4 (n-k) (rowF encK .nil (v.drop k)))):=by
 refine EqvD.sl rfl fun i hi j hj => ?_
 unfold rowF
 simp [List.getD]
theorem zeroK_blk (v:List KT) (n:Nat):BlkEqv (.row 64 4 (0+n) (catF 0 (fun i j=>nthD [] (i*4+j)) (rowF encK .nil v))) (.row 64 4 (0+n) (rowF encK .nil v)):=by
 refine BlkEqv.row_ext rfl fun i hi j hj => ?_
 unfold catF
 rw [if_neg oM,Nat.sub_zero]
theorem add_ok (l:List TP) (t:TP) (hl:AllP l) (ht:LowR t.1∧Rep t.1 t.2) (hn:l.length≤1000000):Pur Tryz.prog G 156 [.c (rowP l),.agg (encK t.2)] [.c (rowP (addP l t))]:=by
 refine zp Tryz.func156 ?_
 have hA:=addP_at l t
 have hL:(l.map Prod.snd).length=l.length:=List.length_map _
 obtain ⟨F,hF⟩:∃ F,F=rowF encK .nil (l.map Prod.snd):=⟨_,rfl⟩
 have e1:∀ k,EqvD (.agg [F k 0,F k 1,F k 2,F k 3]) (.agg (encK ((l.map Prod.snd).getD k .nil))):=fun k=>eqvD_of (by rw [hF];rfl)
 have e2:∀ k,k≤l.length→EqvD (.c (.sl 4 (k-0) (fun i j=>F (0+i) j))) (.c (.sl 4 k (rowF encK .nil ((l.map Prod.snd).take k)))):=fun k hk=>by rw [hF];exact takeK_D _ k oM
 have e5:∀ k,EqvD (.c (.sl 4 (l.length-k) (fun i j=>F (k+i) j))) (.c (.sl 4 (l.length-k) (rowF encK .nil ((l.map Prod.snd).drop k)))):=fun k=>by rw [hF];exact dropK_D _ _ k
 have hP:rowP l = .sl 4 l.length F:=by rw [hF];rfl
 rw [hP]
 refine z0 [] [] ?_
 refine zl (fun (k:Nat)=>⟨[(0,.v (.c (.sl 4 l.length F))),(3,.v (.c (.ptr 0 0))),(5,.v (.c (.int .i64 (k:Int))))],[(0,.box 64 (encK t.2))],32⟩) (fun k=>k≤l.length∧∀ j,j<k→cmpT (l.getD j (.nil,.nil)).1 t.1<0) (fun k=>l.length-k) 0 ⟨Nat.zero_le _,fun _ h=>absurd h (Nat.not_lt_zero _)⟩ ?_
 rintro k W ⟨hk,hj⟩ again
 have e1:=e1 k
 have e2:=e2 k hk
 obtain ⟨q,hq⟩:∃ q,q=l.length-k:=⟨_,rfl⟩
 have e5:EqvD (.c (.sl 4 (l.length-k) (fun i j=>F (k+i) j))) (.c (.sl 4 q (rowF encK .nil ((l.map Prod.snd).drop k)))):=by rw [hq];exact e5 k
 have e3:=zeroK_blk ((l.map Prod.snd).take k) k
 have e4:BlkEqv (.row 64 4 (0+k+1) (catF (0+k) (rowF encK .nil ((l.map Prod.snd).take k)) (fun i j=>nthD (encK t.2) ((0+i)*4+j)))) (.row 64 4 (0+k+1) (rowF encK .nil ((l.map Prod.snd).take k++[t.2]))):=enc_app _ _ (by rw [List.length_take];omega)
 have e6:BlkEqv (.row 64 4 (0+k+1+q) (catF (0+k+1) (rowF encK .nil ((l.map Prod.snd).take k++[t.2])) (rowF encK .nil ((l.map Prod.snd).drop k)))) (.row 64 4 (0+k+1+q) (rowF encK .nil ((l.map Prod.snd).take k++[t.2]++(l.map Prod.snd).drop k))):=enc_cat _ _ (by rw [List.length_append,List.length_take];simp;omega) (by rw [List.length_drop];omega)
 have hR:rowP (l.take k++t::l.drop k) = .sl 4 (0+k+1+q) (rowF encK .nil ((l.map Prod.snd).take k++[t.2]++(l.map Prod.snd).drop k)):=by
  unfold rowP
  rw [show (l.take k++t::l.drop k).map Prod.snd=(l.map Prod.snd).take k++[t.2]++(l.map Prod.snd).drop k by simp,show (l.take k++t::l.drop k).length=0+k+1+q by simp;omega]
 clear hF
 by_cases hi:k<l.length
 ·have a1:=hl.at hi
  have c:=less1_ok (G:=G) _ t.2 a1.1 ht.1 a1.2 ht.2
  have cS:=same1_ok (G:=G) _ t.2 a1.1 ht.1 a1.2 ht.2
  rw [← snd_at] at c cS
  cases hc:decide (cmpT (l.getD k (.nil,.nil)).1 t.1<0) with
  | true =>
   have hf:k+1≤l.length∧∀ j,j<k+1→cmpT (l.getD j (.nil,.nil)).1 t.1<0:=⟨hi,fun j h=>by
    rcases Nat.lt_or_ge j k with h2 | h2
    ·exact hj j h2
    ·rw [show j=k by omega];exact of_decide_eq_true hc⟩
   rw [hc] at c
   generalize (l.map Prod.snd).getD k .nil=y at *
   clear hA hj a1 hl ht cS e2 e3 e4 e5 e6 hR hc hP
   refine zg [(2,{cs:=[(10,pc c)],fm:=[(8,.agg (encK y))]})] [true] [decide ((k:Int)<(l.length:Int))=true→(0:Int)≤(k:Int)∧(k:Int)<(l.length:Int),decide ((k:Int)<(l.length:Int))=true→EqvD (.agg [F k (0:Nat),F k ((0:Nat)+(1:Nat)),F k ((0:Nat)+(1:Nat)+(1:Nat)),F k ((0:Nat)+(1:Nat)+(1:Nat)+(1:Nat))]) (.agg (encK y)),(bif decide ((k:Int)<(l.length:Int)) then true else false)=true,inR .i64 ((k:Int)+1)] ⟨oM,(by intro _;assumption),sO,i6⟩ ?_
   exact za [] (again _ (k+1) oM oM)
  | false =>
   have hA:=hA k hk hj (fun _=>of_decide_eq_false hc)
   rw [hc] at c
   cases hs:(cmpT (l.getD k (.nil,.nil)).1 t.1==0) with
   | true =>
    rw [hs] at cS
    rw [if_pos ⟨hi,eq_of_beq hs⟩] at hA
    rw [hA,hP]
    generalize (l.map Prod.snd).getD k .nil=y at *
    clear hA hj a1 hl ht e2 e3 e4 e5 e6 hR hc hs again hP
    refine zg [(2,{cs:=[(10,pc c)],fm:=[(8,.agg (encK y))]}),(4,{cs:=[(10,pc cS)],fm:=[(8,.agg (encK y))]})] [false,true] [decide ((k:Int)<(l.length:Int))=true→(0:Int)≤(k:Int)∧(k:Int)<(l.length:Int),decide ((k:Int)<(l.length:Int))=true→EqvD (.agg [F k (0:Nat),F k ((0:Nat)+(1:Nat)),F k ((0:Nat)+(1:Nat)+(1:Nat)),F k ((0:Nat)+(1:Nat)+(1:Nat)+(1:Nat))]) (.agg (encK y)),(bif decide ((k:Int)<(l.length:Int)) then false else false)=false,decide ((k:Int)<(l.length:Int))=true→(0:Int)≤(k:Int)∧(k:Int)<(l.length:Int),decide ((k:Int)<(l.length:Int))=true→EqvD (.agg [F k (0:Nat),F k ((0:Nat)+(1:Nat)),F k ((0:Nat)+(1:Nat)+(1:Nat)),F k ((0:Nat)+(1:Nat)+(1:Nat)+(1:Nat))]) (.agg (encK y)),(bif decide ((k:Int)<(l.length:Int)) then true else false)=true] ⟨oM,(by intro _;assumption),(by simp;done),oM,(by intro _;assumption),(show (bif decide ((↑k:Int)<(↑l.length:Int)) then true else false)=true from sO)⟩ ?_
    exact zr
   | false =>
    rw [hs] at cS
    rw [if_neg (fun h=>ne_of_beq_false hs h.2)] at hA
    rw [hA,hR]
    generalize (l.map Prod.snd).getD k .nil=y at *
    generalize (l.map Prod.snd).take k++[t.2]++(l.map Prod.snd).drop k=C at *
    generalize (l.map Prod.snd).take k++[t.2]=B at *
    generalize (l.map Prod.snd).take k=A at *
    generalize (l.map Prod.snd).drop k=D at *
    clear hA hj a1 hl ht hR hc hs again hP
    refine zg [(2,{cs:=[(10,pc c)],fm:=[(8,.agg (encK y))]}),(4,{cs:=[(10,pc cS)],fm:=[(8,.agg (encK y))]}),(6,{fm:=[(3,.c (.sl 4 k (rowF encK .nil A)))],bs:=[(4,.row 64 4 (0+k) (rowF encK .nil A))]}),(7,{fm:=[(6,.c (.sl 4 q (rowF encK .nil D)))],bs:=[(3,.row 64 4 (0+k+1) (rowF encK .nil B)),(7,.row 64 4 (0+k+1+q) (rowF encK .nil C))]})] [false,false] [decide ((k:Int)<(l.length:Int))=true→(0:Int)≤(k:Int)∧(k:Int)<(l.length:Int),decide ((k:Int)<(l.length:Int))=true→EqvD (.agg [F k (0:Nat),F k ((0:Nat)+(1:Nat)),F k ((0:Nat)+(1:Nat)+(1:Nat)),F k ((0:Nat)+(1:Nat)+(1:Nat)+(1:Nat))]) (.agg (encK y)),(bif decide ((k:Int)<(l.length:Int)) then false else false)=false,decide ((k:Int)<(l.length:Int))=true→(0:Int)≤(k:Int)∧(k:Int)<(l.length:Int),decide ((k:Int)<(l.length:Int))=true→EqvD (.agg [F k (0:Nat),F k ((0:Nat)+(1:Nat)),F k ((0:Nat)+(1:Nat)+(1:Nat)),F k ((0:Nat)+(1:Nat)+(1:Nat)+(1:Nat))]) (.agg (encK y)),(bif decide ((k:Int)<(l.length:Int)) then false else false)=false,EqvI (.c (.sl 4 ((Int.ofNat k).toNat-(0:Nat)) fun i j=>F ((0:Nat)+i) j)) (.c (.sl 4 k (rowF encK KT.nil A))),EqvD (.c (.sl 4 ((Int.ofNat k).toNat-(0:Nat)) fun i j=>F ((0:Nat)+i) j)) (.c (.sl 4 k (rowF encK KT.nil A))),(0:Int)≤Int.ofNat (0)∧Int.ofNat (0)≤Int.ofNat k∧Int.ofNat k≤(l.length:Int),(0+k)*56≤140737488355328,BlkEqv (.row 64 4 (0+k) (catF 0 (fun i j=>nthD [] (i*4+j)) (rowF encK KT.nil A))) (.row 64 4 (0+k) (rowF encK KT.nil A)),0≤0,(0+k+1)*56≤140737488355328,BlkEqv (.row 64 4 (0+k+1) (catF (0+k) (rowF encK KT.nil A) fun i j=>nthD (encK t.2) ((0+i)*4+j))) (.row 64 4 (0+k+1) (rowF encK KT.nil B)),0+k≤0+k,0+1≤1,EqvI (.c (.sl 4 ((Int.ofNat l.length).toNat-(Int.ofNat k).toNat) fun i j=>F ((Int.ofNat k).toNat+i) j)) (.c (.sl 4 q (rowF encK KT.nil D))),EqvD (.c (.sl 4 ((Int.ofNat l.length).toNat-(Int.ofNat k).toNat) fun i j=>F ((Int.ofNat k).toNat+i) j)) (.c (.sl 4 q (rowF encK KT.nil D))),(0:Int)≤Int.ofNat k∧Int.ofNat k≤Int.ofNat l.length∧Int.ofNat l.length≤(l.length:Int),(0+k+1+q)*56≤140737488355328,BlkEqv (.row 64 4 (0+k+1+q) (catF (0+k+1) (rowF encK KT.nil B) (rowF encK KT.nil D))) (.row 64 4 (0+k+1+q) (rowF encK KT.nil C)),0+k+1≤0+k+1] ⟨oM,(by intro _;assumption),(by simp;done),oM,(by intro _;assumption),(by simp;done),fun _ _=>trivial,aS,⟨dC,⟨(by simp;done),sO⟩⟩,oM,aS,oM,oM,aS,oM,oM,fun _ _=>trivial,aS,⟨(by simp;done),⟨sO,(by simp;done)⟩⟩,oM,aS,(show (0:Nat)+k+(1:Nat)≤(0:Nat)+k+(1:Nat) from oM)⟩ ?_
    refine Wp.ent' kR (Ent.pubT (t:=4) (e:=64) (sz:=(4:Nat)) (id:=624) (off:=(0:Nat)) (m:=(0:Nat)+k+(1:Nat)+q) (n:=(0:Nat)+k+(1:Nat)+q) (f:=rowF encK KT.nil C) (m':=(0:Nat)+k+(1:Nat)+q) (f':=rowF encK KT.nil C) kR kR oM rfl (fun i _ j _=>by rw [Nat.zero_add]) rfl) ?_
    exact zr
 ·have hA:=hA k hk hj (fun h=>(hi h).elim)
  rw [if_neg (fun h=>hi h.1)] at hA
  rw [hA,hR]
  generalize (l.map Prod.snd).take k++[t.2]++(l.map Prod.snd).drop k=C at *
  generalize (l.map Prod.snd).take k++[t.2]=B at *
  generalize (l.map Prod.snd).take k=A at *
  generalize (l.map Prod.snd).drop k=D at *
  clear hA hj hl ht hR again hP
  refine zg [(2,{grd:=[(5,false),(6,false),(7,false),(8,false),(9,false),(10,false),(11,false)]}),(4,{grd:=[(5,false),(6,false),(7,false),(8,false),(9,false),(10,false),(11,false)]}),(6,{fm:=[(3,.c (.sl 4 k (rowF encK .nil A)))],bs:=[(4,.row 64 4 (0+k) (rowF encK .nil A))]}),(7,{fm:=[(6,.c (.sl 4 q (rowF encK .nil D)))],bs:=[(3,.row 64 4 (0+k+1) (rowF encK .nil B)),(7,.row 64 4 (0+k+1+q) (rowF encK .nil C))]})] [false,false] [decide ((k:Int)<(l.length:Int)) = !true,decide ((k:Int)<(l.length:Int)) = !true,decide ((k:Int)<(l.length:Int)) = !true,decide ((k:Int)<(l.length:Int)) = !true,decide ((k:Int)<(l.length:Int)) = !true,decide ((k:Int)<(l.length:Int)) = !true,decide ((k:Int)<(l.length:Int))=false,false=false,decide ((k:Int)<(l.length:Int)) = !true,decide ((k:Int)<(l.length:Int)) = !true,decide ((k:Int)<(l.length:Int)) = !true,decide ((k:Int)<(l.length:Int)) = !true,decide ((k:Int)<(l.length:Int)) = !true,decide ((k:Int)<(l.length:Int)) = !true,decide ((k:Int)<(l.length:Int))=false,false=false,EqvI (.c (.sl 4 ((Int.ofNat k).toNat-(0:Nat)) fun i j=>F ((0:Nat)+i) j)) (.c (.sl 4 k (rowF encK KT.nil A))),EqvD (.c (.sl 4 ((Int.ofNat k).toNat-(0:Nat)) fun i j=>F ((0:Nat)+i) j)) (.c (.sl 4 k (rowF encK KT.nil A))),(0:Int)≤Int.ofNat (0)∧Int.ofNat (0)≤Int.ofNat k∧Int.ofNat k≤(l.length:Int),(0+k)*56≤140737488355328,BlkEqv (.row 64 4 (0+k) (catF 0 (fun i j=>nthD [] (i*4+j)) (rowF encK KT.nil A))) (.row 64 4 (0+k) (rowF encK KT.nil A)),0≤0,(0+k+1)*56≤140737488355328,BlkEqv (.row 64 4 (0+k+1) (catF (0+k) (rowF encK KT.nil A) fun i j=>nthD (encK t.2) ((0+i)*4+j))) (.row 64 4 (0+k+1) (rowF encK KT.nil B)),0+k≤0+k,0+1≤1,EqvI (.c (.sl 4 ((Int.ofNat l.length).toNat-(Int.ofNat k).toNat) fun i j=>F ((Int.ofNat k).toNat+i) j)) (.c (.sl 4 q (rowF encK KT.nil D))),EqvD (.c (.sl 4 ((Int.ofNat l.length).toNat-(Int.ofNat k).toNat) fun i j=>F ((Int.ofNat k).toNat+i) j)) (.c (.sl 4 q (rowF encK KT.nil D))),(0:Int)≤Int.ofNat k∧Int.ofNat k≤Int.ofNat l.length∧Int.ofNat l.length≤(l.length:Int),(0+k+1+q)*56≤140737488355328,BlkEqv (.row 64 4 (0+k+1+q) (catF (0+k+1) (rowF encK KT.nil B) (rowF encK KT.nil D))) (.row 64 4 (0+k+1+q) (rowF encK KT.nil C)),0+k+1≤0+k+1] ⟨sO,sO,sO,sO,sO,sO,sO,rfl,sO,sO,sO,sO,sO,sO,sO,rfl,fun _ _=>trivial,aS,⟨dC,⟨(by simp;done),sO⟩⟩,oM,aS,oM,oM,aS,oM,oM,fun _ _=>trivial,aS,⟨(by simp;done),⟨sO,(by simp;done)⟩⟩,oM,aS,(show (0:Nat)+k+(1:Nat)≤(0:Nat)+k+(1:Nat) from oM)⟩ ?_
  refine Wp.ent' kR (Ent.pubT (t:=4) (e:=64) (sz:=(4:Nat)) (id:=624) (off:=(0:Nat)) (m:=(0:Nat)+k+(1:Nat)+q) (n:=(0:Nat)+k+(1:Nat)+q) (f:=rowF encK KT.nil C) (m':=(0:Nat)+k+(1:Nat)+q) (f':=rowF encK KT.nil C) kR kR oM rfl (fun i _ j _=>by rw [Nat.zero_add]) rfl) ?_
  exact zr
theorem fst_at {A B:List TP} (h:A.map Prod.fst=B.map Prod.fst) (k:Nat):(A.getD k (.nil,.nil)).1=(B.getD k (.nil,.nil)).1:=by
 have:=congrArg (fun l=>l.getD k TT.nil) h
 simp only [List.getD_eq_getElem?_getD,List.getElem?_map] at this ⊢
 cases h1:A[k]?<;>cases h2:B[k]?<;>simp [h1,h2] at this ⊢
 ·exact this
 ·exact this
 ·exact this
theorem all1_ok (A B:List TP) (hA:AllP A) (hB:AllP B) (he:A.map Prod.fst=B.map Prod.fst) (hn:A.length≤1000000):Pur Tryz.prog G 38 [.c (rowP A),.c (rowP B)] [.c (.bool true)]:=by
 refine zp Tryz.func38 ?_
 have hL:A.length=B.length:=by have:=congrArg List.length he;simpa using this
 obtain ⟨F,hF⟩:∃ F,F=rowF encK .nil (A.map Prod.snd):=⟨_,rfl⟩
 obtain ⟨F2,hF2⟩:∃ F,F=rowF encK .nil (B.map Prod.snd):=⟨_,rfl⟩
 have e1:∀ k,EqvD (.agg [F k 0,F k 1,F k 2,F k 3]) (.agg (encK ((A.map Prod.snd).getD k .nil))):=fun k=>eqvD_of (by rw [hF];rfl)
 have e2:∀ k,EqvD (.agg [F2 k 0,F2 k 1,F2 k 2,F2 k 3]) (.agg (encK ((B.map Prod.snd).getD k .nil))):=fun k=>eqvD_of (by rw [hF2];rfl)
 have hP:rowP A = .sl 4 A.length F:=by rw [hF];rfl
 have hP2:rowP B = .sl 4 A.length F2:=by rw [hF2,hL];rfl
 rw [hP,hP2]
 clear hP hP2 hF hF2
 refine zg [] [false] [((A.length:Int) != (A.length:Int))=false] (show ((↑A.length:Int) != (↑A.length:Int))=false from (by simp)) ?_
 refine zl (fun (k:Nat)=>⟨[(0,.v (.c (.sl 4 A.length F))),(1,.v (.c (.sl 4 A.length F2))),(5,.v (.c (.int .i64 (k:Int))))],[],128⟩) (fun k=>k≤A.length) (fun k=>A.length-k) 0 (Nat.zero_le _) ?_
 rintro k W hk again
 have hk:k≤A.length:=hk
 have e1:=e1 k
 have e2:=e2 k
 by_cases hi:k<A.length
 ·have hlt:decide ((k:Int)<(A.length:Int))=true:=by simp;omega
  have a1:=hA.at hi
  have a2:=hB.at (show k<B.length by omega)
  have c:=same1_ok (G:=G) _ _ a1.1 a2.1 a1.2 a2.2
  rw [← snd_at,← snd_at,fst_at he k,cmpT_self] at c
  generalize (A.map Prod.snd).getD k .nil=x at *
  generalize (B.map Prod.snd).getD k .nil=y at *
  have c:Pur Tryz.prog G 35 [.agg (encK x),.agg (encK y)] [.c (.bool true)]:=c
  clear hA hB he a1 a2
  refine zg [(6,{cs:=[(8,pc c)],fm:=[(3,.agg (encK x)),(7,.agg (encK y))]})] [true,false] [decide ((k:Int)<(A.length:Int))=true,(0:Int)≤(k:Int)∧(k:Int)<(A.length:Int),EqvD (.agg [F k 0,F k (0+1),F k (0+1+1),F k (0+1+1+1)]) (.agg (encK x)),(0:Int)≤(k:Int)∧(k:Int)<(A.length:Int),EqvD (.agg [F2 k 0,F2 k (0+1),F2 k (0+1+1),F2 k (0+1+1+1)]) (.agg (encK y)),(!true)=false,inR .i64 ((k:Int)+1)] ⟨aS,oM,aS,oM,aS,rfl,i6⟩ ?_
  exact za [] (again _ (k+1) aS oM)
 ·have hlt:decide ((k:Int)<(A.length:Int))=false:=by simp;omega
  clear hA hB he again
  refine zg [] [false] [decide ((k:Int)<(A.length:Int))=false] (oN aS) ?_
  exact zr
theorem tp_ok (t:Tm):LowR (tp t).1∧Rep (tp t).1 (tp t).2:=⟨low_toT t,Rep_toK t⟩
theorem foldP_all:∀ (m:List Tm) (l:List TP),AllP l→AllP (foldP l m)
 | [],l,h=>h
 | t::m,l,h=>foldP_all m _ (addP_all h (tp_ok t))
theorem foldP_len:∀ (m:List Tm) (l:List TP),(foldP l m).length≤l.length+m.length
 | [],l=>Nat.le_refl _
 | t::m,l=>by
  have:=foldP_len m (addP l (tp t))
  have:=addP_len l (tp t)
  show (foldP (addP l (tp t)) m).length≤_
  simp only [List.length_cons];omega
theorem foldP_snoc (l:List TP) (m:List Tm) (t:Tm):foldP l (m++[t])=addP (foldP l m) (tp t):=by rw [foldP_app];rfl
theorem plain_len (s:List UInt8):(plainT s).length≤s.length+1:=by
 rw [← plK_all]
 have:=plK_len (partsT s) ((partsT s).length-2)
 have:=partsT_len s
 omega
theorem marks9_ok (l:List TP) (hl:AllP l) (s:List UInt8) (hs:s.length≤400000) (hn:l.length≤500000):Pur Tryz.prog G 96 [.c (.str s),.c (rowP l)] [.c (rowP (foldP l (plainT s)))]:=by
 have c1:Pur Tryz.prog G 155 [.c (.str s),.c (.str [126])] [.c (.sl 1 (partsT s).length (strsF (partsT s)))]:=parts_ok s [126] oM dC dC
 have hll:=partsT_len s
 have hp:∀ i,((partsT s).getD i []).length≤30000000000000:=fun i=>by have:=partsT_piece s i;omega
 have hA:=plK_all s
 refine zp Tryz.func96 ?_
 generalize partsT s=ps at *
 refine z0 [(1,{cs:=[(1,pc c1)]})] [] ?_
 refine zl (fun (x:Nat×Nat×(Nat→Nat→Cell))=>⟨[(1,.v (.c (.sl 4 x.2.1 x.2.2))),(5,.v (.c (.sl 1 ps.length (strsF ps)))),(6,.v (.c (.int .i64 ((x.1+1:Nat):Int))))],[],96⟩) (fun x=>(x.1=0∨x.1+2≤ps.length)∧Cell.sl 4 x.2.1 x.2.2=rowP (foldP l (plK ps x.1))) (fun x=>ps.length-x.1) (0,l.length,rowF encK .nil (l.map Prod.snd)) ⟨.inl rfl,rfl⟩ ?_
 rintro ⟨k,n,F⟩ W ⟨hx,hF⟩ again
 have hx:k=0∨k+2≤ps.length:=hx
 have hF:Cell.sl 4 n F=rowP (foldP l (plK ps k)):=hF
 by_cases hi:k+2<ps.length
 ·have hlt:decide (((k+1:Nat):Int)+1<(ps.length:Int))=true:=by simp;omega
  have hlen:=plK_len ps k
  have hfl:=foldP_len (plK ps k) l
  rcases inner9_ok (G:=G) (ps.getD (k+1) []) (hp _) with ⟨t,ht,c⟩ | ⟨ht,c⟩
  ·have hK:=plK_good ht
   have c2:=add_ok (G:=G) (foldP l (plK ps k)) (tp t) (foldP_all _ _ hl) (tp_ok t) oM
   rw [← foldP_snoc,← hK,← hF] at c2
   obtain ⟨n2,hn2⟩:∃ n,n=(foldP l (plK ps (k+1))).length:=⟨_,rfl⟩
   obtain ⟨F2,hF2⟩:∃ F,F=rowF encK .nil ((foldP l (plK ps (k+1))).map Prod.snd):=⟨_,rfl⟩
   have hR:Cell.sl 4 n2 F2=rowP (foldP l (plK ps (k+1))):=by rw [hn2,hF2];rfl
   rw [← hR] at c2
   have c2:Pur Tryz.prog G 156 [.c (.sl 4 n F),.agg (encK (toK t))] [.c (.sl 4 n2 F2)]:=c2
   have hq:(k+1=0∨k+1+2≤ps.length)∧Cell.sl 4 n2 F2=rowP (foldP l (plK ps (k+1))):=⟨.inr oM,hR⟩
   clear ht hK hA hl hn2 hF2 hF hR
   refine zg [(5,{cs:=[(4,pc c)]}),(7,{cs:=[(2,pc c2)]})] [true,true] [inR .i64 ((↑(k+(1:Nat)):Int)+(1:Int)),decide ((↑(k+(1:Nat)):Int)+(1:Int)<(ps.length:Int))=true,(0:Int)≤(↑(k+(1:Nat)):Int)∧(↑(k+(1:Nat)):Int)<(ps.length:Int),true=true,inR .i64 ((↑(k+(1:Nat)):Int)+(1:Int))] ⟨i6,aS,oM,rfl,i6⟩ ?_
   exact za [] (again _ (k+1,n2,F2) oM oM)
  ·have hK:=plK_bad ht
   have hq:(k+1=0∨k+1+2≤ps.length)∧Cell.sl 4 n F=rowP (foldP l (plK ps (k+1))):=⟨.inr oM,by rw [hK];exact hF⟩
   clear ht hA hl hK hF
   refine zg [(5,{cs:=[(4,pc c)]})] [true,false] [inR .i64 ((↑(k+(1:Nat)):Int)+(1:Int)),decide ((↑(k+(1:Nat)):Int)+(1:Int)<(ps.length:Int))=true,(0:Int)≤(↑(k+(1:Nat)):Int)∧(↑(k+(1:Nat)):Int)<(ps.length:Int),false=false,inR .i64 ((↑(k+(1:Nat)):Int)+(1:Int))] ⟨i6,aS,oM,rfl,i6⟩ ?_
   exact za [] (again _ (k+1,n,F) oM oM)
 ·have hlt:decide (((k+1:Nat):Int)+1<(ps.length:Int))=false:=by simp;omega
  have hk:plK ps k=plainT s:=by rw [← hA];congr 1;omega
  rw [← hk,← hF]
  clear hA hk again hl hF
  refine zg [] [false] [inR .i64 ((↑(k+(1:Nat)):Int)+(1:Int)),decide ((↑(k+(1:Nat)):Int)+(1:Int)<(ps.length:Int))=false] ⟨i6,(show decide ((↑(k+(1:Nat)):Int)+(1:Int)<(↑ps.length:Int))=false from aS)⟩ ?_
  exact zr
theorem pur_r {P:Program} {f:FuncId} {cs:List V1} {x x' y:V1} (h:Pur P G f cs [x,y]) (e:EqvD x x') (hi:∀ S,x'.inS S):Pur P G f cs [x',y]:=by
 unfold Pur Go.Sv.Fn at h ⊢
 intro D ρ w vs h1 h2 hgw h3 h4 h5
 refine (h D ρ w vs h1 h2 hgw h3 h4 h5).mono ?_
 rintro q w' ⟨rs,ho,D',ρ',v,q1,⟨rfl,rfl⟩,q3,q4,q5⟩
 refine ⟨_,_,D',ρ',v,q1,⟨rfl,rfl⟩,?_,?_,q5⟩
 ·obtain ⟨us,e1,e2,e3⟩:=q3
  refine ⟨us,e1,e2,fun j z hz => ?_⟩
  match j,hz with
  | 0,hz =>
   cases hz
   obtain ⟨u,hu,hd⟩:=e3 0 x rfl
   exact ⟨u,hu,e _ _ _ hd⟩
  | 1,hz=>exact e3 1 z hz
  | _+2,hz=>cases hz
 ·intro j z hz
  match j,hz with
  | 0,hz=>cases hz; exact hi _
  | 1,hz=>exact q4 1 z hz
  | _+2,hz=>cases hz
def restT (s:List UInt8) (i:Nat):List Tm:=(runsF (s.drop i) []).flatMap tellT
theorem tell_nil:tellT []=[]:=by
 unfold tellT
 rw [dec8_nil]
 show plainT []=[]
 unfold plainT
 rw [partsT_cuts]
 rfl
theorem tell_close (r:List UInt8):(closeF r).flatMap tellT=tellT r:=by
 unfold closeF
 split
 ·rename_i h;rw [h,tell_nil];rfl
 ·simp
theorem rest_step (s:List UInt8) (i k:Nat) (hik:i≤k) (hk:k≤s.length) (ha:∀ j,i≤j→j<k→sgB (s.getD j 0)=true) (hn:k<s.length→sgB (s.getD k 0)=false) :
  restT s i=tellT ((s.take k).drop i)++restT s (k+1):=by
 have e:s.drop i=(s.take k).drop i++s.drop k:=by
  rw [List.drop_take,show s.drop k=(s.drop i).drop (k-i) by rw [List.drop_drop,show i+(k-i)=k by omega],List.take_append_drop]
 have hs:∀ c∈(s.take k).drop i,sgB c=true:=by
  intro c hc
  obtain ⟨j,hj,rfl⟩:=List.getElem_of_mem hc
  rw [List.length_drop,List.length_take] at hj
  have:=ha (i+j) oM oM
  rw [List.getD_eq_getElem?_getD,List.getElem?_eq_getElem oM] at this
  simpa using this
 unfold restT
 rw [e,runs_app _ _ _ hs,List.nil_append]
 rcases Nat.lt_or_ge k s.length with h | h
 ·rw [drop_consL s k h,runsF_no (hn h),List.flatMap_append,tell_close]
 ·have h1:s.drop k=[]:=List.drop_eq_nil_of_le h
  have h2:s.drop (k+1)=[]:=List.drop_eq_nil_of_le oM
  rw [h1,h2]
  show (closeF _).flatMap tellT=_++[]
  rw [tell_close,List.append_nil]
theorem find_start (s:List UInt8):findP s=foldP (foldP [] (plainT s)) (restT s 0):=by
 unfold findP allM restT
 rw [foldP_app,List.drop_zero]
theorem tell_len (r:List UInt8):(tellT r).length≤r.length+1:=by
 unfold tellT
 split
 ·rename_i b hb
  have:=dec8_len hb
  have:=plain_len b
  omega
 ·simp
theorem find9_ok (s:List UInt8) (hs:s.length≤200000):Pur Tryz.prog G 40 [.c (.str s)] [.c (rowP (findP s))]:=by
 have c1:=marks9_ok (G:=G) [] (fun p h=>by cases h) s oM (by show 0≤500000;omega)
 have c1:Pur Tryz.prog G 96 [.c (.str s),.c .nilsl] [.c (rowP (foldP [] (plainT s)))]:=pur_2 c1 nil4
 have h0:=find_start s
 have hA0:AllP (foldP [] (plainT s)):=foldP_all _ _ (fun p h=>by cases h)
 have hN0:(foldP [] (plainT s)).length≤s.length+1:=by have:=foldP_len (plainT s) [];have:=plain_len s;simp at *;omega
 refine zp Tryz.func40 ?_
 generalize findP s=R at *
 generalize foldP [] (plainT s)=L0 at *
 obtain ⟨F0,hF0⟩:∃ F,F=rowF encK .nil (L0.map Prod.snd):=⟨_,rfl⟩
 have hP0:rowP L0 = .sl 4 L0.length F0:=by rw [hF0];rfl
 rw [hP0] at c1
 refine z0 [(1,{cs:=[(1,pc c1)]})] [] ?_
 refine zl (fun (x:Nat×Nat×(Nat→Nat→Cell))=>⟨[(0,.v (.c (.str s))),(3,.v (.c (.sl 4 x.2.1 x.2.2))),(4,.v (.c (.int .i64 (x.1:Int))))],[],96⟩) (fun x=>x.1≤s.length+1∧∃ L,Cell.sl 4 x.2.1 x.2.2=rowP L∧AllP L∧L.length≤s.length+1+x.1∧R=foldP L (restT s x.1)) (fun x=>s.length+1-x.1) (0,L0.length,F0) ⟨Nat.zero_le _,L0,hP0.symm,hA0,hN0,h0⟩ ?_
 rintro ⟨i,n,F⟩ W ⟨hi,L,hL,hLA,hLn,hR⟩ again
 have hi:i≤s.length+1:=hi
 have hL:Cell.sl 4 n F=rowP L:=hL
 have hLn:L.length≤s.length+1+i:=hLn
 have hR:R=foldP L (restT s i):=hR
 clear h0 hA0 hN0 hF0 hP0
 by_cases hlt:i<s.length
 ·have hlb:decide ((i:Int)<(s.length:Int))=true:=by simp;omega
  refine zg [] [true] [decide ((i:Int)<(s.length:Int))=true] (oN aS) ?_
  refine zl (fun (k:Nat)=>⟨[(0,.v (.c (.str s))),(3,.v (.c (.sl 4 n F))),(4,.v (.c (.int .i64 (i:Int)))),(5,.v (.c (.int .i64 (k:Int))))],[],96⟩) (fun k=>i≤k∧k≤s.length∧∀ j,i≤j→j<k→sgB (s.getD j 0)=true) (fun k=>s.length-k) i ⟨Nat.le_refl _,by omega,fun j h1 h2=>by omega⟩ ?_
  have againO:=again
  clear again
  rintro k W2 ⟨hik,hk,ha⟩ again
  have hik:i≤k:=hik
  have hk:k≤s.length:=hk
  have ha:∀ j,i≤j→j<k→sgB (s.getD j 0)=true:=ha
  by_cases hgo:k<s.length∧sgB (s.getD k 0)=true
  ·have hkb:decide ((k:Int)<(s.length:Int))=true:=by simp;omega
   have c:=sign8_ok (G:=G) (s.getD k 0)
   have hsg:decide (sgI (s.getD k 0)≥0)=true:=hgo.2
   have hq:i≤k+1∧k+1≤s.length∧∀ j,i≤j→j<k+1→sgB (s.getD j 0)=true:=⟨by omega,by omega,fun j h1 h2=>by
    rcases Nat.lt_or_ge j k with h | h
    ·exact ha j h1 h
    ·rw [show j=k by omega];exact hgo.2⟩
   have hkl:=hgo.1
   clear ha hL hLA hR againO hgo
   generalize sgI (s.getD k 0)=z at *
   refine zg [(5,{cs:=[(8,pc c)]})] [true] [decide ((k:Int)<(s.length:Int))=true→(0:Int)≤(k:Int)∧(k:Int)<(s.length:Int),(bif decide ((k:Int)<(s.length:Int)) then decide (z≥(0:Int)) else false)=true,inR .i64 ((k:Int)+1)] ⟨oM,(by simp_all<;>omega),i6⟩ ?_
   exact za [] (again _ (k+1) oM oM)
  ·have hst:=rest_step s i k hik hk ha (fun h=>by
    cases h2:sgB (s.getD k 0) with
    | false=>rfl
    | true=>exact (hgo ⟨h,h2⟩).elim)
   obtain ⟨run,hrun⟩:∃ run,run=(s.take k).drop i:=⟨_,rfl⟩
   rw [← hrun] at hst
   have hrl:run.length=k-i:=by rw [hrun,List.length_drop,List.length_take];omega
   have er:EqvD (.c (.str (List.drop i (List.take k s)))) (.c (.str run)):=eqvD_of (by rw [hrun])
   have c2:=dec8_ok (G:=G) run oM
   have htl:=tell_len run
   rw [hst] at hR
   clear ha hst hrun again
   have again:=againO
   clear againO
   have c:k<s.length→Pur Tryz.prog G 97 [.c (.int .u8 ((s.getD k 0).toNat:Int))] [.c (.int .i64 (sgI (s.getD k 0)))]:=fun _=>sign8_ok (G:=G) (s.getD k 0)
   have hsg:k<s.length→decide (sgI (s.getD k 0)≥0)=false:=fun h=>by
    cases h2:sgB (s.getD k 0) with
    | false=>exact h2
    | true=>exact (hgo ⟨h,h2⟩).elim
   clear hgo
   generalize sgI (s.getD k 0)=z at *
   cases hd:dec8 run with
   | none =>
    have ht:tellT run=[]:=by unfold tellT;rw [hd]
    rw [decR_none hd] at c2
    rw [ht,List.nil_append] at hR
    have hq:k+1≤s.length+1∧∃ L,Cell.sl 4 n F=rowP L∧AllP L∧L.length≤s.length+1+(k+1)∧R=foldP L (restT s (k+1)):=⟨by omega,L,hL,hLA,by omega,hR⟩
    clear hL hLA hR htl hd ht
    by_cases hkl:k<s.length
    ·have hkb:decide ((k:Int)<(s.length:Int))=true:=by simp;omega
     have c:=c hkl
     have hsg:=hsg hkl
     refine zg [(7,{cs:=[(4,pc c2)],fm:=[(3,.c (.str run))]}),(5,{cs:=[(8,pc c)]})] [false,false] [decide ((k:Int)<(s.length:Int))=true→(0:Int)≤(k:Int)∧(k:Int)<(s.length:Int),(bif decide ((k:Int)<(s.length:Int)) then decide (z≥(0:Int)) else false)=false,EqvI (.c (.str (List.drop (Int.ofNat i).toNat (List.take (Int.ofNat k).toNat s)))) (.c (.str run)),EqvD (.c (.str (List.drop (Int.ofNat i).toNat (List.take (Int.ofNat k).toNat s)))) (.c (.str run)),(0:Int)≤Int.ofNat i∧Int.ofNat i≤Int.ofNat k∧Int.ofNat k≤(s.length:Int),((3:Int)==(0:Int))=false,inR .i64 ((k:Int)+1)] ⟨oM,(by simp_all<;>omega),fun _ _=>trivial,aS,⟨(by simp;done),⟨sO,sO⟩⟩,rfl,i6⟩ ?_
     exact za [] (again _ (k+1,n,F) oM oM)
    ·have hkb:decide ((k:Int)<(s.length:Int))=false:=by simp;omega
     clear c hsg
     refine zg [(5,{grd:=[(5,false),(6,false),(7,false),(8,false),(9,false),(10,false)]}),(7,{cs:=[(4,pc c2)],fm:=[(3,.c (.str run))]})] [false,false] [decide ((k:Int)<(s.length:Int)) = !true,decide ((k:Int)<(s.length:Int)) = !true,decide ((k:Int)<(s.length:Int)) = !true,decide ((k:Int)<(s.length:Int)) = !true,decide ((k:Int)<(s.length:Int)) = !true,decide ((k:Int)<(s.length:Int))=false,false=false,EqvI (.c (.str (List.drop (Int.ofNat i).toNat (List.take (Int.ofNat k).toNat s)))) (.c (.str run)),EqvD (.c (.str (List.drop (Int.ofNat i).toNat (List.take (Int.ofNat k).toNat s)))) (.c (.str run)),(0:Int)≤Int.ofNat i∧Int.ofNat i≤Int.ofNat k∧Int.ofNat k≤(s.length:Int),((3:Int)==(0:Int))=false,inR .i64 ((k:Int)+1)] ⟨aS,aS,aS,aS,aS,aS,rfl,fun _ _=>trivial,aS,⟨(by simp;done),⟨sO,sO⟩⟩,rfl,i6⟩ ?_
     exact za [] (again _ (k+1,n,F) oM oM)
   | some o =>
    have ht:tellT run=plainT o:=by unfold tellT;rw [hd]
    have hol:=dec8_len hd
    rw [decR_some hd] at c2
    have c2:=pur_r c2 (slB_D o) (fun _=>trivial)
    rw [ht,foldP_app] at hR
    have c3:=marks9_ok (G:=G) L hLA o oM oM
    have hfl:=foldP_len (plainT o) L
    have hpo:=plain_len o
    have hA2:=foldP_all (plainT o) L hLA
    rw [← hL] at c3
    obtain ⟨L2,hL2⟩:∃ L2,L2=foldP L (plainT o):=⟨_,rfl⟩
    rw [← hL2] at c3 hR hfl hA2
    obtain ⟨F2,hF2⟩:∃ F,F=rowF encK .nil (L2.map Prod.snd):=⟨_,rfl⟩
    obtain ⟨n2,hn2⟩:∃ n,n=L2.length:=⟨_,rfl⟩
    have hP2:rowP L2 = .sl 4 n2 F2:=by rw [hn2,hF2];rfl
    rw [hP2] at c3
    have hq:k+1≤s.length+1∧∃ L,Cell.sl 4 n2 F2=rowP L∧AllP L∧L.length≤s.length+1+(k+1)∧R=foldP L (restT s (k+1)):=⟨by omega,L2,hP2.symm,hA2,by omega,hR⟩
    have eb:EqvD (.c (.str (byteL (bytesF o) 0 o.length))) (.c (.str o)):=eqvD_of (by rw [byteL_F o rfl])
    clear hL hLA hR htl hd ht hA2 hL2 hF2 hn2 hP2 hfl
    by_cases hkl:k<s.length
    ·have hkb:decide ((k:Int)<(s.length:Int))=true:=by simp;omega
     have c:=c hkl
     have hsg:=hsg hkl
     refine zg [(7,{cs:=[(4,pc c2)],fm:=[(3,.c (.str run))]}),(9,{cs:=[(3,pc c3)],fm:=[(1,.c (.str o))]}),(5,{cs:=[(8,pc c)]})] [false,true] [decide ((k:Int)<(s.length:Int))=true→(0:Int)≤(k:Int)∧(k:Int)<(s.length:Int),(bif decide ((k:Int)<(s.length:Int)) then decide (z≥(0:Int)) else false)=false,EqvI (.c (.str (List.drop (Int.ofNat i).toNat (List.take (Int.ofNat k).toNat s)))) (.c (.str run)),EqvD (.c (.str (List.drop (Int.ofNat i).toNat (List.take (Int.ofNat k).toNat s)))) (.c (.str run)),(0:Int)≤Int.ofNat i∧Int.ofNat i≤Int.ofNat k∧Int.ofNat k≤(s.length:Int),((0:Int)==(0:Int))=true,EqvI (.c (.str (byteL (bytesF o) 0 o.length))) (.c (.str o)),EqvD (.c (.str (byteL (bytesF o) 0 o.length))) (.c (.str o)),areBytes (bytesF o) 0 o.length,inR .i64 ((k:Int)+1)] ⟨oM,(by simp_all<;>omega),fun _ _=>trivial,aS,⟨(by simp;done),⟨sO,sO⟩⟩,rfl,fun _ _=>trivial,aS,areBytes_F _ _ _,i6⟩ ?_
     exact za [] (again _ (k+1,n2,F2) oM oM)
    ·have hkb:decide ((k:Int)<(s.length:Int))=false:=by simp;omega
     clear c hsg
     refine zg [(5,{grd:=[(5,false),(6,false),(7,false),(8,false),(9,false),(10,false)]}),(7,{cs:=[(4,pc c2)],fm:=[(3,.c (.str run))]}),(9,{cs:=[(3,pc c3)],fm:=[(1,.c (.str o))]})] [false,true] [decide ((k:Int)<(s.length:Int)) = !true,decide ((k:Int)<(s.length:Int)) = !true,decide ((k:Int)<(s.length:Int)) = !true,decide ((k:Int)<(s.length:Int)) = !true,decide ((k:Int)<(s.length:Int)) = !true,decide ((k:Int)<(s.length:Int))=false,false=false,EqvI (.c (.str (List.drop (Int.ofNat i).toNat (List.take (Int.ofNat k).toNat s)))) (.c (.str run)),EqvD (.c (.str (List.drop (Int.ofNat i).toNat (List.take (Int.ofNat k).toNat s)))) (.c (.str run)),(0:Int)≤Int.ofNat i∧Int.ofNat i≤Int.ofNat k∧Int.ofNat k≤(s.length:Int),((0:Int)==(0:Int))=true,EqvI (.c (.str (byteL (bytesF o) 0 o.length))) (.c (.str o)),EqvD (.c (.str (byteL (bytesF o) 0 o.length))) (.c (.str o)),areBytes (bytesF o) 0 o.length,inR .i64 ((k:Int)+1)] ⟨aS,aS,aS,aS,aS,aS,rfl,fun _ _=>trivial,aS,⟨(by simp;done),⟨sO,sO⟩⟩,rfl,fun _ _=>trivial,aS,areBytes_F _ _ _,i6⟩ ?_
     exact za [] (again _ (k+1,n2,F2) oM oM)
 ·have hlb:decide ((i:Int)<(s.length:Int))=false:=by simp;omega
  have hr:restT s i=[]:=by unfold restT;rw [List.drop_eq_nil_of_le oM];rfl
  rw [hr] at hR
  have hR:R=L:=hR
  rw [hR,← hL]
  clear again hL hLA hR hr
  refine zg [] [false] [decide ((i:Int)<(s.length:Int))=false] (oN aS) ?_
  exact zr
theorem kidsR_ok (k:Int):Pur Tryz.prog G 221 [.c (.int .i64 k)] [.c (.int .i64 (kidsI k))]:=by
 refine zp Tryz.func221 ?_
 by_cases h1:k=1
 ·subst h1
  refine zg [] [true,true] [((1:Int)==(1:Int))=true,((1:Int)==(1:Int))=true] ⟨rfl,rfl⟩ ?_
  exact zr
 by_cases h2:k=2
 ·subst h2
  refine zg [] [false,true] [((2:Int)==(1:Int))=false,((2:Int)==(2:Int))=true] ⟨rfl,rfl⟩ ?_
  exact zr
 by_cases h3:k=3
 ·subst h3
  refine zg [] [false,false,true,true] [((3:Int)==(1:Int))=false,((3:Int)==(2:Int))=false,((3:Int)==(3:Int))=true,((3:Int)==(3:Int))=true] ⟨rfl,rfl,rfl,rfl⟩ ?_
  exact zr
 by_cases h4:k=4
 ·subst h4
  refine zg [] [false,false,false,true] [((4:Int)==(1:Int))=false,((4:Int)==(2:Int))=false,((4:Int)==(3:Int))=false,((4:Int)==(4:Int))=true] ⟨rfl,rfl,rfl,rfl⟩ ?_
  exact zr
 by_cases h5:k=5
 ·subst h5
  refine zg [] [false,false,false,false,true,true] [((5:Int)==(1:Int))=false,((5:Int)==(2:Int))=false,((5:Int)==(3:Int))=false,((5:Int)==(4:Int))=false,((5:Int)==(5:Int))=true,((5:Int)==(5:Int))=true] ⟨rfl,rfl,rfl,rfl,rfl,rfl⟩ ?_
  exact zr
 by_cases h6:k=6
 ·subst h6
  refine zg [] [false,false,false,false,false,true,true] [((6:Int)==(1:Int))=false,((6:Int)==(2:Int))=false,((6:Int)==(3:Int))=false,((6:Int)==(4:Int))=false,((6:Int)==(5:Int))=false,((6:Int)==(6:Int))=true,((6:Int)==(6:Int))=true] ⟨rfl,rfl,rfl,rfl,rfl,rfl,rfl⟩ ?_
  exact zr
 by_cases h7:k=7
 ·subst h7
  refine zg [] [false,false,false,false,false,false,true] [((7:Int)==(1:Int))=false,((7:Int)==(2:Int))=false,((7:Int)==(3:Int))=false,((7:Int)==(4:Int))=false,((7:Int)==(5:Int))=false,((7:Int)==(6:Int))=false,((7:Int)==(7:Int))=true] ⟨rfl,rfl,rfl,rfl,rfl,rfl,rfl⟩ ?_
  exact zr
 rw [show kidsI k = -1 by unfold kidsI;rw [if_neg oM,if_neg oM,if_neg oM]]
 have g1:(k==1)=false:=by simpa using h1
 have g2:(k==2)=false:=by simpa using h2
 have g3:(k==3)=false:=by simpa using h3
 have g4:(k==4)=false:=by simpa using h4
 have g5:(k==5)=false:=by simpa using h5
 have g6:(k==6)=false:=by simpa using h6
 have g7:(k==7)=false:=by simpa using h7
 clear h1 h2 h3 h4 h5 h6 h7
 refine zg [] [false,false,false,false,false,false,false] [(k==(1:Int))=false,(k==(2:Int))=false,(k==(3:Int))=false,(k==(4:Int))=false,(k==(5:Int))=false,(k==(6:Int))=false,(k==(7:Int))=false] ⟨aS,aS,aS,aS,aS,aS,(show (k==(7:Int))=false from aS)⟩ ?_
 exact zr
def stopRR (k n:Int) (s:List UInt8) (m d left:Int):Bool:=bif bif bif bif bif bif bif decide (left<(1:Int)) then true else decide (d>(16:Int)) then true else kidsI k != m then true else bif k != (1:Int) then !s==[] else false then true else decide ((s.length:Int)>(1024:Int)) then true else bif k != (2:Int) then n != (0:Int) else false then true else decide (n<(0:Int)) then true else decide (n>(1073741824:Int))
theorem stop_bool:∀ a b e k1 s0 l1 k2 n0 neg big:Bool,(s0=true→l1=false)→(neg=true→n0=false)→(big=true→n0=false)→(big=true→neg=false) →
  (bif bif bif bif bif bif bif a then true else b then true else !e then true else bif !k1 then !s0 else false then true else l1 then true else bif !k2 then !n0 else false then true else neg then true else big) =
  (bif bif a then true else b then true else !(bif bif e then (bif s0 then true else bif k1 then !l1 else false) else false then (bif n0 then true else bif bif k2 then (!neg && !n0) else false then !big else false) else false)):=by decide
theorem stop_eq (t:TT) (d left:Int):stopRR t.k t.n t.s (t.kids.length:Int) d left=stopW t d (64-left+1):=by
 unfold stopRR stopW rightK
 have h1:decide (64-left+1>64)=decide (left<1):=by by_cases h:left<1<;>simp [h]<;>omega
 have h2:(((t.kids.length:Int))==kidsI t.k)=(kidsI t.k==(t.kids.length:Int)):=by rw [Bool.eq_iff_iff];simp only [beq_iff_eq];exact eq_comm
 have h3:decide ((t.s.length:Int)≤1024) = !decide ((t.s.length:Int)>1024):=by by_cases h:(t.s.length:Int)>1024<;>simp [h]<;>omega
 have h4:decide (t.n>0)=(!decide (t.n<0) && !(t.n==0)):=by rw [Bool.eq_iff_iff];simp;omega
 have h5:decide (t.n≤1073741824) = !decide (t.n>1073741824):=by by_cases h:t.n>1073741824<;>simp [h]<;>omega
 show _=(bif bif decide (64-left+1>64) then true else decide (d>16) then true else !(bif bif (t.kids.length:Int)==kidsI t.k then (bif t.s==[] then true else bif t.k==1 then decide ((t.s.length:Int)≤1024) else false) else false then (bif t.n==0 then true else bif bif t.k==2 then decide (t.n>0) else false then decide (t.n≤1073741824) else false) else false))
 rw [h1,h2,h3,h4,h5]
 refine stop_bool _ _ _ _ _ _ _ _ _ _ ?_ ?_ ?_ ?_
 ·intro h;simp at h;simp [h]
 ·intro h;simp at h;simp;omega
 ·intro h;simp at h;simp;omega
 ·intro h;simp at h;simp;omega
def walkV (t:TT) (d left:Int):Int:=if (walkM t d (64-left)).1 then 64-(walkM t d (64-left)).2 else -1
def walkU (l:List TT) (d left:Int):Int:=if (walkL l d (64-left)).1 then 64-(walkL l d (64-left)).2 else -1
theorem walkR_main (t:TT) (x:KT) (d left:Int) (hx:Rep t x) (hl:stopW t d (64-left+1)=false→t.kids.length≤1000000) (hd:0≤d∧d≤17) (hc:0≤left∧left≤64)
  (ih:∀ i,i<t.kids.length→∀ u c,0≤c→c≤64→d+1≤17→Rep (t.kids.getD i .nil) u→Pur Tryz.prog G 180 [.agg (encK u),.c (.int .i64 (d+1)),.c (.int .i64 c)] [.c (.int .i64 (walkV (t.kids.getD i .nil) (d+1) c))]) :
  Pur Tryz.prog G 180 [.agg (encK x),.c (.int .i64 d),.c (.int .i64 left)] [.c (.int .i64 (walkV t d left))]:=by
 refine zp Tryz.func180 ?_
 obtain ⟨a1,a2,a3,a4,a5⟩:=(Rep_eq t x).1 hx
 have c:=kidsR_ok (G:=G) x.k
 have hS:=stop_eq t d left
 rw [← a1,← a2,← a3] at hS
 have hm:(t.kids.length:Int)=(x.m:Int):=by rw [a4]
 rw [hm] at hS
 have hw:=walkM_eq t d (64-left)
 by_cases h0:stopW t d (64-left+1)=true
 ·have h1:stopRR x.k x.n x.s (x.m:Int) d left=true:=hS.trans h0
  rw [if_pos h0] at hw
  have hv:walkV t d left = -1:=by unfold walkV;rw [hw];rfl
  rw [hv]
  unfold stopRR at h1
  clear hS hw hv ih h0
  refine zg [(1,{cs:=[(9,pc c)]})] [true] [(bif bif bif bif bif bif bif decide (left<(1:Int)) then true else decide (d>(16:Int)) then true else kidsI x.k != (x.m:Int) then true else bif x.k != (1:Int) then !x.s==[] else false then true else decide ((x.s.length:Int)>(1024:Int)) then true else bif x.k != (2:Int) then x.n != (0:Int) else false then true else decide (x.n<(0:Int)) then true else decide (x.n>(1073741824:Int)))=true] (oN aS) ?_
  exact zr
 ·have h1:stopRR x.k x.n x.s (x.m:Int) d left=false:=by rw [hS];simpa using h0
  rw [if_neg h0] at hw
  have hl:=hl (by simpa using h0)
  have h3:=(stop3 _ _ _ (by simpa using h0:stopW t d (64-left+1)=false))
  have hl1:1≤left:=by have:=h3.1;simp at this;omega
  have hd1:d≤16:=by have:=h3.2.1;simp at this;omega
  have hv:walkV t d left=walkU t.kids (d+1) (left-1):=by unfold walkV walkU;rw [hw,show 64-(left-1)=64-left+1 by omega]
  rw [hv]
  unfold stopRR at h1
  clear hS hw hv h0 h3
  generalize hR:walkU t.kids (d+1) (left-1)=R
  refine zg [(1,{cs:=[(9,pc c)]})] [false] [(bif bif bif bif bif bif bif decide (left<(1:Int)) then true else decide (d>(16:Int)) then true else kidsI x.k != (x.m:Int) then true else bif x.k != (1:Int) then !x.s==[] else false then true else decide ((x.s.length:Int)>(1024:Int)) then true else bif x.k != (2:Int) then x.n != (0:Int) else false then true else decide (x.n<(0:Int)) then true else decide (x.n>(1073741824:Int)))=false,inR .i64 (left-1)] ⟨aS,i6⟩ ?_
  refine zl (fun (z:Nat×Int)=>⟨[(1,.v (.c (.int .i64 d))),(2,.v (.c (.int .i64 z.2))),(3,.v (.c (.ptr 0 0))),(7,.v (.c (.int .i64 (z.1:Int))))],[(0,.box 64 (encK x))],912⟩) (fun z=>z.1≤t.kids.length ∧ -1≤z.2∧z.2≤64∧(0≤z.2→walkU (t.kids.drop z.1) (d+1) z.2=R)∧(z.2<0→z.2=R)) (fun z=>t.kids.length-z.1) (0,left-1) ⟨Nat.zero_le _,(by show -1≤left-1;omega),(by show left-1≤64;omega),(fun _=>hR),(fun h=>by have h:left-1<0:=h;omega)⟩ ?_
  rintro ⟨i,y⟩ W ⟨hi0,hy1,hy2,hi1,hi2⟩ again
  have hi0:i≤t.kids.length:=hi0
  have hy1 : -1≤y:=hy1
  have hy2:y≤64:=hy2
  have hi1:0≤y→walkU (t.kids.drop i) (d+1) y=R:=hi1
  have hi2:y<0→y=R:=hi2
  by_cases hy:y<0
  ·have hyR:=hi2 hy
   subst hyR
   have hq:(bif decide ((i:Int)<(x.m:Int)) then decide (y≥(0:Int)) else false)=false:=by
    rw [show decide (y≥(0:Int))=false by simp;omega];cases decide ((i:Int)<(x.m:Int))<;>rfl
   clear again ih hR hi1 hi2
   refine zg [] [false] [(bif decide ((i:Int)<(x.m:Int)) then decide (y≥(0:Int)) else false)=false] (oN aS) ?_
   exact zr
  rcases Nat.lt_or_ge i t.kids.length with hi | hi
  ·have hU:=hi1 oM
   unfold walkU at hU
   rw [walkL_drop hi] at hU
   obtain ⟨u,u1,u2⟩:=RepL_at a5 i hi
   rw [Nat.zero_add] at u1
   have c5:=ih i hi u y oM hy2 oM u2
   have e5:EqvD (.agg [x.f i 0,x.f i 1,x.f i 2,x.f i 3]) (.agg (encK u)):=eqvD_of (by rw [u1])
   have hq:(bif decide ((i:Int)<(x.m:Int)) then decide (y≥(0:Int)) else false)=true:=by
    rw [show decide ((i:Int)<(x.m:Int))=true by simp;omega];simp;omega
   have hr:=walkM_rng (t.kids.getD i .nil) (d+1) (64-y) oM oM
   have hf:(walkV (t.kids.getD i .nil) (d+1) y)≤64 ∧ -1≤(walkV (t.kids.getD i .nil) (d+1) y)∧(0≤(walkV (t.kids.getD i .nil) (d+1) y)→walkU (t.kids.drop (i+1)) (d+1) (walkV (t.kids.getD i .nil) (d+1) y)=R)∧((walkV (t.kids.getD i .nil) (d+1) y)<0→(walkV (t.kids.getD i .nil) (d+1) y)=R):=by
    by_cases hw:(walkM (t.kids.getD i .nil) (d+1) (64-y)).1=true
    ·rw [if_pos hw] at hU
     have hr2:=hr.2.2 hw
     have hV:walkV (t.kids.getD i .nil) (d+1) y=64-(walkM (t.kids.getD i .nil) (d+1) (64-y)).2:=if_pos hw
     refine ⟨by omega,by omega,fun _ => ?_,fun h=>by omega⟩
     rw [hV];unfold walkU
     rw [show 64-(64-(walkM (t.kids.getD i .nil) (d+1) (64-y)).2)=(walkM (t.kids.getD i .nil) (d+1) (64-y)).2 by omega]
     exact hU
    ·rw [if_neg hw] at hU
     have hV:walkV (t.kids.getD i .nil) (d+1) y = -1:=if_neg hw
     rw [hV]
     exact ⟨by omega,by omega,fun h=>by omega,fun _=>hU⟩
   generalize walkV (t.kids.getD i .nil) (d+1) y=y' at *
   clear ih a5 u1 u2 hU hR hi1 hi2 hr
   have hI:(i+1,y').1≤t.kids.length ∧ -1≤(i+1,y').2∧(i+1,y').2≤64∧(0≤(i+1,y').2→walkU (t.kids.drop (i+1,y').1) (d+1) (i+1,y').2=R)∧((i+1,y').2<0→(i+1,y').2=R):=⟨hi,hf.2.1,hf.1,hf.2.2.1,hf.2.2.2⟩
   clear hf
   refine zg [(7,{cs:=[(8,pc c5)],fm:=[(4,.agg (encK u))]})] [true] [(bif decide ((i:Int)<(x.m:Int)) then decide (y≥(0:Int)) else false)=true,(0:Int)≤(i:Int)∧(i:Int)<(x.m:Int),EqvD (.agg [x.f i 0,x.f i (0+1),x.f i (0+1+1),x.f i (0+1+1+1)]) (.agg (encK u)),inR .i64 (d+1),inR .i64 ((i:Int)+1)] ⟨aS,oM,aS,i6,i6⟩ ?_
   exact za [] (again _ (i+1,y') oM oM)
  ·obtain rfl:i=t.kids.length:=by omega
   have hU:=hi1 oM
   rw [List.drop_length] at hU
   unfold walkU at hU
   rw [walkL] at hU
   have hyR:y=R:=by rw [← hU];show y=64-(64-y);omega
   subst hyR
   have hq:(bif decide ((t.kids.length:Int)<(x.m:Int)) then decide (y≥(0:Int)) else false)=false:=by
    rw [show decide ((t.kids.length:Int)<(x.m:Int))=false by simp;omega];rfl
   clear again ih hR hi1 hi2 hU
   refine zg [] [false] [(bif decide ((t.kids.length:Int)<(x.m:Int)) then decide (y≥(0:Int)) else false)=false] (oN aS) ?_
   exact zr
theorem walkR_ok {t:TT} (ht:LowR t):∀ (x:KT) (d left:Int),Rep t x→0≤d→d≤17→0≤left→left≤64 →
  Pur Tryz.prog G 180 [.agg (encK x),.c (.int .i64 d),.c (.int .i64 left)] [.c (.int .i64 (walkV t d left))]:=by
 induction ht with
 | @mk t h1 h2 ih =>
  intro x d left hx d0 d1 c0 c1
  exact walkR_main t x d left hx (fun _=>h1) ⟨d0,d1⟩ ⟨c0,c1⟩ fun i hi u c' q0 q1 q2 hu=>ih _ (by rw [List.getD_eq_getElem?_getD,List.getElem?_eq_getElem hi];exact List.getElem_mem hi) u (d+1) c' hu oM q2 q0 q1
theorem mayR_ok {t:TT} (ht:LowR t) (x:KT) (hx:Rep t x):Pur Tryz.prog G 133 [.agg (encK x)] [.c (.bool (mayTT t))]:=by
 refine zp Tryz.func133 ?_
 have c:=walkR_ok (G:=G) ht x 1 64 hx oM oM oM oM
 have hr:=walkM_rng t 1 0 oM oM
 have e:decide (walkV t 1 64≥0)=mayTT t:=by
  unfold mayTT walkV
  rw [show (64:Int)-64=0 by omega]
  by_cases h:(walkM t 1 0).1=true
  ·rw [if_pos h,h];have:=hr.2.2 h;simp;omega
  ·rw [if_neg h,Bool.eq_false_iff.2 h];rfl
 rw [← e]
 refine z0 [(1,{cs:=[(1,pc c)]})] [] ?_
 exact zr
theorem putP_no {t:TT} (ht:LowR t) (x:KT) (hx:Rep t x) (hm:mayTT t=false):Pur Tryz.prog G 87 [.agg (encK x)] [.c .nilsl]:=by
 refine zp Tryz.func87 ?_
 have c:=mayT_ok (G:=G) ht x hx
 rw [hm] at c
 refine zg [(1,{cs:=[(1,pc c)]})] [true] [(!false)=true] rfl ?_
 exact zr
theorem putR_no {t:TT} (ht:LowR t) (x:KT) (hx:Rep t x) (hm:mayTT t=false):Pur Tryz.prog G 81 [.agg (encK x)] [.c .nilsl]:=by
 refine zp Tryz.func81 ?_
 have c:=mayR_ok (G:=G) ht x hx
 rw [hm] at c
 refine zg [(1,{cs:=[(1,pc c)]})] [true] [(!false)=true] rfl ?_
 exact zr
theorem putP_ok {t:TT} (ht:LowR t) (x:KT) (hx:Rep t x) (hm:mayTT t=true):FnB Tryz.prog G 87 [] [.agg (encK x)] [.c (.row 1 0 0 (putB t).length)] [(0,.row 5 1 (putB t).length (bytesF (putB t)))]:=by
 refine zf Tryz.func87 ?_
 have c:=mayT_ok (G:=G) ht x hx
 rw [hm] at c
 have c2:=putsP_ok (G:=G) ht (may_okP hm).1 x hx (by have:=(may_okP hm).2;omega)
 refine zg [(1,{cs:=[(1,pc c)]}),(3,{cs:=[(1,cb [] c2)]})] [false] [(!true)=false] rfl ?_
 exact zb [96]
theorem putR_ok {t:TT} (ht:LowR t) (x:KT) (hx:Rep t x) (hm:mayTT t=true):FnB Tryz.prog G 81 [] [.agg (encK x)] [.c (.row 1 0 0 (putB t).length)] [(0,.row 5 1 (putB t).length (bytesF (putB t)))]:=by
 refine zf Tryz.func81 ?_
 have c:=mayR_ok (G:=G) ht x hx
 rw [hm] at c
 have c2:=putsR_ok (G:=G) ht (may_okP hm).1 x hx (by have:=(may_okP hm).2;omega)
 refine zg [(1,{cs:=[(1,pc c)]}),(3,{cs:=[(1,cb [] c2)]})] [false] [(!true)=false] rfl ?_
 exact zb [96]
end Go.Proofs.Tw
end
section
namespace Go.Proofs
open Go.Shelf
def Tryz.laysSort_ren:Go.Shelf.Ren:=⟨fun | 6=>150 | 15=>193 | 14=>192 | 28=>237 | 29=>238 | 20=>229 | 21=>230 | 22=>231 | 23=>232 | 24=>233 | 25=>234 | 26=>235 | 27=>236 | 46=>264 | 47=>265 | 48=>266 | 49=>267 | 50=>268 | 57=>277 | n=>n,fun | 22=>62 | 24=>64 | 25=>127 | 3=>3 | 39=>205 | 0=>0 | 53=>244 | 55=>246 | 4=>4 | 46=>238 | 45=>237 | 50=>71 | 5=>5 | 9=>9 | 66=>270 | 70=>274 | 76=>281 | 77=>222 | n=>n,fun | n=>n⟩
theorem Tryz.laysSort:Go.Proofs.SlLaysF0.n6 Tryz.prog Tryz.laysSort_ren:={
 mixed:=by kernel_rfl
 f6:=⟨Tryz.f150.name,by decide,Tryz.func150.trans (congrArg some (by kernel_rfl))⟩
 f14:=⟨Tryz.f192.name,by decide,Tryz.func192.trans (congrArg some (by kernel_rfl))⟩
 f15:=Tryz.func193.trans (congrArg some (by kernel_rfl))
 f20:=⟨Tryz.f229.name,by decide,Tryz.func229.trans (congrArg some (by kernel_rfl))⟩
 f21:=⟨Tryz.f230.name,by decide,Tryz.func230.trans (congrArg some (by kernel_rfl))⟩
 f22:=⟨Tryz.f231.name,by decide,Tryz.func231.trans (congrArg some (by kernel_rfl))⟩
 f23:=⟨Tryz.f232.name,by decide,Tryz.func232.trans (congrArg some (by kernel_rfl))⟩
 f24:=⟨Tryz.f233.name,by decide,Tryz.func233.trans (congrArg some (by kernel_rfl))⟩
 f25:=⟨Tryz.f234.name,by decide,Tryz.func234.trans (congrArg some (by kernel_rfl))⟩
 f26:=⟨Tryz.f235.name,by decide,Tryz.func235.trans (congrArg some (by kernel_rfl))⟩
 f27:=⟨Tryz.f236.name,by decide,Tryz.func236.trans (congrArg some (by kernel_rfl))⟩
 f28:=Tryz.func237.trans (congrArg some (by kernel_rfl))
 f29:=Tryz.func238.trans (congrArg some (by kernel_rfl))
 f46:=⟨Tryz.f264.name,by decide,Tryz.func264.trans (congrArg some (by kernel_rfl))⟩
 f47:=Tryz.func265.trans (congrArg some (by kernel_rfl))
 f48:=Tryz.func266.trans (congrArg some (by kernel_rfl))
 f49:=⟨Tryz.f267.name,by decide,Tryz.func267.trans (congrArg some (by kernel_rfl))⟩
 f50:=⟨Tryz.f268.name,by decide,Tryz.func268.trans (congrArg some (by kernel_rfl))⟩
 f57:=⟨Tryz.f277.name,by decide,Tryz.func277.trans (congrArg some (by kernel_rfl))⟩
 t0:=Tryz.underlying0
 a0:=Tryz.isAgg0
 z0:=Tryz.sizeOf0
 v0:=Tryz.zeroValue0
 t3:=Tryz.underlying3
 a3:=Tryz.isAgg3
 z3:=Tryz.sizeOf3
 v3:=Tryz.zeroValue3
 t4:=Tryz.underlying4
 a4:=Tryz.isAgg4
 z4:=Tryz.sizeOf4
 v4:=Tryz.zeroValue4
 t5:=Tryz.underlying5
 a5:=Tryz.isAgg5
 z5:=Tryz.sizeOf5
 v5:=Tryz.zeroValue5
 t9:=Tryz.underlying9
 a9:=Tryz.isAgg9
 z9:=Tryz.sizeOf9
 v9:=Tryz.zeroValue9
 t22:=Tryz.underlying62
 a22:=Tryz.isAgg62
 z22:=Tryz.sizeOf62
 v22:=Tryz.zeroValue62
 t25:=Tryz.underlying127
 a25:=Tryz.isAgg127
 z25:=Tryz.sizeOf127
 v25:=Tryz.zeroValue127
 t39:=Tryz.underlying205
 a39:=Tryz.isAgg205
 z39:=Tryz.sizeOf205
 v39:=Tryz.zeroValue205
 t45:=Tryz.underlying237
 a45:=Tryz.isAgg237
 z45:=Tryz.sizeOf237
 v45:=Tryz.zeroValue237
 t46:=Tryz.underlying238
 a46:=Tryz.isAgg238
 z46:=Tryz.sizeOf238
 v46:=Tryz.zeroValue238
 t50:=Tryz.underlying71
 a50:=Tryz.isAgg71
 z50:=Tryz.sizeOf71
 v50:=Tryz.zeroValue71
 t53:=Tryz.underlying244
 a53:=Tryz.isAgg244
 z53:=Tryz.sizeOf244
 v53:=Tryz.zeroValue244
 t55:=Tryz.underlying246
 a55:=Tryz.isAgg246
 z55:=Tryz.sizeOf246
 v55:=Tryz.zeroValue246
 t66:=Tryz.underlying270
 a66:=Tryz.isAgg270
 z66:=Tryz.sizeOf270
 v66:=Tryz.zeroValue270
 t70:=Tryz.underlying274
 a70:=Tryz.isAgg274
 z70:=Tryz.sizeOf274
 v70:=Tryz.zeroValue274
 t76:=Tryz.underlying281
 a76:=Tryz.isAgg281
 z76:=Tryz.sizeOf281
 v76:=Tryz.zeroValue281
 t77:=Tryz.underlying222
 a77:=Tryz.isAgg222
 z77:=Tryz.sizeOf222
 v77:=Tryz.zeroValue222 }
end Go.Proofs
end
section
open Go Go.Sv Go.RowKit
namespace Go.Proofs.Tw
set_option maxRecDepth 100000
set_option maxHeartbeats 4000000
def Gb:Nat→Option (List Cell)
 | 1000000007=>some []
 | _=>none
theorem Gb_no:NoBack Gb:=rfl
theorem Gb_ok (D:Dat):GlobOk Gb D:=by
 intro g cs h j x hx
 unfold Gb at h
 split at h
 ·simp at h;subst h;simp at hx
 ·cases h
theorem Gb_w (w:World):GlobW Gb w:=by
 intro g cs h hne
 unfold Gb at h
 split at h
 ·simp at h;subst h;exact absurd rfl hne
 ·cases h
theorem world_grown {w w':World} (h:∀ b,b<w.heap.size→w'.heap[b]?=w.heap[b]?) (hs:w.heap.size≤w'.heap.size) (h1:w'.os=w.os) (h2:w'.tape=w.tape) (h3:w'.output=w.output) (hd:w.drawn≤w'.drawn) :
  w'=Go.Sort.grow (w.drewN (w'.drawn-w.drawn)) (w'.heap.extract w.heap.size w'.heap.size):=by
 have hh:w'.heap=w.heap++w'.heap.extract w.heap.size w'.heap.size:=by
  apply Array.ext_getElem?
  intro i
  rw [Array.getElem?_append]
  by_cases hi:i<w.heap.size
  ·rw [if_pos hi,h i hi]
  ·rw [if_neg hi,Array.getElem?_extract]
   by_cases h2:i<w'.heap.size
   ·rw [if_pos oM];congr 1;omega
   ·rw [if_neg oM,Array.getElem?_eq_none oM]
 have hdr:w'.drawn=w.drawn+(w'.drawn-w.drawn):=by omega
 obtain ⟨a,b,c,d,e⟩:=w'
 simp only at *
 subst h1;subst h2;subst h3
 show (⟨a,_,c,_,_⟩:World)=⟨w.heap++_,w.tape,w.drawn+(c-w.drawn),w.os,w.output⟩
 rw [← hdr,← hh]
structure EK (D:Dat) where
 t:TT
 x:KT
 v:List Value
 low:LowR t
 rep:Rep t x
 len:v.length=4
 den:∀ (j:Nat) (c:Cell),(encK x)[j]?=some c→∃ u,v.toArray[j]?=some u∧Den D rho0 c u
def EK.nil (D:Dat):EK D where
 t := .nil
 x:=KT.nil
 v:=[.int .i64 0,.int .i64 0,.string ⟨#[]⟩,.slice none 0 0]
 low := .mk (by show 0≤_;omega) (fun x hx=>by cases hx)
 rep:=by rw [TT.nil,Rep];exact ⟨rfl,rfl,rfl,rfl,by rw [RepL];trivial⟩
 len:=rfl
 den:=fun j c h=>by
  match j,h with
  | 0,h=>cases h; exact ⟨_,rfl,rfl⟩
  | 1,h=>cases h; exact ⟨_,rfl,rfl⟩
  | 2,h=>cases h; exact ⟨_,rfl,rfl⟩
  | 3,h=>cases h; exact ⟨_,rfl,none,0,rfl,Nat.le_refl _,Nat.zero_le _,.inl rfl⟩
  | _+4,h=>cases h
instance instInhabitedEK (D:Dat):Inhabited (EK D):=⟨EK.nil D⟩
def cfE {D:Dat} (a b:EK D):Int:=cmpT a.t b.t
theorem swoE (D:Dat):Go.Sort.SWO (ltOf (cfE (D:=D))) where
 irrefl x:=by unfold ltOf cfE;rw [cmpT_self];rfl
 trans x y z h1 h2:=by
  unfold ltOf cfE at *
  simp only [decide_eq_true_eq] at *
  exact cmpT_trans h1 h2
 ntrans x y z h1 h2:=by
  unfold ltOf cfE at *
  simp only [decide_eq_false_iff_not] at *
  intro h
  by_cases e1:cmpT x.t y.t=0
  ·rw [cmpT_iff.1 e1] at h;exact h2 h
  ·by_cases e2:cmpT y.t z.t=0
   ·rw [← cmpT_iff.1 e2] at h;exact h1 h
   ·have k1:cmpT y.t x.t<0:=(cmpT_anti _ _).2 oM
    have k2:cmpT z.t y.t<0:=(cmpT_anti _ _).2 oM
    have k3:=cmpT_trans k2 k1
    have k4:=(cmpT_anti _ _).1 k3
    omega
theorem cmpLays (D:Dat) (blk off size:Nat) (w:World) (hag:∀ (m:Nat) (os:Array Obj) (dk:Array (EK D)),dk.size=size→Agree D (sortWorldK EK.v 4 w blk off m dk os)) :
  CmpLays Tryz.prog 151 #[] (EK.v (D:=D)) 4 cfE blk off size w:=by
 intro m os dk hdk x y
 have hp:=compare_ok (G:=Gb) x.low x.x y.x y.low x.rep y.rep
 unfold Pur Go.Sv.Fn at hp
 have hc:=hp D rho0 (sortWorldK EK.v 4 w blk off m dk os) #[.agg x.v.toArray,.agg y.v.toArray] ⟨rfl,fun j c h=>by
  match j,h with
  | 0,h=>cases h; exact ⟨_,rfl,_,rfl,by simp [x.len,encK],x.den⟩
  | 1,h=>cases h; exact ⟨_,rfl,_,rfl,by simp [y.len,encK],y.den⟩
  | _+2,h=>cases h⟩ (Gb_ok D) (Gb_w _) (hag m os dk hdk) (fun i b h=>by simp at h) (fun i j bi bj h=>by simp at h)
 refine hc.mono ?_
 rintro e w' ⟨rs,ho,D',ρ',v,rfl,⟨rfl,rfl⟩,hr,_,af⟩
 have hv:v = .int .i64 (cmpT x.t y.t):=hr
 subst hv
 refine ⟨rfl,_,_,world_grown (fun b hb=>af.frame b hb (fun i hi=>absurd hi (Nat.not_lt_zero i))) af.grow af.os af.tape af.output (af.drawn Gb_no)⟩
end Go.Proofs.Tw
end
section
open Go Go.Sv Go.RowKit
namespace Go.Proofs.Tw
attribute [local irreducible] Wp FinQ resV Ent Pur Go.Sv.Fn Sat0
set_option maxRecDepth 100000
set_option maxHeartbeats 4000000
variable {G:Nat→Option (List Cell)} [Back G]
theorem Pur.of_own {P:Program} {f:FuncId} {args:List V1} {n:Nat} {F:Nat→Nat→Cell} (hn:n≤maxLen)
  (h:∀ (D:Dat) (ρ:Rho) (w:World) (vs:Array Value),DenL D ρ args vs→GlobOk G D→GlobW G w→Agree D w →
   Calls P f vs w fun e w'=>∃ (A:Nat) (arr:Array Value) (t:TypeId) (fz:Nat×Nat),e = .returned (.slice (some ⟨A,0,none⟩) n n)∧w.heap.size≤A∧w'.heap[A]?=some (.cells arr t fz)∧BelowD G w.heap.size w w' ∧
    ∀ i,i<n→∃ u,arr[i]?=some u∧∀ D,Den D rho0 (F i 0) u):Pur P G f args [.c (.sl 1 n F)]:=by
 unfold Pur Go.Sv.Fn
 intro D ρ w vs h1 h2 hgw h3 _ _
 refine (h D ρ w vs h1 h2 hgw h3).mono ?_
 rintro e w' ⟨A,arr,t,fz,rfl,hA,hh,hb,hden⟩
 let D':Dat:=fun b o=>if b=A then arr[o]? else D b o
 have hDn:∀ b o v,D b o=some v→b<w.heap.size:=fun b o v hv=>heap_of_cell (h3 b o v hv)
 have hle:DatLe D D':=by
  intro b o v hv
  have:=hDn b o v hv
  show (if b=A then arr[o]? else D b o)=some v
  rw [if_neg oM];exact hv
 refine ⟨[.c (.sl 1 n F)],[],D',ρ,_,rfl,⟨rfl,rfl⟩,?_,fun j x hj=>flatsV_inS rfl j x hj,?_⟩
 ·show Den D' ρ (.sl 1 n F) _
  refine ⟨_,_,rfl,Nat.le_refl _,hn,.inr ⟨A,0,rfl,fun i hi j hj => ?_⟩⟩
  obtain rfl:j=0:=by omega
  obtain ⟨u,hu,hd⟩:=hden i hi
  refine ⟨u,?_,hd D'⟩
  show (if A=A then arr[0+i*1+0]? else _)=_
  rw [if_pos rfl,← hu]
  congr 1;omega
 have ag:Agree D' w':=by
  intro b o v hv
  have hv:(if b=A then arr[o]? else D b o)=some v:=hv
  by_cases e:b=A
  ·rw [if_pos e] at hv
   rw [e]
   simp only [World.cell?,hh,Option.isSome_none,Bool.false_eq_true,if_false]
   exact hv
  ·rw [if_neg e] at hv
   rw [cell_block (hb.block b (hDn b o v hv))]
   exact h3 b o v hv
 exact {
  hp:=fun id b hb=>by cases (show none=some b from hb)
  inj:=fun i j bi bj hi=>by cases (show none=some bi from hi)
  sep:=fun id b hb=>by cases (show none=some b from hb)
  agree:=ag
  le:=hle
  kin:=fun i hi=>rfl
  own:=fun id b hb=>by cases (show none=some b from hb)
  newD:=fun b o v hv=>by
   have hv:(if b=A then arr[o]? else D b o)=some v:=hv
   split at hv
   ·rename_i e;right;left;omega
   ·exact .inl hv
  frame:=fun b hlt _=>hb.block b hlt
  os:=hb.os
  tape:=hb.tape
  output:=hb.output
  grow:=hb.size
  drawn:=hb.drawn
  ids:=fun id b hb=>by cases (show none=some b from hb) }
theorem sg_sixty (c:UInt8):sixtyB c=sgB c:=eq_of_beq (byte_all (fun c=>sixtyB c==sgB c) kR c)
theorem pred_ok (x:Nat) (hx:x≤1114111):Pur Tryz.prog G 92 [.c (.int .i32 (x:Int))] [.c (.bool (runP x))]:=by
 refine zp Tryz.func92 ?_
 unfold runP
 by_cases h:127<x
 ·have h1:decide ((x:Int)>127)=true:=by simp;omega
  have h2:decide (127<x)=true:=by simpa using h
  rw [h2,Bool.true_or]
  refine zg [(1,{grd:=[(3,false),(4,false),(5,false),(6,false),(7,true)]})] [] [decide ((x:Int)>127) = !false,decide ((x:Int)>127) = !false,decide ((x:Int)>127) = !false,decide ((x:Int)>127) = !false,decide ((x:Int)>127)=true] ⟨aS,aS,aS,aS,(show decide ((↑x:Int)>(127:Int))=true from aS)⟩ ?_
  exact zr
 ·have h1:decide ((x:Int)>127)=false:=by simp;omega
  have h2:decide (127<x)=false:=by simpa using h
  rw [h2,Bool.false_or]
  have c:=sixty_ok (G:=G) (UInt8.ofNat x)
  rw [sg_sixty] at c
  have hu:((UInt8.ofNat x).toNat:Int)=(x:Int):=by simp;omega
  have e1:EqvD (.c (.int .u8 (IntKind.u8.wrap (x:Int)))) (.c (.int .u8 ((UInt8.ofNat x).toNat:Int))):=eqvD_of (by rw [hu,wrap8u oM])
  generalize sgB (UInt8.ofNat x)=b at *
  generalize UInt8.ofNat x=y at *
  refine zg [(1,{cs:=[(5,pc c)],fm:=[(4,.c (.int .u8 (y.toNat:Int)))]})] [] [EqvI (.c (.int .u8 (IntKind.u8.wrap (x:Int)))) (.c (.int .u8 (y.toNat:Int))),decide ((x:Int)>(127:Int))=false→EqvD (.c (.int .u8 (IntKind.u8.wrap (x:Int)))) (.c (.int .u8 (y.toNat:Int)))] ⟨fun _ _=>trivial,(show decide ((↑x:Int)>(127:Int))=false→EqvD (.c (.int .u8 (IntKind.u8.wrap (↑x:Int)))) (.c (.int .u8 (↑y.toNat:Int))) from (by intro _;assumption))⟩ ?_
  exact zS [.c (.bool (bif decide ((↑x:Int)>(127:Int)) then true else !b))] (by simp [*];done)
def G0:Nat→Option (List Cell):=fun _=>none
theorem G0_back:Back G0:=⟨fun h=>by cases h⟩
theorem pred_grows (w:World):Go.Proofs.PredGrows Tryz.prog 92 #[] runP w:=by
 intro W x hx _
 have hp:=@pred_ok G0 G0_back x hx
 unfold Pur Go.Sv.Fn at hp
 have hc:=hp (fun _ _=>none) rho0 W #[.int .i32 (x:Int)] ⟨rfl,fun j c h=>by
  match j,h with
  | 0,h=>cases h; exact ⟨_,rfl,rfl⟩
  | _+1,h=>cases h⟩ (fun g cs h=>by cases h) (fun g cs h=>by cases h) (fun b o v h=>by cases h) (fun i b h=>by simp at h) (fun i j bi bj h=>by simp at h)
 refine hc.mono ?_
 rintro e w' ⟨rs,ho,D',ρ',v,rfl,⟨rfl,rfl⟩,hr,_,af⟩
 have hv:v = .bool (runP x):=hr
 subst hv
 exact ⟨rfl,⟨af.os,af.tape,af.output,af.grow,fun b hb=>af.frame b hb (fun i hi=>absurd hi (Nat.not_lt_zero i))⟩⟩
theorem runsF_len:∀ (s cur:List UInt8),(runsF s cur).length≤s.length+1
 | [],cur=>by rw [runsF]; split<;>simp
 | c::r,cur=>by
  rw [runsF];split
  ·have:=runsF_len r (cur++[c]);simp;omega
  ·have:=runsF_len r []
   split
   ·simp;omega
   ·simp;omega
theorem fields_ok (s:List UInt8) (hs:s.length≤4294967296):Pur Tryz.prog G 91 [.c (.str s),.c (fnC 92)] [.c (.sl 1 (runsF s []).length (strsF (runsF s [])))]:=by
 have hm:=fields_runs s
 have hlen:(runsF s []).length=(Lib.goFieldsP runP ⟨s.toArray⟩).length:=by rw [← hm,List.length_map]
 have hmx:(runsF s []).length≤maxLen:=by have:=runsF_len s [];unfold maxLen;omega
 refine Pur.of_own hmx ?_
 intro D ρ w vs h1 k1 _ k3
 obtain ⟨u,v,rfl,hu,hv⟩:=h1.two
 have hu:u = .string ⟨s.toArray⟩:=hu
 have hv:v = .func (.func 92) #[] #[]:=by
  obtain ⟨us,e,hs0,_⟩:=(hv:Den D ρ (fnC 92) v)
  have:us=#[]:=Array.size_eq_zero_iff.1 hs0
  subst this;exact e
 subst hu hv
 refine (Go.Proofs.Any.strings_FieldsFunc_grows Go.Proofs.Tryz.lays229 92 #[] (enters_of Tryz.func92 kR rfl) runP ⟨s.toArray⟩ w (by rw [size_lt];exact hs) (pred_grows w) kR kR).mono ?_
 rintro e w' ⟨A,rfl,hA,⟨_,hown⟩,hb⟩
 rcases hown with ⟨h,_⟩ | ⟨g,cap,cur,hv,_,hg,hcap,hmax,hsz,hcur⟩
 ·cases h
 ·cases hv
  refine ⟨A,cur,_,_,by rw [hlen],hA,hg,BelowD.of hb,fun i hi => ?_⟩
  have hi2:i<(Lib.goFieldsP runP ⟨s.toArray⟩).length:=by rw [← hlen];exact hi
  have hg1:cur.toList[i]?=some (.string (Lib.goFieldsP runP ⟨s.toArray⟩)[i]):=by
   have:=congrArg (fun l=>l[i]?) hcur
   rw [List.getElem?_take,if_pos oM,List.getElem?_map,List.getElem?_eq_getElem hi2] at this
   exact this
  refine ⟨_,by simpa using hg1,fun D => ?_⟩
  have:(runsF s []).getD i []=(Lib.goFieldsP runP ⟨s.toArray⟩)[i].data.toList:=by
   rw [← hm];simp [List.getD,hi2]
  show _=Value.string ⟨((runsF s []).getD i []).toArray⟩
  rw [this]
end Go.Proofs.Tw
end
section
open Go Go.Sv Go.RowKit
namespace Go.Proofs.Tw
set_option maxRecDepth 100000
set_option maxHeartbeats 4000000
def pairE {D:Dat} (e:EK D):TT×KT:=(e.t,e.x)
theorem sorted_one {D:Dat} {l l':List (TT×KT)} {d d':Array (EK D)} (hd:d.toList.map pairE=l) (hp:l'.Perm l) (hs:l'.Pairwise (fun a b=>cmpT a.1 b.1<0))
  (h1:Go.Sort.PermIn 0 d.size d d') (h2:Go.Sort.SortedIn (ltOf (cfE (D:=D))) 0 d.size d'):d'.toList.map pairE=l':=by
 obtain ⟨e1,_,e3⟩:=h1
 have e3:d'.toList.Perm d.toList:=by
  have a:d'.extract 0 d.size=d':=by rw [← e1];simp
  have b:d.extract 0 d.size=d:=by simp
  rw [a,b] at e3;exact e3
 have hperm:(d'.toList.map pairE).Perm l':=((e3.map pairE).trans (by rw [hd])).trans hp.symm
 have hsort:(d'.toList.map pairE).Pairwise (fun a b=>¬ cmpT b.1 a.1<0):=by
  rw [List.pairwise_iff_getElem]
  intro i j hi hj hij
  simp only [List.length_map,Array.length_toList] at hi hj
  have:=h2 i j (Nat.zero_le _) hij oM
  rw [getElem!_pos d' i hi,getElem!_pos d' j hj] at this
  unfold ltOf cfE at this
  simp only [decide_eq_false_iff_not] at this
  simpa [pairE] using this
 refine List.Perm.eq_of_pairwise (le:=fun a b=>¬ cmpT b.1 a.1<0) ?_ hsort (hs.imp fun {a b} h=>by
  have:=(cmpT_anti a.1 b.1).1 h;omega) hperm
 intro a b ha hb hab hba
 have ht:a.1=b.1:=by
  rw [← cmpT_iff]
  have k1:=cmpT_anti a.1 b.1
  have k2:=cmpT_anti b.1 a.1
  have k3:=cmpT_rng a.1 b.1
  have k4:=cmpT_rng b.1 a.1
  omega
 have ha':a∈l':=hperm.mem_iff.1 ha
 obtain ⟨i,hi,rfl⟩:=List.mem_iff_getElem.1 ha'
 obtain ⟨j,hj,rfl⟩:=List.mem_iff_getElem.1 hb
 rw [List.pairwise_iff_getElem] at hs
 rcases Nat.lt_trichotomy i j with h | h | h
 ·have:=hs i j hi hj h
  rw [ht,cmpT_self] at this;omega
 ·subst h;rfl
 ·have:=hs j i hj hi h
  rw [ht,cmpT_self] at this;omega
end Go.Proofs.Tw
end
section
open Go Go.Sv Go.RowKit
namespace Go.Proofs.Tw
set_option maxRecDepth 100000
set_option maxHeartbeats 4000000
variable {G:Nat→Option (List Cell)}
theorem nth4 (x:KT) (j:Nat) (hj:j<4):(encK x)[j]?=some (nthD (encK x) j):=by
 match j,hj with
 | 0,_=>rfl
 | 1,_=>rfl
 | 2,_=>rfl
 | 3,_=>rfl
theorem elems {D:Dat} {l:List (TT×KT)} (hl:∀ p∈l,LowR p.1∧Rep p.1 p.2) {vs:Array Value}
  (h:∀ i,i<l.length→∀ j,j<4→∃ u,vs[i*4+j]?=some u∧Den D rho0 (rowF encK .nil (l.map Prod.snd) i j) u) :
  ∃ d:Array (EK D),d.toList.map pairE=l∧d.size=l.length∧∀ i,i<l.length→∀ j,j<4→vs[i*4+j]?=(d[i]!.v)[j]?:=by
 have key:∀ i:Fin l.length,∃ e:EK D,pairE e=l[i]∧∀ j,j<4→vs[i.val*4+j]?=e.v[j]?:=by
  rintro ⟨i,hi⟩
  have hx:∀ j,rowF encK .nil (l.map Prod.snd) i j=nthD (encK l[i].2) j:=by
   intro j;unfold rowF;rw [List.getD_eq_getElem?_getD,List.getElem?_map,List.getElem?_eq_getElem hi];rfl
  obtain ⟨u0,a0,b0⟩:=h i hi 0 oM
  obtain ⟨u1,a1,b1⟩:=h i hi 1 oM
  obtain ⟨u2,a2,b2⟩:=h i hi 2 oM
  obtain ⟨u3,a3,b3⟩:=h i hi 3 oM
  rw [hx] at b0 b1 b2 b3
  obtain ⟨k1,k2⟩:=hl _ (List.getElem_mem hi)
  refine ⟨⟨l[i].1,l[i].2,[u0,u1,u2,u3],k1,k2,rfl,fun j c hc => ?_⟩,rfl,fun j hj => ?_⟩
  ·match j,hc with
   | 0,hc=>cases hc; exact ⟨_,rfl,b0⟩
   | 1,hc=>cases hc; exact ⟨_,rfl,b1⟩
   | 2,hc=>cases hc; exact ⟨_,rfl,b2⟩
   | 3,hc=>cases hc; exact ⟨_,rfl,b3⟩
   | _+4,hc=>cases hc
  ·match j,hj with
   | 0,_=>exact a0
   | 1,_=>exact a1
   | 2,_=>exact a2
   | 3,_=>exact a3
 refine ⟨Array.ofFn fun i=>Classical.choose (key i),?_,by simp,fun i hi j hj => ?_⟩
 ·apply List.ext_getElem
  ·simp
  ·intro i h1 h2
   simp only [List.getElem_map,Array.getElem_toList,Array.getElem_ofFn]
   exact (Classical.choose_spec (key ⟨i,h2⟩)).1
 ·rw [getElem!_pos _ i (by simpa using hi),Array.getElem_ofFn]
  exact (Classical.choose_spec (key ⟨i,hi⟩)).2 j hj
end Go.Proofs.Tw
end
section
open Go Go.Sv Go.RowKit
namespace Go.Proofs.Tw
set_option maxRecDepth 100000
set_option maxHeartbeats 4000000
variable {G:Nat→Option (List Cell)}
theorem flatE_get {D:Dat} (d:Array (EK D)) (i j:Nat) (hi:i<d.size) (hj:j<4):(Go.Sort.flatK EK.v 4 d)[i*4+j]! = (d[i]!.v)[j]!:=by
 rw [Go.Sort.get_flatK _ _ _ _ oM]
 rw [show (i*4+j) / 4=i by omega,show (i*4+j)%4=j by omega]
theorem agree_sort {D:Dat} {w:World} {blk:Nat} (ha:Agree D w) (hb:∀ o,D blk o=none) (hblk:blk<w.heap.size) (m:Nat) (os:Array Obj) (dk:Array (EK D)):Agree D (sortWorldK EK.v 4 w blk 0 m dk os):=by
 intro b o v hv
 have hne:b≠blk:=by rintro rfl;rw [hb o] at hv;cases hv
 have hc:=ha b o v hv
 have hlt:=heap_of_cell hc
 unfold sortWorldK
 rw [Go.Sort.cell?_grow _ _ _ (by simpa [Go.Sort.putRowK,Go.Sort.putRow,Go.Sort.mapBlock,Go.Sort.ahead] using hlt),Go.Sort.cell?_putRowK_other _ _ _ _ _ _ _ hne]
 exact hc
theorem EK.one {D:Dat} (e:EK D):∀ v∈e.v,v.oneCell'=true:=by
 intro v hv
 obtain ⟨i,hi,rfl⟩:=List.mem_iff_getElem.1 hv
 have hl:=e.len
 have hd:∀ (j:Nat) (c:Cell),(encK e.x)[j]?=some c→∃ u,e.v[j]?=some u∧Den D rho0 c u:=fun j c h=>by
  obtain ⟨u,h1,h2⟩:=e.den j c h
  exact ⟨u,by simpa using h1,h2⟩
 have hlt:i<4:=by omega
 match i,hlt,hi with
 | 0,_,hi=>obtain ⟨u,h1,h2⟩:=hd 0 _ rfl; rw [List.getElem?_eq_getElem hi] at h1; cases h1; rw [(h2:e.v[0] = .int .i64 e.x.k)]; rfl
 | 1,_,hi=>obtain ⟨u,h1,h2⟩:=hd 1 _ rfl; rw [List.getElem?_eq_getElem hi] at h1; cases h1; rw [(h2:e.v[1] = .int .i64 e.x.n)]; rfl
 | 2,_,hi=>obtain ⟨u,h1,h2⟩:=hd 2 _ rfl; rw [List.getElem?_eq_getElem hi] at h1; cases h1; rw [(h2:e.v[2] = .string ⟨e.x.s.toArray⟩)]; rfl
 | 3,_,hi =>
  obtain ⟨u,h1,h2⟩:=hd 3 _ rfl;rw [List.getElem?_eq_getElem hi] at h1;cases h1
  obtain ⟨a,cap,h3,_⟩:=(h2:Den D rho0 (.sl 4 e.x.m e.x.f) e.v[3])
  rw [h3];rfl
theorem sort_ok (l l':List (TT×KT)) (hl:∀ p∈l,LowR p.1∧Rep p.1 p.2) (hp:l'.Perm l) (hs:l'.Pairwise (fun a b=>cmpT a.1 b.1<0)) (h0:0<l.length) (hn:l.length≤1000000) :
  FnB Tryz.prog G 150 [.row 64 4 l.length (rowF encK .nil (l.map Prod.snd))] [.c (.row 4 0 0 l.length),.c (fnC 151)] [] [(0,.row 64 4 l.length (rowF encK .nil (l'.map Prod.snd)))]:=by
 intro D ρ w vs h1 h2 hgw h3 h4 h5
 obtain ⟨hb,hsep⟩:=h4 0 _ rfl
 rcases hb with ⟨_,hz,_⟩ | ⟨arr,fz,hh,hsz,hcl,hnc,hcm,_,hone,hel⟩
 ·omega
 have hlive:(ρ 0).2≠0:=by omega
 obtain ⟨v0,q0,d0⟩:=h1.2 0 _ rfl
 obtain ⟨v1,q1,d1⟩:=h1.2 1 _ rfl
 have hv:vs=#[v0,v1]:=by
  apply Array.ext_getElem?
  intro i
  match i with
  | 0=>exact q0
  | 1=>exact q1
  | _+2=>rw [Array.getElem?_eq_none (by have:=h1.1; simp at this; omega)]; rfl
 have e0:v0 = .slice (some ⟨(ρ 0).1,0,none⟩) l.length (ρ 0).2:=by
  rcases (d0:Den D ρ (.row 4 0 0 l.length) v0) with ⟨o,e,_,ho⟩ | ⟨hz,_⟩
  ·have:o=0:=by omega
   subst this;simpa using e
  ·exact absurd hz hlive
 have e1:v1 = .func (.func 151) #[] #[]:=by
  obtain ⟨us,e,hs0,_⟩:=(d1:Den D ρ (fnC 151) v1)
  have:us=#[]:=Array.size_eq_zero_iff.1 hs0
  subst this;exact e
 subst hv;subst e0;subst e1
 have hblk:(ρ 0).1<w.heap.size:=by
  rcases Nat.lt_or_ge (ρ 0).1 w.heap.size with h | h
  ·exact h
  ·rw [Array.getElem?_eq_none h] at hh;cases hh
 obtain ⟨d,hd1,hd2,hd3⟩:=elems (D:=D) hl hel
 have hds:d.size=l.length:=hd2
 have hget:∀ i,i<l.length→∀ j,j<4→arr[i*4+j]?=some (Go.Sort.flatK EK.v 4 d)[i*4+j]!:=by
  intro i hi j hj
  rw [flatE_get d i j oM hj,hd3 i hi j hj]
  have:=(d[i]!).len
  rw [List.getElem?_eq_getElem oM,getElem!_pos _ j oM]
 have hH:Go.Sort.HoldsK (EK.v (D:=D)) 4 w (ρ 0).1 0 d:=by
  intro t ht
  rw [Go.Sort.size_flatK,hds] at ht
  have:=hget (t / 4) oM (t%4) oM
  rw [show t / 4*4+t%4=t by omega] at this
  refine ⟨?_,?_⟩
  ·rw [Nat.zero_add]
   simp only [World.cell?,hh]
   exact this
  ·rw [Nat.zero_add]
   simp only [World.frozen?,hh]
   have hc:=hcl t (by rw [hsz];omega)
   obtain ⟨lo,hi⟩:=fz
   simp only at hc ⊢
   by_cases a:lo≤t<;>by_cases b:t<hi<;>simp [a,b]
   exact hc ⟨a,b⟩
 have hcmp:=cmpLays D (ρ 0).1 0 d.size w fun m os dk _=>agree_sort h3 (hsep hlive) hblk m os dk
 have hkit:=AnyQ.slices_SortFunc Tryz.laysSort 4 Tryz.isAgg64 Tryz.sizeOf64 (EK.v (D:=D)) (fun x=>x.len) (fun x v hv=>x.one v hv) cfE (swoE D) 151 #[] (ρ 0).1 0 (ρ 0).2 d w (enters_of Tryz.func151 kR rfl) hcmp hH hblk oM
 rw [hds] at hkit
 refine hkit.mono ?_
 rintro e w' ⟨rfl,d',n',os,hP,hS,rfl⟩
 have hd':=sorted_one hd1 hp hs (by rw [hds];exact hP) (by rw [hds];exact hS)
 have hds':d'.size=l.length:=hP.1.trans hds
 have hw:(sortWorldK (EK.v (D:=D)) 4 w (ρ 0).1 0 n' d' os).heap[(ρ 0).1]?=some (.cells (Go.Sort.putCells id 0 (Go.Sort.flatK EK.v 4 d') arr) 64 fz):=by
  unfold sortWorldK
  rw [Go.Sort.heap_grow_old _ _ (by simpa [Go.Sort.putRowK,Go.Sort.putRow,Go.Sort.mapBlock,Go.Sort.ahead] using hblk)]
  simp only [Go.Sort.putRowK,Go.Sort.putRow,Go.Sort.mapBlock,Go.Sort.ahead,Array.getElem?_modify,hh]
  rfl
 have hoth:∀ b,b<w.heap.size→b≠(ρ 0).1→(sortWorldK (EK.v (D:=D)) 4 w (ρ 0).1 0 n' d' os).heap[b]?=w.heap[b]?:=by
  intro b hb hne
  unfold sortWorldK
  rw [Go.Sort.heap_grow_old _ _ (by simpa [Go.Sort.putRowK,Go.Sort.putRow,Go.Sort.mapBlock,Go.Sort.ahead] using hb)]
  simp only [Go.Sort.putRowK,Go.Sort.putRow,Go.Sort.mapBlock,Go.Sort.ahead,Array.getElem?_modify]
  rw [if_neg (fun h=>hne h.symm)]
 have hcell:∀ t,t<l.length*4→(Go.Sort.putCells id 0 (Go.Sort.flatK EK.v 4 d') arr)[t]?=some (Go.Sort.flatK EK.v 4 d')[t]!:=by
  intro t ht
  unfold Go.Sort.putCells
  rw [Array.getElem?_mapIdx,Array.getElem?_eq_getElem (by rw [hsz];omega)]
  simp only [Option.map_some,Nat.zero_le,true_and,Nat.zero_add,Go.Sort.size_flatK,hds',if_pos ht,id,Nat.sub_zero]
 refine ⟨[],_,D,ρ,_,rfl,⟨rfl,rfl⟩,⟨#[],rfl,rfl,fun j x h=>by simp at h⟩,fun j x h=>by simp at h,?_⟩
 have look0:∀ (id:Nat) (b:Blk),Go.Sv.look [(0,Blk.row 64 4 l.length (rowF encK .nil (l'.map Prod.snd)))] id=some b→id=0∧b=Blk.row 64 4 l.length (rowF encK .nil (l'.map Prod.snd)):=by
  intro id b hb
  simp only [Go.Sv.look] at hb
  cases he:Nat.beq 0 id with
  | true=>rw [he] at hb; exact ⟨((beq_eq _ _).1 he).symm,by simpa using hb.symm⟩
  | false=>rw [he] at hb; simp at hb
 have hsz':(Go.Sort.putCells id 0 (Go.Sort.flatK EK.v 4 d') arr).size=arr.size:=by unfold Go.Sort.putCells;simp
 have hrow:∀ i,i<l.length→∀ j,j<4→Den D rho0 (rowF encK .nil (l'.map Prod.snd) i j) (d'[i]!.v)[j]!:=by
  intro i hi j hj
  have hx:rowF encK .nil (l'.map Prod.snd) i j=nthD (encK d'[i]!.x) j:=by
   unfold rowF
   rw [← hd',List.map_map,List.getD_eq_getElem?_getD,List.getElem?_map,List.getElem?_eq_getElem sO,getElem!_pos d' i oM]
   rfl
  rw [hx]
  obtain ⟨u,h1,h2⟩:=d'[i]!.den j _ (nth4 _ j hj)
  have hl4:=d'[i]!.len
  have:(d'[i]!.v)[j]! = u:=by
   rw [getElem!_pos _ j oM]
   have h1:d'[i]!.v[j]?=some u:=by simpa using h1
   rw [List.getElem?_eq_getElem oM] at h1
   simpa using h1
  rw [this];exact h2
 refine { hp := ?_,inj := ?_,sep := ?_,agree:=agree_sort h3 (hsep hlive) hblk _ _ _,le:=DatLe.refl _,kin:=fun i hi=>rfl,own := ?_,newD:=fun b o v h => .inl h,frame := ?_,os:=rfl,tape:=rfl,output:=rfl,grow := ?_,drawn:=fun _=>Nat.le_add_right _ _,ids := ?_ }
 ·intro id b hb
  obtain ⟨rfl,rfl⟩:=look0 id b hb
  refine .inr ⟨_,fz,hw,by rw [hsz',hsz],by rw [hsz'];exact hcl,hnc,hcm,by omega,fun t u ht => ?_,fun i hi j hj => ?_⟩
  ·by_cases h:t<l.length*4
   ·rw [hcell t h] at ht
    cases ht
    rw [show t=t / 4*4+t%4 by omega,flatE_get d' _ _ oM oM]
    exact (hrow (t / 4) oM (t%4) oM).one
   ·refine hone t u ?_
    rw [← ht]
    unfold Go.Sort.putCells
    rw [Array.getElem?_mapIdx]
    cases hq:arr[t]? with
    | none=>rfl
    | some q =>
     simp only [Option.map_some,Nat.zero_le,true_and,Nat.zero_add,Go.Sort.size_flatK,hds',if_neg h]
  ·refine ⟨_,?_,hrow i hi j hj⟩
   rw [hcell _ oM,flatE_get d' _ _ oM hj]
 ·intro i j bi bj hi hj _ _ _
  rw [(look0 i bi hi).1,(look0 j bj hj).1]
 ·intro id b hb _
  obtain ⟨rfl,rfl⟩:=look0 id b hb
  exact hsep hlive
 ·intro id b hb _
  obtain ⟨rfl,rfl⟩:=look0 id b hb
  exact .inr ⟨0,by simp,hlive,rfl⟩
 ·intro b hb hk
  exact hoth b hb (fun h=>hk 0 (by simp) hlive h.symm)
 ·unfold sortWorldK
  simp [Go.Sort.grow,Go.Sort.putRowK,Go.Sort.putRow,Go.Sort.mapBlock,Go.Sort.ahead]
 ·intro id b hb
  obtain ⟨rfl,rfl⟩:=look0 id b hb
  trivial
end Go.Proofs.Tw
end
section
open Go Go.Sv Go.RowKit
namespace Go.Proofs.Tw
attribute [local irreducible] Wp FinQ resV Ent Pur Go.Sv.Fn Sat0
set_option maxRecDepth 100000
set_option maxHeartbeats 4000000
variable {G:Nat→Option (List Cell)}
theorem compact_ok (l:List (TT×KT)) (hl:∀ p∈l,LowR p.1∧Rep p.1 p.2) (hs:l.Pairwise (fun a b=>cmpT a.1 b.1<0)) (hn:l.length≤1000000) :
  Pur Tryz.prog G 153 [.c (.sl 4 l.length (rowF encK .nil (l.map Prod.snd))),.c (fnC 154)] [.c (.sl 4 l.length (rowF encK .nil (l.map Prod.snd)))]:=by
 refine zp Tryz.func153 ?_
 by_cases h2:l.length<2
 ·have hq:decide ((l.length:Int)<2)=true:=by simp;omega
  clear hl hs
  refine zg [] [true] [decide ((l.length:Int)<2)=true] (oN aS) ?_
  exact zr
 have hq:decide ((l.length:Int)<2)=false:=by simp;omega
 refine zg [] [false] [decide ((l.length:Int)<2)=false] (oN aS) ?_
 refine zl (fun (k:Nat)=>⟨[(0,.v (.c (.sl 4 l.length (rowF encK .nil (l.map Prod.snd))))),(1,.v (.c (fnC 154))),(5,.v (.c (.int .i64 (k:Int))))],[],80⟩) (fun k=>1≤k∧k≤l.length) (fun k=>l.length-k) 1 ⟨Nat.le_refl _,by omega⟩ ?_
 rintro k W hk' again
 obtain ⟨hk1,hk2⟩:=hk'
 rcases Nat.lt_or_ge k l.length with hi | hi
 ·have e1:EqvD (.agg [rowF encK .nil (l.map Prod.snd) k 0,rowF encK .nil (l.map Prod.snd) k 1,rowF encK .nil (l.map Prod.snd) k 2,rowF encK .nil (l.map Prod.snd) k 3]) (.agg (encK ((l.map Prod.snd).getD k .nil))):=eqvD_of rfl
  have ek:(k:Int)-1=((k-1:Nat):Int):=by omega
  have e2:EqvD (.agg [rowF encK .nil (l.map Prod.snd) (k-1) 0,rowF encK .nil (l.map Prod.snd) (k-1) 1,rowF encK .nil (l.map Prod.snd) (k-1) 2,rowF encK .nil (l.map Prod.snd) (k-1) 3]) (.agg (encK ((l.map Prod.snd).getD (k-1) .nil))):=eqvD_of rfl
  have e3:EqvD (.c (.int .i64 ((k:Int)-1))) (.c (.int .i64 ((k-1:Nat):Int))):=eqvD_of (by rw [ek])
  have g1:(l.map Prod.snd).getD k .nil=l[k].2:=by rw [List.getD_eq_getElem?_getD,List.getElem?_map,List.getElem?_eq_getElem hi];rfl
  have g2:(l.map Prod.snd).getD (k-1) .nil=l[k-1].2:=by rw [List.getD_eq_getElem?_getD,List.getElem?_map,List.getElem?_eq_getElem oM];rfl
  have a1:=hl _ (List.getElem_mem hi)
  have a2:=hl _ (List.getElem_mem (show k-1<l.length by omega))
  have c:=sameC_ok (G:=G) l[k].2 l[k-1].2 a1.1 a2.1 a1.2 a2.2
  have hne:(cmpT l[k].1 l[k-1].1==0)=false:=by
   rw [List.pairwise_iff_getElem] at hs
   have h:=(cmpT_anti _ _).1 (hs (k-1) k oM hi oM)
   simp;omega
  rw [hne,← g1,← g2] at c
  clear hl hs a1 a2 g1 g2 hne
  refine zg [(6,{cs:=[(10,pc c)],fm:=[(4,.agg (encK ((l.map Prod.snd).getD k .nil))),(7,.c (.int .i64 ((k-1:Nat):Int))),(9,.agg (encK ((l.map Prod.snd).getD (k-1) .nil)))]})] [true,false] [decide ((k:Int)<(l.length:Int))=true,(0:Int)≤(k:Int)∧(k:Int)<(l.length:Int),EqvD (.agg (encK ((List.map (fun (self:TT×KT)=>self.2) l).getD k .nil))) (.agg (encK ((List.map (fun (self:TT×KT)=>self.2) l).getD k .nil))),EqvI (.c (.int .i64 ((k:Int)-(1:Int)))) (.c (.int .i64 (↑(k-(1:Nat)):Int))),EqvD (.c (.int .i64 ((k:Int)-(1:Int)))) (.c (.int .i64 (↑(k-(1:Nat)):Int))),inR .i64 ((k:Int)-1),(0:Int)≤(↑(k-(1:Nat)):Int)∧(↑(k-(1:Nat)):Int)<(l.length:Int),EqvD (.agg (encK ((List.map (fun (self:TT×KT)=>self.2) l).getD (k-1) KT.nil))) (.agg (encK ((List.map (fun (self:TT×KT)=>self.2) l).getD (k-1) KT.nil))),false=false,inR .i64 ((k:Int)+1)] ⟨sO,oM,aS,fun _ _=>trivial,aS,i6,oM,aS,rfl,i6⟩ ?_
  exact za [] (again _ (k+1) oM oM)
 ·obtain rfl:k=l.length:=by omega
  clear hl hs again
  refine zg [] [false] [decide ((l.length:Int)<(l.length:Int))=false] (show decide ((↑l.length:Int)<(↑l.length:Int))=false from (by simp;done)) ?_
  exact zr
theorem clip_ok (n:Nat) (f:Nat→Nat→Cell) (hn:n≤1000000):Pur Tryz.prog G 152 [.c (.sl 4 n f)] [.c (.sl 4 n f)]:=by
 refine zp Tryz.func152 ?_
 refine zg [] [] [(0:Int)≤Int.ofNat (0)∧Int.ofNat (0)≤Int.ofNat n∧Int.ofNat n≤Int.ofNat n∧Int.ofNat n≤(n:Int)] ⟨dC,⟨(by simp;done),⟨oM,(by simp;done)⟩⟩⟩ ?_
 exact zS [.c (.sl (4:Nat) ((Int.ofNat n).toNat-(0:Nat)) fun i j=>f ((0:Nat)+i) j)] (by simp;done)
def kp (t:TT):TT×KT:=(t,ktOf t)
theorem kp_snd (l:List TT):(l.map kp).map Prod.snd=l.map ktOf:=by rw [List.map_map];rfl
theorem kp_ok {l:List TT} (ht:∀ t∈l,LowR t):∀ p∈l.map kp,LowR p.1∧Rep p.1 p.2:=by
 intro p hp
 obtain ⟨t,h,rfl⟩:=List.mem_map.1 hp
 exact ⟨ht t h,Rep_ktOf t⟩
theorem tsort_ok (l l':List TT) (f:Nat→Nat→Cell) (hf:RepL l f 0) (ht:∀ t∈l,LowR t) (hp:l'.Perm l) (hs:l'.Pairwise (fun a b=>cmpT a b<0)) (h0:0<l.length) (hn:l.length≤1000000) :
  Pur Tryz.prog G 95 [.c (.sl 4 l.length f)] [.c (.sl 4 l.length (rowF encK .nil (l'.map ktOf)))]:=by
 have c1:=ownTerms_ok (G:=G) l l.length f rfl hf hn ht
 have hps:(l'.map kp).Pairwise (fun a b=>cmpT a.1 b.1<0):=List.pairwise_map.2 hs
 have c2:=sort_ok (G:=G) (l.map kp) (l'.map kp) (kp_ok ht) (hp.map kp) hps (by simpa using h0) (by simpa using hn)
 have c3:=compact_ok (G:=G) (l'.map kp) (kp_ok (fun t h=>ht t (hp.mem_iff.1 h))) hps (by simpa [hp.length_eq] using hn)
 rw [kp_snd,kp_snd,List.length_map] at c2
 rw [kp_snd,List.length_map,hp.length_eq] at c3
 have c4:=clip_ok (G:=G) l.length (rowF encK .nil (l'.map ktOf)) hn
 clear hf ht hp hs hps
 refine zp Tryz.func95 ?_
 refine zn [(1,{cs:=[(1,cb [] c1)]}),(2,{cs:=[(1,cb [32] c2)]})] 6 [] [] trivial ?_
 refine Wp.ent' kR (Ent.pubT (t:=3) (e:=64) (sz:=4) (id:=32) (off:=0) (m:=l.length) (n:=l.length) (f:=rowF encK .nil (l'.map ktOf)) (m':=l.length) (f':=rowF encK .nil (l'.map ktOf)) kR kR oM rfl (fun i _ j _=>by rw [Nat.zero_add]) rfl) ?_
 refine z0 [(3,{cs:=[(1,pc c3),(2,pc c4)]})] [] ?_
 exact zr
theorem len0_ok:Pur Tryz.prog G 193 [.c (.int .u64 0)] [.c (.int .i64 0)]:=by
 refine Pur.of_below rfl ?_
 intro D ρ w vs hv k1 k2 k3
 obtain ⟨u,rfl,hu⟩:=hv.one
 have hu:u = .int .u64 0:=hu
 subst hu
 refine (Any.bits_Len (SlLaysF0.n15.bits (P:=Tryz.prog) (ρ:=Tryz.laysSort_ren) { Tryz.laysSort with }) 0 w oM oM).mono ?_
 rintro e w' ⟨rfl,rfl⟩
 exact ⟨_,rfl,rfl,BelowD.refl _ _⟩
theorem ins0_ok (f:Nat→Nat→Cell):FnB Tryz.prog G 229 [.row 64 4 0 f] [.c (.row 4 0 0 0),.c (.int .i64 0),.c (.int .i64 0),.c (fnC 151)] [] [(0,.row 64 4 0 f)]:=by
 refine zf Tryz.func229 ?_
 refine zg [] [] [inR .i64 (0+1)] (i6) ?_
 refine Wp.unrK kR 1 (fun UL0 uUL0 => ?_)
 refine zg [] [false] [decide ((0:Int)+(1:Int)<(0:Int))=false] rfl ?_
 exact zb []
theorem pdq0_ok (f:Nat→Nat→Cell):FnB Tryz.prog G 192 [.row 64 4 0 f] [.c (.row 4 0 0 0),.c (.int .i64 0),.c (.int .i64 0),.c (.int .i64 0),.c (fnC 151)] [] [(0,.row 64 4 0 f)]:=by
 have c:=ins0_ok (G:=G) f
 refine zf Tryz.func192 ?_
 refine z0 [] [] ?_
 refine Wp.unrK kR 1 (fun UL0 uUL0 => ?_)
 refine zg [(4,{cs:=[(4,cb [0] c)]})] [true] [inR .i64 (0-0),decide ((0:Int)-(0:Int)≤(12:Int))=true] ⟨i6,rfl⟩ ?_
 exact zb []
theorem sort0_ok (f:Nat→Nat→Cell):FnB Tryz.prog G 150 [.row 64 4 0 f] [.c (.row 4 0 0 0),.c (fnC 151)] [] [(0,.row 64 4 0 f)]:=by
 have c:=pdq0_ok (G:=G) f
 have c2:=len0_ok (G:=G)
 refine zf Tryz.func150 ?_
 refine z0 [(1,{cs:=[(4,pc c2),(6,cb [0] c)]})] [] ?_
 exact zb []
theorem ownTerms0_ok:FnB Tryz.prog G 149 [] [.c .nilsl] [.c (.row 4 0 0 0)] [(0,.row 64 4 0 zeroT)]:=by
 refine zf Tryz.func149 ?_
 refine zg [] [] [(0:Int)≤(0:Int),(0:Int)≤(0:Int),(0:Int)*(↑(56:Nat):Int)≤(140737488355328:Int)] ⟨oM,oM,(show (0:Int)*(↑(56:Nat):Int)≤(140737488355328:Int) from oM)⟩ ?_
 refine Wp.unrK kR 1 (fun UL0 uUL0 => ?_)
 refine zg [] [false] [decide ((0:Int)<(0:Int))=false] rfl ?_
 exact zb [48]
theorem compact0_ok (f:Nat→Nat→Cell):Pur Tryz.prog G 153 [.c (.sl 4 0 f),.c (fnC 154)] [.c (.sl 4 0 f)]:=by
 refine zp Tryz.func153 ?_
 refine zg [] [true] [decide ((↑(0:Nat):Int)<(2:Int))=true] rfl ?_
 exact zr
theorem tsort0_ok:Pur Tryz.prog G 95 [.c .nilsl] [.c (.sl 4 0 zeroT)]:=by
 have c1:=ownTerms0_ok (G:=G)
 have c2:=sort0_ok (G:=G) zeroT
 have c3:=compact0_ok (G:=G) zeroT
 have c4:=clip_ok (G:=G) 0 zeroT oM
 refine zp Tryz.func95 ?_
 refine zn [(1,{cs:=[(1,cb [] c1)]}),(2,{cs:=[(1,cb [32] c2)]})] 6 [] [] trivial ?_
 refine Wp.ent' kR (Ent.pubT (t:=3) (e:=64) (sz:=4) (id:=32) (off:=0) (m:=0) (n:=0) (f:=zeroT) (m':=0) (f':=zeroT) kR kR oM rfl (fun i _ j _=>by rw [Nat.zero_add]) rfl) ?_
 refine z0 [(3,{cs:=[(1,pc c3),(2,pc c4)]})] [] ?_
 exact zr
end Go.Proofs.Tw
end
section
open Go Go.Sv Go.RowKit
namespace Go.Proofs.Tw
set_option maxRecDepth 100000
set_option maxHeartbeats 4000000
def sgE (x:Int):UInt8:=sgs.getD x.toNat 0
def outE (c:List UInt8):List UInt8:=([sgE (by3 c 0 / 4),sgE (by3 c 0%4*16+by3 c 1 / 16),sgE (by3 c 1%16*4+by3 c 2 / 64),sgE (by3 c 2%64)]).take (c.length+1)
theorem by3_at (b:List UInt8) (i j:Nat) (hj:j<3):by3 ((b.drop i).take 3) j=if i+j<b.length then ((b.getD (i+j) 0).toNat:Int) else 0:=by
 unfold by3
 rw [List.getD_eq_getElem?_getD,List.getElem?_take,if_pos hj,List.getElem?_drop]
 by_cases h:i+j<b.length
 ·rw [if_pos h,List.getD_eq_getElem?_getD]
 ·rw [if_neg h,List.getElem?_eq_none oM];rfl
theorem v3_at (b:List UInt8) (i:Nat):v3 b i 3=by3 ((b.drop i).take 3) 0*65536+by3 ((b.drop i).take 3) 1*256+by3 ((b.drop i).take 3) 2:=by
 rw [by3_at b i 0 oM,by3_at b i 1 oM,by3_at b i 2 oM]
 simp only [v3]
 repeat' split
 all_goals omega
theorem n3_at (b:List UInt8) (i:Nat):n3 b i 3=((b.drop i).take 3).length:=by
 rw [List.length_take,List.length_drop]
 simp only [n3]
 repeat' split
 all_goals omega
theorem sixE_at (x y z:Int) (hx:0≤x∧x<256) (hy:0≤y∧y<256) (hz:0≤z∧z<256) :
  six (x*65536+y*256+z) 0=x / 4∧six (x*65536+y*256+z) 1=x%4*16+y / 16∧six (x*65536+y*256+z) 2=y%16*4+z / 64∧six (x*65536+y*256+z) 3=z%64:=by
 unfold six
 rw [Int.fdiv_eq_ediv_of_nonneg _ dC,Int.fdiv_eq_ediv_of_nonneg _ dC,Int.fdiv_eq_ediv_of_nonneg _ dC,Int.fdiv_eq_ediv_of_nonneg _ dC]
 simp only [show (2:Int)^(18-6*0)=262144 from rfl,show (2:Int)^(18-6*1)=4096 from rfl,show (2:Int)^(18-6*2)=64 from rfl,show (2:Int)^(18-6*3)=1 from rfl]
 refine ⟨?_,?_,?_,?_⟩<;>omega
theorem grp_out (b:List UInt8) (g:Nat) (hg:3*g<b.length):grp b g=outE ((b.drop (3*g)).take 3):=by
 unfold grp
 rw [n3_at,v3_at]
 generalize hc:(b.drop (3*g)).take 3=c
 have hl:c.length≤3:=by rw [← hc,List.length_take];omega
 obtain ⟨s0,s1,s2,s3⟩:=sixE_at (by3 c 0) (by3 c 1) (by3 c 2) (by3_rng c 0) (by3_rng c 1) (by3_rng c 2)
 generalize by3 c 0*65536+by3 c 1*256+by3 c 2=v at *
 have e0:sgn6 v 0=sgE (by3 c 0 / 4):=by unfold sgn6 sgE;rw [s0]
 have e1:sgn6 v 1=sgE (by3 c 0%4*16+by3 c 1 / 16):=by unfold sgn6 sgE;rw [s1]
 have e2:sgn6 v 2=sgE (by3 c 1%16*4+by3 c 2 / 64):=by unfold sgn6 sgE;rw [s2]
 have e3:sgn6 v 3=sgE (by3 c 2%64):=by unfold sgn6 sgE;rw [s3]
 unfold outE
 rw [← e0,← e1,← e2,← e3]
 match hn:c.length,hl with
 | 0,_=>rfl
 | 1,_=>rfl
 | 2,_=>rfl
 | 3,_=>rfl
end Go.Proofs.Tw
end
section
open Go Go.Sv Go.RowKit
namespace Go.Proofs.Tw
end Go.Proofs.Tw
end
section
open Go Go.Sv Go.RowKit
namespace Go.Proofs.Tw
attribute [local irreducible] Wp FinQ resV Ent Pur Go.Sv.Fn Sat0
set_option maxRecDepth 100000
set_option maxHeartbeats 4000000
variable {G:Nat→Option (List Cell)}

theorem str_a {G:Nat→Option (List Cell)} [Back G]:FnB Tryz.prog G 144 [.box 165 [.nilptr,.nilsl]] [.c (.ptr 0 0)] [.c (.str [])] []:=by
 refine zf Tryz.func144 ?_
 refine zg [] [] [(0:Int)=(0:Int)] rfl ?_
 exact zr
end Go.Proofs.Tw
end
section
open Go Go.Sv Go.RowKit
namespace Go.Proofs.Tw
attribute [local irreducible] Wp FinQ resV Ent Pur Go.Sv.Fn Sat0
set_option maxRecDepth 100000
set_option maxHeartbeats 4000000
variable {G:Nat→Option (List Cell)} [Back G]
def encW (b:List UInt8):Nat×Option (Nat×List UInt8)→St
 | (g,none)=>⟨[(0,.v (.c (.sl 1 (b.length-3*g) (bytesF (b.drop (3*g)))))),(2,.v (.c (.str []))),(3,.v (.c (.ptr 16 0)))],[(16,.box 165 [.nilptr,.nilsl])],32⟩
 | (g,some (n,l))=>⟨[(0,.v (.c (.sl 1 (b.length-3*g) (bytesF (b.drop (3*g)))))),(2,.v (.c (.str []))),(3,.v (.c (.ptr 16 0)))],[(16,.box 165 [.ptr 16 0,.row 1 0 0 n]),(0,.row 5 1 n (bytesF l))],32⟩
theorem encE_ok (b:List UInt8) (hb:b.length≤1000000):Pur Tryz.prog G 88 [.c (.sl 1 b.length (bytesF b))] [.c (.str (enc8 b))]:=by
 refine zp Tryz.func88 ?_
 refine z0 [] [] ?_
 refine zl (encW b) (encOF b) (fun x=>b.length+3-3*x.1) (0,none) rfl ?_
 rintro ⟨g,o⟩ W hx again
 by_cases hg:3*g<b.length
 ·have hgr:=grp_out b g hg
  have hm:((b.drop (3*g)).take 3).length=min 3 (b.length-3*g):=by rw [List.length_take,List.length_drop]
  have e2:EqvD (.c (.sl 1 ((Int.ofNat ((b.drop (3*g)).take 3).length).toNat-0) (fun i j=>bytesF (b.drop (3*g)) (0+i) j))) (.c (.sl 1 ((b.drop (3*g)).take 3).length (bytesF ((b.drop (3*g)).take 3)))):=by
   refine EqvD.sl rfl fun i hi j hj => ?_
   have hi:i<((b.drop (3*g)).take 3).length:=hi
   rw [hm] at hi
   show bytesF (b.drop (3*g)) (0+i) j=bytesF ((b.drop (3*g)).take 3) i j
   unfold bytesF
   rw [Nat.zero_add,List.getD_eq_getElem?_getD,List.getD_eq_getElem?_getD,List.getElem?_take,if_pos oM]
  have e3:EqvD (.c (.sl 1 ((b.length-3*g)-(Int.ofNat ((b.drop (3*g)).take 3).length).toNat) (fun i j=>bytesF (b.drop (3*g)) ((Int.ofNat ((b.drop (3*g)).take 3).length).toNat+i) j))) (.c (.sl 1 (b.length-3*(g+1)) (bytesF (b.drop (3*(g+1)))))):=by
   have hq:(Int.ofNat ((b.drop (3*g)).take 3).length).toNat=min 3 (b.length-3*g):=hm
   rw [hq]
   refine EqvD.sl oM fun i hi j hj => ?_
   unfold bytesF
   rw [List.getD_eq_getElem?_getD,List.getD_eq_getElem?_getD,List.getElem?_drop,List.getElem?_drop]
   congr 3
   rw [show 3*g+(min 3 (b.length-3*g)+i)=3*(g+1)+i by omega]
  generalize hc:(b.drop (3*g)).take 3=c at *
  have hc3:c.length≤3:=by omega
  have hc1:1≤c.length:=by omega
  have hcl:c.length≤b.length-3*g:=by omega
  have e1:EqvD (.c (.int .i64 (if ((b.length-3*g:Nat):Int)<(3:Int) then ((b.length-3*g:Nat):Int) else (3:Int)))) (.c (.int .i64 (c.length:Int))):=eqvD_of (by congr 2;split<;>omega)
  have c4:=four_ok (G:=G) c hc3
  have r0:=by3_rng c 0
  have r1:=by3_rng c 1
  have r2:=by3_rng c 2
  have hlt:decide (((b.length-3*g:Nat):Int)>(0:Int))=true:=by simp;omega
  match o,hx with
  | none,hx =>
   by_cases hl1:c.length=1
   ·have w0:=wb_a (G:=G) (sgE (by3 c 0 / 4))
    have w1:=wb_b (G:=G) (1) ([sgE (by3 c 0 / 4)]) rfl oM (sgE (by3 c 0%4*16+by3 c 1 / 16))
    have hfin:encOF b (g+1,some (1+1,[sgE (by3 c 0 / 4)]++[sgE (by3 c 0%4*16+by3 c 1 / 16)])):=by
     have hG:encG b (g+1)=encG b g++outE c:=by show encG b g++grp b g=_;rw [hgr]
     have hO:outE c=[sgE (by3 c 0 / 4),sgE (by3 c 0%4*16+by3 c 1 / 16)]:=by unfold outE;rw [hl1];rfl
     obtain rfl:g=0:=hx
     refine ⟨by omega,by omega,?_,rfl,by omega⟩
     rw [hG,hO];rfl
    clear hgr hc hm
    refine zg [(3,{fm:=[(2,.c (.int .i64 (c.length:Int)))]}),(4,{cs:=[(4,pc c4)],fm:=[(3,.c (.sl 1 c.length (bytesF c)))]}),(10,{fm:=[(2,.c (.sl 1 (b.length-3*(g+1)) (bytesF (b.drop (3*(g+1))))))]})] [true] [decide ((↑(b.length-(3:Nat)*g):Int)>(0:Int))=true,EqvI (.c (.int .i64 (if (↑(b.length-(3:Nat)*g):Int)<(3:Int) then (↑(b.length-(3:Nat)*g):Int) else (3:Int)))) (.c (.int .i64 (c.length:Int))),EqvD (.c (.int .i64 (if (↑(b.length-(3:Nat)*g):Int)<(3:Int) then (↑(b.length-(3:Nat)*g):Int) else (3:Int)))) (.c (.int .i64 (c.length:Int))),EqvI (.c (.sl 1 ((Int.ofNat c.length).toNat-(0:Nat)) fun i j=>bytesF (List.drop ((3:Nat)*g) b) ((0:Nat)+i) j)) (.c (.sl 1 c.length (bytesF c))),EqvD (.c (.sl 1 ((Int.ofNat c.length).toNat-(0:Nat)) fun i j=>bytesF (List.drop ((3:Nat)*g) b) ((0:Nat)+i) j)) (.c (.sl 1 c.length (bytesF c))),(0:Int)≤Int.ofNat (0)∧Int.ofNat (0)≤Int.ofNat c.length∧Int.ofNat c.length≤Int.ofNat c.length∧Int.ofNat c.length≤(↑(b.length-(3:Nat)*g):Int),inR .i64 ((c.length:Int)+1),(0:Int)≤Int.ofNat (0)∧Int.ofNat (0)≤Int.ofNat (c.length+1)∧Int.ofNat (c.length+1)≤(↑(4:Nat):Int)] ⟨aS,fun _ _=>trivial,aS,fun _ _=>trivial,aS,⟨dC,⟨(by simp;done),⟨oM,sO⟩⟩⟩,i6,⟨dC,⟨sO,sO⟩⟩⟩ ?_
    refine Wp.unrK kR 5 (fun UL0 uUL0 => ?_)
    refine zg [(3,{fm:=[(2,.c (.int .i64 (c.length:Int)))]}),(4,{fm:=[(3,.c (.sl 1 c.length (bytesF c)))]}),(10,{fm:=[(2,.c (.sl 1 (b.length-3*(g+1)) (bytesF (b.drop (3*(g+1))))))]}),(8,{cs:=[(2,cb [16] w0)]})] [true] [decide ((0:Int)<(↑((Int.ofNat (c.length+1)).toNat-(0:Nat)):Int))=true,(0:Int)≤(0:Int)∧(0:Int)<(↑((Int.ofNat (c.length+1)).toNat-(0:Nat)):Int),(0:Int)≤by3 c (0:Nat) / (4:Int)∧by3 c (0:Nat) / (4:Int)<(↑(64:Nat):Int),inR .i64 (0+1)] ⟨(by simp;done),⟨oM,(by simp;done)⟩,oM,i6⟩ ?_
    refine Wp.lpK kR (uUL0 4 _ ?_)
    refine zg [(3,{fm:=[(2,.c (.int .i64 (c.length:Int)))]}),(4,{fm:=[(3,.c (.sl 1 c.length (bytesF c)))]}),(10,{fm:=[(2,.c (.sl 1 (b.length-3*(g+1)) (bytesF (b.drop (3*(g+1))))))]}),(8,{cs:=[(2,cb [16,432] w1)]})] [true] [decide ((0:Int)+(1:Int)<(↑((Int.ofNat (c.length+1)).toNat-(0:Nat)):Int))=true,(0:Int)≤(0:Int)+(1:Int)∧(0:Int)+(1:Int)<(↑((Int.ofNat (c.length+1)).toNat-(0:Nat)):Int),(0:Int)≤by3 c (0:Nat)%(4:Int)*(16:Int)+by3 c (1:Nat) / (16:Int)∧by3 c (0:Nat)%(4:Int)*(16:Int)+by3 c (1:Nat) / (16:Int)<(↑(64:Nat):Int),inR .i64 (0+1+1)] ⟨sO,⟨oM,sO⟩,oM,i6⟩ ?_
    refine Wp.lpK kR (uUL0 3 _ ?_)
    refine zg [(3,{fm:=[(2,.c (.int .i64 (c.length:Int)))]}),(4,{fm:=[(3,.c (.sl 1 c.length (bytesF c)))]}),(10,{fm:=[(2,.c (.sl 1 (b.length-3*(g+1)) (bytesF (b.drop (3*(g+1))))))]})] [false] [decide ((0:Int)+(1:Int)+(1:Int)<(↑((Int.ofNat (c.length+1)).toNat-(0:Nat)):Int))=false,EqvI (.c (.sl 1 ((Int.ofNat (b.length-(3:Nat)*g)).toNat-(Int.ofNat c.length).toNat) fun i j=>bytesF (List.drop ((3:Nat)*g) b) ((Int.ofNat c.length).toNat+i) j)) (.c (.sl 1 (b.length-(3:Nat)*(g+(1:Nat))) (bytesF (List.drop ((3:Nat)*(g+(1:Nat))) b)))),EqvD (.c (.sl 1 ((Int.ofNat (b.length-(3:Nat)*g)).toNat-(Int.ofNat c.length).toNat) fun i j=>bytesF (List.drop ((3:Nat)*g) b) ((Int.ofNat c.length).toNat+i) j)) (.c (.sl 1 (b.length-(3:Nat)*(g+(1:Nat))) (bytesF (List.drop ((3:Nat)*(g+(1:Nat))) b)))),(0:Int)≤Int.ofNat c.length∧Int.ofNat c.length≤Int.ofNat (b.length-(3:Nat)*g)∧Int.ofNat (b.length-(3:Nat)*g)≤(↑(b.length-(3:Nat)*g):Int)] ⟨sO,fun _ _=>trivial,aS,⟨(by simp;done),⟨sO,(by simp;done)⟩⟩⟩ ?_
    exact za [(0,576)] (again _ (g+1,some (1+1,[sgE (by3 c 0 / 4)]++[sgE (by3 c 0%4*16+by3 c 1 / 16)])) hfin (by show b.length+3-3*(g+1)<b.length+3-3*g;omega))
   by_cases hl2:c.length=2
   ·have w0:=wb_a (G:=G) (sgE (by3 c 0 / 4))
    have w1:=wb_b (G:=G) (1) ([sgE (by3 c 0 / 4)]) rfl oM (sgE (by3 c 0%4*16+by3 c 1 / 16))
    have w2:=wb_b (G:=G) (1+1) ([sgE (by3 c 0 / 4)]++[sgE (by3 c 0%4*16+by3 c 1 / 16)]) rfl oM (sgE (by3 c 1%16*4+by3 c 2 / 64))
    have hfin:encOF b (g+1,some (1+1+1,[sgE (by3 c 0 / 4)]++[sgE (by3 c 0%4*16+by3 c 1 / 16)]++[sgE (by3 c 1%16*4+by3 c 2 / 64)])):=by
     have hG:encG b (g+1)=encG b g++outE c:=by show encG b g++grp b g=_;rw [hgr]
     have hO:outE c=[sgE (by3 c 0 / 4),sgE (by3 c 0%4*16+by3 c 1 / 16),sgE (by3 c 1%16*4+by3 c 2 / 64)]:=by unfold outE;rw [hl2];rfl
     obtain rfl:g=0:=hx
     refine ⟨by omega,by omega,?_,rfl,by omega⟩
     rw [hG,hO];rfl
    clear hgr hc hm
    refine zg [(3,{fm:=[(2,.c (.int .i64 (c.length:Int)))]}),(4,{cs:=[(4,pc c4)],fm:=[(3,.c (.sl 1 c.length (bytesF c)))]}),(10,{fm:=[(2,.c (.sl 1 (b.length-3*(g+1)) (bytesF (b.drop (3*(g+1))))))]})] [true] [decide ((↑(b.length-(3:Nat)*g):Int)>(0:Int))=true,EqvI (.c (.int .i64 (if (↑(b.length-(3:Nat)*g):Int)<(3:Int) then (↑(b.length-(3:Nat)*g):Int) else (3:Int)))) (.c (.int .i64 (c.length:Int))),EqvD (.c (.int .i64 (if (↑(b.length-(3:Nat)*g):Int)<(3:Int) then (↑(b.length-(3:Nat)*g):Int) else (3:Int)))) (.c (.int .i64 (c.length:Int))),EqvI (.c (.sl 1 ((Int.ofNat c.length).toNat-(0:Nat)) fun i j=>bytesF (List.drop ((3:Nat)*g) b) ((0:Nat)+i) j)) (.c (.sl 1 c.length (bytesF c))),EqvD (.c (.sl 1 ((Int.ofNat c.length).toNat-(0:Nat)) fun i j=>bytesF (List.drop ((3:Nat)*g) b) ((0:Nat)+i) j)) (.c (.sl 1 c.length (bytesF c))),(0:Int)≤Int.ofNat (0)∧Int.ofNat (0)≤Int.ofNat c.length∧Int.ofNat c.length≤Int.ofNat c.length∧Int.ofNat c.length≤(↑(b.length-(3:Nat)*g):Int),inR .i64 ((c.length:Int)+1),(0:Int)≤Int.ofNat (0)∧Int.ofNat (0)≤Int.ofNat (c.length+1)∧Int.ofNat (c.length+1)≤(↑(4:Nat):Int)] ⟨aS,fun _ _=>trivial,aS,fun _ _=>trivial,aS,⟨dC,⟨(by simp;done),⟨oM,sO⟩⟩⟩,i6,⟨dC,⟨sO,sO⟩⟩⟩ ?_
    refine Wp.unrK kR 5 (fun UL0 uUL0 => ?_)
    refine zg [(3,{fm:=[(2,.c (.int .i64 (c.length:Int)))]}),(4,{fm:=[(3,.c (.sl 1 c.length (bytesF c)))]}),(10,{fm:=[(2,.c (.sl 1 (b.length-3*(g+1)) (bytesF (b.drop (3*(g+1))))))]}),(8,{cs:=[(2,cb [16] w0)]})] [true] [decide ((0:Int)<(↑((Int.ofNat (c.length+1)).toNat-(0:Nat)):Int))=true,(0:Int)≤(0:Int)∧(0:Int)<(↑((Int.ofNat (c.length+1)).toNat-(0:Nat)):Int),(0:Int)≤by3 c (0:Nat) / (4:Int)∧by3 c (0:Nat) / (4:Int)<(↑(64:Nat):Int),inR .i64 (0+1)] ⟨(by simp;done),⟨oM,(by simp;done)⟩,oM,i6⟩ ?_
    refine Wp.lpK kR (uUL0 4 _ ?_)
    refine zg [(3,{fm:=[(2,.c (.int .i64 (c.length:Int)))]}),(4,{fm:=[(3,.c (.sl 1 c.length (bytesF c)))]}),(10,{fm:=[(2,.c (.sl 1 (b.length-3*(g+1)) (bytesF (b.drop (3*(g+1))))))]}),(8,{cs:=[(2,cb [16,432] w1)]})] [true] [decide ((0:Int)+(1:Int)<(↑((Int.ofNat (c.length+1)).toNat-(0:Nat)):Int))=true,(0:Int)≤(0:Int)+(1:Int)∧(0:Int)+(1:Int)<(↑((Int.ofNat (c.length+1)).toNat-(0:Nat)):Int),(0:Int)≤by3 c (0:Nat)%(4:Int)*(16:Int)+by3 c (1:Nat) / (16:Int)∧by3 c (0:Nat)%(4:Int)*(16:Int)+by3 c (1:Nat) / (16:Int)<(↑(64:Nat):Int),inR .i64 (0+1+1)] ⟨sO,⟨oM,sO⟩,oM,i6⟩ ?_
    refine Wp.lpK kR (uUL0 3 _ ?_)
    refine zg [(3,{fm:=[(2,.c (.int .i64 (c.length:Int)))]}),(4,{fm:=[(3,.c (.sl 1 c.length (bytesF c)))]}),(10,{fm:=[(2,.c (.sl 1 (b.length-3*(g+1)) (bytesF (b.drop (3*(g+1))))))]}),(8,{cs:=[(2,cb [16,576] w2)]})] [true] [decide ((0:Int)+(1:Int)+(1:Int)<(↑((Int.ofNat (c.length+1)).toNat-(0:Nat)):Int))=true,(0:Int)≤(0:Int)+(1:Int)+(1:Int)∧(0:Int)+(1:Int)+(1:Int)<(↑((Int.ofNat (c.length+1)).toNat-(0:Nat)):Int),(0:Int)≤by3 c (1:Nat)%(16:Int)*(4:Int)+by3 c (2:Nat) / (64:Int)∧by3 c (1:Nat)%(16:Int)*(4:Int)+by3 c (2:Nat) / (64:Int)<(↑(64:Nat):Int),inR .i64 (0+1+1+1)] ⟨sO,⟨oM,sO⟩,oM,i6⟩ ?_
    refine Wp.lpK kR (uUL0 2 _ ?_)
    refine zg [(3,{fm:=[(2,.c (.int .i64 (c.length:Int)))]}),(4,{fm:=[(3,.c (.sl 1 c.length (bytesF c)))]}),(10,{fm:=[(2,.c (.sl 1 (b.length-3*(g+1)) (bytesF (b.drop (3*(g+1))))))]})] [false] [decide ((0:Int)+(1:Int)+(1:Int)+(1:Int)<(↑((Int.ofNat (c.length+1)).toNat-(0:Nat)):Int))=false,EqvI (.c (.sl 1 ((Int.ofNat (b.length-(3:Nat)*g)).toNat-(Int.ofNat c.length).toNat) fun i j=>bytesF (List.drop ((3:Nat)*g) b) ((Int.ofNat c.length).toNat+i) j)) (.c (.sl 1 (b.length-(3:Nat)*(g+(1:Nat))) (bytesF (List.drop ((3:Nat)*(g+(1:Nat))) b)))),EqvD (.c (.sl 1 ((Int.ofNat (b.length-(3:Nat)*g)).toNat-(Int.ofNat c.length).toNat) fun i j=>bytesF (List.drop ((3:Nat)*g) b) ((Int.ofNat c.length).toNat+i) j)) (.c (.sl 1 (b.length-(3:Nat)*(g+(1:Nat))) (bytesF (List.drop ((3:Nat)*(g+(1:Nat))) b)))),(0:Int)≤Int.ofNat c.length∧Int.ofNat c.length≤Int.ofNat (b.length-(3:Nat)*g)∧Int.ofNat (b.length-(3:Nat)*g)≤(↑(b.length-(3:Nat)*g):Int)] ⟨sO,fun _ _=>trivial,aS,⟨(by simp;done),⟨sO,(by simp;done)⟩⟩⟩ ?_
    exact za [(0,720)] (again _ (g+1,some (1+1+1,[sgE (by3 c 0 / 4)]++[sgE (by3 c 0%4*16+by3 c 1 / 16)]++[sgE (by3 c 1%16*4+by3 c 2 / 64)])) hfin (by show b.length+3-3*(g+1)<b.length+3-3*g;omega))
   have hl3:c.length=3:=by omega
   have w0:=wb_a (G:=G) (sgE (by3 c 0 / 4))
   have w1:=wb_b (G:=G) (1) ([sgE (by3 c 0 / 4)]) rfl oM (sgE (by3 c 0%4*16+by3 c 1 / 16))
   have w2:=wb_b (G:=G) (1+1) ([sgE (by3 c 0 / 4)]++[sgE (by3 c 0%4*16+by3 c 1 / 16)]) rfl oM (sgE (by3 c 1%16*4+by3 c 2 / 64))
   have w3:=wb_b (G:=G) (1+1+1) ([sgE (by3 c 0 / 4)]++[sgE (by3 c 0%4*16+by3 c 1 / 16)]++[sgE (by3 c 1%16*4+by3 c 2 / 64)]) rfl oM (sgE (by3 c 2%64))
   have hfin:encOF b (g+1,some (1+1+1+1,[sgE (by3 c 0 / 4)]++[sgE (by3 c 0%4*16+by3 c 1 / 16)]++[sgE (by3 c 1%16*4+by3 c 2 / 64)]++[sgE (by3 c 2%64)])):=by
    have hG:encG b (g+1)=encG b g++outE c:=by show encG b g++grp b g=_;rw [hgr]
    have hO:outE c=[sgE (by3 c 0 / 4),sgE (by3 c 0%4*16+by3 c 1 / 16),sgE (by3 c 1%16*4+by3 c 2 / 64),sgE (by3 c 2%64)]:=by unfold outE;rw [hl3];rfl
    obtain rfl:g=0:=hx
    refine ⟨by omega,by omega,?_,rfl,by omega⟩
    rw [hG,hO];rfl
   clear hgr hc hm
   refine zg [(3,{fm:=[(2,.c (.int .i64 (c.length:Int)))]}),(4,{cs:=[(4,pc c4)],fm:=[(3,.c (.sl 1 c.length (bytesF c)))]}),(10,{fm:=[(2,.c (.sl 1 (b.length-3*(g+1)) (bytesF (b.drop (3*(g+1))))))]})] [true] [decide ((↑(b.length-(3:Nat)*g):Int)>(0:Int))=true,EqvI (.c (.int .i64 (if (↑(b.length-(3:Nat)*g):Int)<(3:Int) then (↑(b.length-(3:Nat)*g):Int) else (3:Int)))) (.c (.int .i64 (c.length:Int))),EqvD (.c (.int .i64 (if (↑(b.length-(3:Nat)*g):Int)<(3:Int) then (↑(b.length-(3:Nat)*g):Int) else (3:Int)))) (.c (.int .i64 (c.length:Int))),EqvI (.c (.sl 1 ((Int.ofNat c.length).toNat-(0:Nat)) fun i j=>bytesF (List.drop ((3:Nat)*g) b) ((0:Nat)+i) j)) (.c (.sl 1 c.length (bytesF c))),EqvD (.c (.sl 1 ((Int.ofNat c.length).toNat-(0:Nat)) fun i j=>bytesF (List.drop ((3:Nat)*g) b) ((0:Nat)+i) j)) (.c (.sl 1 c.length (bytesF c))),(0:Int)≤Int.ofNat (0)∧Int.ofNat (0)≤Int.ofNat c.length∧Int.ofNat c.length≤Int.ofNat c.length∧Int.ofNat c.length≤(↑(b.length-(3:Nat)*g):Int),inR .i64 ((c.length:Int)+1),(0:Int)≤Int.ofNat (0)∧Int.ofNat (0)≤Int.ofNat (c.length+1)∧Int.ofNat (c.length+1)≤(↑(4:Nat):Int)] ⟨aS,fun _ _=>trivial,aS,fun _ _=>trivial,aS,⟨dC,⟨(by simp;done),⟨oM,sO⟩⟩⟩,i6,⟨dC,⟨sO,sO⟩⟩⟩ ?_
   refine Wp.unrK kR 5 (fun UL0 uUL0 => ?_)
   refine zg [(3,{fm:=[(2,.c (.int .i64 (c.length:Int)))]}),(4,{fm:=[(3,.c (.sl 1 c.length (bytesF c)))]}),(10,{fm:=[(2,.c (.sl 1 (b.length-3*(g+1)) (bytesF (b.drop (3*(g+1))))))]}),(8,{cs:=[(2,cb [16] w0)]})] [true] [decide ((0:Int)<(↑((Int.ofNat (c.length+1)).toNat-(0:Nat)):Int))=true,(0:Int)≤(0:Int)∧(0:Int)<(↑((Int.ofNat (c.length+1)).toNat-(0:Nat)):Int),(0:Int)≤by3 c (0:Nat) / (4:Int)∧by3 c (0:Nat) / (4:Int)<(↑(64:Nat):Int),inR .i64 (0+1)] ⟨(by simp;done),⟨oM,(by simp;done)⟩,oM,i6⟩ ?_
   refine Wp.lpK kR (uUL0 4 _ ?_)
   refine zg [(3,{fm:=[(2,.c (.int .i64 (c.length:Int)))]}),(4,{fm:=[(3,.c (.sl 1 c.length (bytesF c)))]}),(10,{fm:=[(2,.c (.sl 1 (b.length-3*(g+1)) (bytesF (b.drop (3*(g+1))))))]}),(8,{cs:=[(2,cb [16,432] w1)]})] [true] [decide ((0:Int)+(1:Int)<(↑((Int.ofNat (c.length+1)).toNat-(0:Nat)):Int))=true,(0:Int)≤(0:Int)+(1:Int)∧(0:Int)+(1:Int)<(↑((Int.ofNat (c.length+1)).toNat-(0:Nat)):Int),(0:Int)≤by3 c (0:Nat)%(4:Int)*(16:Int)+by3 c (1:Nat) / (16:Int)∧by3 c (0:Nat)%(4:Int)*(16:Int)+by3 c (1:Nat) / (16:Int)<(↑(64:Nat):Int),inR .i64 (0+1+1)] ⟨sO,⟨oM,sO⟩,oM,i6⟩ ?_
   refine Wp.lpK kR (uUL0 3 _ ?_)
   refine zg [(3,{fm:=[(2,.c (.int .i64 (c.length:Int)))]}),(4,{fm:=[(3,.c (.sl 1 c.length (bytesF c)))]}),(10,{fm:=[(2,.c (.sl 1 (b.length-3*(g+1)) (bytesF (b.drop (3*(g+1))))))]}),(8,{cs:=[(2,cb [16,576] w2)]})] [true] [decide ((0:Int)+(1:Int)+(1:Int)<(↑((Int.ofNat (c.length+1)).toNat-(0:Nat)):Int))=true,(0:Int)≤(0:Int)+(1:Int)+(1:Int)∧(0:Int)+(1:Int)+(1:Int)<(↑((Int.ofNat (c.length+1)).toNat-(0:Nat)):Int),(0:Int)≤by3 c (1:Nat)%(16:Int)*(4:Int)+by3 c (2:Nat) / (64:Int)∧by3 c (1:Nat)%(16:Int)*(4:Int)+by3 c (2:Nat) / (64:Int)<(↑(64:Nat):Int),inR .i64 (0+1+1+1)] ⟨sO,⟨oM,sO⟩,oM,i6⟩ ?_
   refine Wp.lpK kR (uUL0 2 _ ?_)
   refine zg [(3,{fm:=[(2,.c (.int .i64 (c.length:Int)))]}),(4,{fm:=[(3,.c (.sl 1 c.length (bytesF c)))]}),(10,{fm:=[(2,.c (.sl 1 (b.length-3*(g+1)) (bytesF (b.drop (3*(g+1))))))]}),(8,{cs:=[(2,cb [16,720] w3)]})] [true] [decide ((0:Int)+(1:Int)+(1:Int)+(1:Int)<(↑((Int.ofNat (c.length+1)).toNat-(0:Nat)):Int))=true,(0:Int)≤(0:Int)+(1:Int)+(1:Int)+(1:Int)∧(0:Int)+(1:Int)+(1:Int)+(1:Int)<(↑((Int.ofNat (c.length+1)).toNat-(0:Nat)):Int),(0:Int)≤by3 c (2:Nat)%(64:Int)∧by3 c (2:Nat)%(64:Int)<(↑(64:Nat):Int),inR .i64 (0+1+1+1+1)] ⟨sO,⟨oM,sO⟩,oM,i6⟩ ?_
   refine Wp.lpK kR (uUL0 1 _ ?_)
   refine zg [(3,{fm:=[(2,.c (.int .i64 (c.length:Int)))]}),(4,{fm:=[(3,.c (.sl 1 c.length (bytesF c)))]}),(10,{fm:=[(2,.c (.sl 1 (b.length-3*(g+1)) (bytesF (b.drop (3*(g+1))))))]})] [false] [decide ((0:Int)+(1:Int)+(1:Int)+(1:Int)+(1:Int)<(↑((Int.ofNat (c.length+1)).toNat-(0:Nat)):Int))=false,EqvI (.c (.sl 1 ((Int.ofNat (b.length-(3:Nat)*g)).toNat-(Int.ofNat c.length).toNat) fun i j=>bytesF (List.drop ((3:Nat)*g) b) ((Int.ofNat c.length).toNat+i) j)) (.c (.sl 1 (b.length-(3:Nat)*(g+(1:Nat))) (bytesF (List.drop ((3:Nat)*(g+(1:Nat))) b)))),EqvD (.c (.sl 1 ((Int.ofNat (b.length-(3:Nat)*g)).toNat-(Int.ofNat c.length).toNat) fun i j=>bytesF (List.drop ((3:Nat)*g) b) ((Int.ofNat c.length).toNat+i) j)) (.c (.sl 1 (b.length-(3:Nat)*(g+(1:Nat))) (bytesF (List.drop ((3:Nat)*(g+(1:Nat))) b)))),(0:Int)≤Int.ofNat c.length∧Int.ofNat c.length≤Int.ofNat (b.length-(3:Nat)*g)∧Int.ofNat (b.length-(3:Nat)*g)≤(↑(b.length-(3:Nat)*g):Int)] ⟨sO,fun _ _=>trivial,aS,⟨(by simp;done),⟨sO,(by simp;done)⟩⟩⟩ ?_
   exact za [(0,864)] (again _ (g+1,some (1+1+1+1,[sgE (by3 c 0 / 4)]++[sgE (by3 c 0%4*16+by3 c 1 / 16)]++[sgE (by3 c 1%16*4+by3 c 2 / 64)]++[sgE (by3 c 2%64)])) hfin (by show b.length+3-3*(g+1)<b.length+3-3*g;omega))
  | some (n,l),hx =>
   obtain ⟨x1,x2,x3,x4,x5⟩:=hx
   by_cases hl1:c.length=1
   ·have w0:=wb_b (G:=G) (n) (l) x4 oM (sgE (by3 c 0 / 4))
    have w1:=wb_b (G:=G) (n+1) (l++[sgE (by3 c 0 / 4)]) (by simp [← x4]) oM (sgE (by3 c 0%4*16+by3 c 1 / 16))
    have hfin:encOF b (g+1,some (n+1+1,l++[sgE (by3 c 0 / 4)]++[sgE (by3 c 0%4*16+by3 c 1 / 16)])):=by
     have hG:encG b (g+1)=encG b g++outE c:=by show encG b g++grp b g=_;rw [hgr]
     have hO:outE c=[sgE (by3 c 0 / 4),sgE (by3 c 0%4*16+by3 c 1 / 16)]:=by unfold outE;rw [hl1];rfl
     refine ⟨by omega,by omega,?_,by simp [← x4],by omega⟩
     rw [hG,hO,x3];simp
    clear hgr hc hm
    refine zg [(3,{fm:=[(2,.c (.int .i64 (c.length:Int)))]}),(4,{cs:=[(4,pc c4)],fm:=[(3,.c (.sl 1 c.length (bytesF c)))]}),(10,{fm:=[(2,.c (.sl 1 (b.length-3*(g+1)) (bytesF (b.drop (3*(g+1))))))]})] [true] [decide ((↑(b.length-(3:Nat)*g):Int)>(0:Int))=true,EqvI (.c (.int .i64 (if (↑(b.length-(3:Nat)*g):Int)<(3:Int) then (↑(b.length-(3:Nat)*g):Int) else (3:Int)))) (.c (.int .i64 (c.length:Int))),EqvD (.c (.int .i64 (if (↑(b.length-(3:Nat)*g):Int)<(3:Int) then (↑(b.length-(3:Nat)*g):Int) else (3:Int)))) (.c (.int .i64 (c.length:Int))),EqvI (.c (.sl 1 ((Int.ofNat c.length).toNat-(0:Nat)) fun i j=>bytesF (List.drop ((3:Nat)*g) b) ((0:Nat)+i) j)) (.c (.sl 1 c.length (bytesF c))),EqvD (.c (.sl 1 ((Int.ofNat c.length).toNat-(0:Nat)) fun i j=>bytesF (List.drop ((3:Nat)*g) b) ((0:Nat)+i) j)) (.c (.sl 1 c.length (bytesF c))),(0:Int)≤Int.ofNat (0)∧Int.ofNat (0)≤Int.ofNat c.length∧Int.ofNat c.length≤Int.ofNat c.length∧Int.ofNat c.length≤(↑(b.length-(3:Nat)*g):Int),inR .i64 ((c.length:Int)+1),(0:Int)≤Int.ofNat (0)∧Int.ofNat (0)≤Int.ofNat (c.length+1)∧Int.ofNat (c.length+1)≤(↑(4:Nat):Int)] ⟨aS,fun _ _=>trivial,aS,fun _ _=>trivial,aS,⟨dC,⟨(by simp;done),⟨oM,sO⟩⟩⟩,i6,⟨dC,⟨sO,sO⟩⟩⟩ ?_
    refine Wp.unrK kR 5 (fun UL0 uUL0 => ?_)
    refine zg [(3,{fm:=[(2,.c (.int .i64 (c.length:Int)))]}),(4,{fm:=[(3,.c (.sl 1 c.length (bytesF c)))]}),(10,{fm:=[(2,.c (.sl 1 (b.length-3*(g+1)) (bytesF (b.drop (3*(g+1))))))]}),(8,{cs:=[(2,cb [16,0] w0)]})] [true] [decide ((0:Int)<(↑((Int.ofNat (c.length+1)).toNat-(0:Nat)):Int))=true,(0:Int)≤(0:Int)∧(0:Int)<(↑((Int.ofNat (c.length+1)).toNat-(0:Nat)):Int),(0:Int)≤by3 c (0:Nat) / (4:Int)∧by3 c (0:Nat) / (4:Int)<(↑(64:Nat):Int),inR .i64 (0+1)] ⟨(by simp;done),⟨oM,(by simp;done)⟩,oM,i6⟩ ?_
    refine Wp.lpK kR (uUL0 4 _ ?_)
    refine zg [(3,{fm:=[(2,.c (.int .i64 (c.length:Int)))]}),(4,{fm:=[(3,.c (.sl 1 c.length (bytesF c)))]}),(10,{fm:=[(2,.c (.sl 1 (b.length-3*(g+1)) (bytesF (b.drop (3*(g+1))))))]}),(8,{cs:=[(2,cb [16,432] w1)]})] [true] [decide ((0:Int)+(1:Int)<(↑((Int.ofNat (c.length+1)).toNat-(0:Nat)):Int))=true,(0:Int)≤(0:Int)+(1:Int)∧(0:Int)+(1:Int)<(↑((Int.ofNat (c.length+1)).toNat-(0:Nat)):Int),(0:Int)≤by3 c (0:Nat)%(4:Int)*(16:Int)+by3 c (1:Nat) / (16:Int)∧by3 c (0:Nat)%(4:Int)*(16:Int)+by3 c (1:Nat) / (16:Int)<(↑(64:Nat):Int),inR .i64 (0+1+1)] ⟨sO,⟨oM,sO⟩,oM,i6⟩ ?_
    refine Wp.lpK kR (uUL0 3 _ ?_)
    refine zg [(3,{fm:=[(2,.c (.int .i64 (c.length:Int)))]}),(4,{fm:=[(3,.c (.sl 1 c.length (bytesF c)))]}),(10,{fm:=[(2,.c (.sl 1 (b.length-3*(g+1)) (bytesF (b.drop (3*(g+1))))))]})] [false] [decide ((0:Int)+(1:Int)+(1:Int)<(↑((Int.ofNat (c.length+1)).toNat-(0:Nat)):Int))=false,EqvI (.c (.sl 1 ((Int.ofNat (b.length-(3:Nat)*g)).toNat-(Int.ofNat c.length).toNat) fun i j=>bytesF (List.drop ((3:Nat)*g) b) ((Int.ofNat c.length).toNat+i) j)) (.c (.sl 1 (b.length-(3:Nat)*(g+(1:Nat))) (bytesF (List.drop ((3:Nat)*(g+(1:Nat))) b)))),EqvD (.c (.sl 1 ((Int.ofNat (b.length-(3:Nat)*g)).toNat-(Int.ofNat c.length).toNat) fun i j=>bytesF (List.drop ((3:Nat)*g) b) ((Int.ofNat c.length).toNat+i) j)) (.c (.sl 1 (b.length-(3:Nat)*(g+(1:Nat))) (bytesF (List.drop ((3:Nat)*(g+(1:Nat))) b)))),(0:Int)≤Int.ofNat c.length∧Int.ofNat c.length≤Int.ofNat (b.length-(3:Nat)*g)∧Int.ofNat (b.length-(3:Nat)*g)≤(↑(b.length-(3:Nat)*g):Int)] ⟨sO,fun _ _=>trivial,aS,⟨(by simp;done),⟨sO,(by simp;done)⟩⟩⟩ ?_
    exact za [(0,576)] (again _ (g+1,some (n+1+1,l++[sgE (by3 c 0 / 4)]++[sgE (by3 c 0%4*16+by3 c 1 / 16)])) hfin (by show b.length+3-3*(g+1)<b.length+3-3*g;omega))
   by_cases hl2:c.length=2
   ·have w0:=wb_b (G:=G) (n) (l) x4 oM (sgE (by3 c 0 / 4))
    have w1:=wb_b (G:=G) (n+1) (l++[sgE (by3 c 0 / 4)]) (by simp [← x4]) oM (sgE (by3 c 0%4*16+by3 c 1 / 16))
    have w2:=wb_b (G:=G) (n+1+1) (l++[sgE (by3 c 0 / 4)]++[sgE (by3 c 0%4*16+by3 c 1 / 16)]) (by simp [← x4]) oM (sgE (by3 c 1%16*4+by3 c 2 / 64))
    have hfin:encOF b (g+1,some (n+1+1+1,l++[sgE (by3 c 0 / 4)]++[sgE (by3 c 0%4*16+by3 c 1 / 16)]++[sgE (by3 c 1%16*4+by3 c 2 / 64)])):=by
     have hG:encG b (g+1)=encG b g++outE c:=by show encG b g++grp b g=_;rw [hgr]
     have hO:outE c=[sgE (by3 c 0 / 4),sgE (by3 c 0%4*16+by3 c 1 / 16),sgE (by3 c 1%16*4+by3 c 2 / 64)]:=by unfold outE;rw [hl2];rfl
     refine ⟨by omega,by omega,?_,by simp [← x4],by omega⟩
     rw [hG,hO,x3];simp
    clear hgr hc hm
    refine zg [(3,{fm:=[(2,.c (.int .i64 (c.length:Int)))]}),(4,{cs:=[(4,pc c4)],fm:=[(3,.c (.sl 1 c.length (bytesF c)))]}),(10,{fm:=[(2,.c (.sl 1 (b.length-3*(g+1)) (bytesF (b.drop (3*(g+1))))))]})] [true] [decide ((↑(b.length-(3:Nat)*g):Int)>(0:Int))=true,EqvI (.c (.int .i64 (if (↑(b.length-(3:Nat)*g):Int)<(3:Int) then (↑(b.length-(3:Nat)*g):Int) else (3:Int)))) (.c (.int .i64 (c.length:Int))),EqvD (.c (.int .i64 (if (↑(b.length-(3:Nat)*g):Int)<(3:Int) then (↑(b.length-(3:Nat)*g):Int) else (3:Int)))) (.c (.int .i64 (c.length:Int))),EqvI (.c (.sl 1 ((Int.ofNat c.length).toNat-(0:Nat)) fun i j=>bytesF (List.drop ((3:Nat)*g) b) ((0:Nat)+i) j)) (.c (.sl 1 c.length (bytesF c))),EqvD (.c (.sl 1 ((Int.ofNat c.length).toNat-(0:Nat)) fun i j=>bytesF (List.drop ((3:Nat)*g) b) ((0:Nat)+i) j)) (.c (.sl 1 c.length (bytesF c))),(0:Int)≤Int.ofNat (0)∧Int.ofNat (0)≤Int.ofNat c.length∧Int.ofNat c.length≤Int.ofNat c.length∧Int.ofNat c.length≤(↑(b.length-(3:Nat)*g):Int),inR .i64 ((c.length:Int)+1),(0:Int)≤Int.ofNat (0)∧Int.ofNat (0)≤Int.ofNat (c.length+1)∧Int.ofNat (c.length+1)≤(↑(4:Nat):Int)] ⟨aS,fun _ _=>trivial,aS,fun _ _=>trivial,aS,⟨dC,⟨(by simp;done),⟨oM,sO⟩⟩⟩,i6,⟨dC,⟨sO,sO⟩⟩⟩ ?_
    refine Wp.unrK kR 5 (fun UL0 uUL0 => ?_)
    refine zg [(3,{fm:=[(2,.c (.int .i64 (c.length:Int)))]}),(4,{fm:=[(3,.c (.sl 1 c.length (bytesF c)))]}),(10,{fm:=[(2,.c (.sl 1 (b.length-3*(g+1)) (bytesF (b.drop (3*(g+1))))))]}),(8,{cs:=[(2,cb [16,0] w0)]})] [true] [decide ((0:Int)<(↑((Int.ofNat (c.length+1)).toNat-(0:Nat)):Int))=true,(0:Int)≤(0:Int)∧(0:Int)<(↑((Int.ofNat (c.length+1)).toNat-(0:Nat)):Int),(0:Int)≤by3 c (0:Nat) / (4:Int)∧by3 c (0:Nat) / (4:Int)<(↑(64:Nat):Int),inR .i64 (0+1)] ⟨(by simp;done),⟨oM,(by simp;done)⟩,oM,i6⟩ ?_
    refine Wp.lpK kR (uUL0 4 _ ?_)
    refine zg [(3,{fm:=[(2,.c (.int .i64 (c.length:Int)))]}),(4,{fm:=[(3,.c (.sl 1 c.length (bytesF c)))]}),(10,{fm:=[(2,.c (.sl 1 (b.length-3*(g+1)) (bytesF (b.drop (3*(g+1))))))]}),(8,{cs:=[(2,cb [16,432] w1)]})] [true] [decide ((0:Int)+(1:Int)<(↑((Int.ofNat (c.length+1)).toNat-(0:Nat)):Int))=true,(0:Int)≤(0:Int)+(1:Int)∧(0:Int)+(1:Int)<(↑((Int.ofNat (c.length+1)).toNat-(0:Nat)):Int),(0:Int)≤by3 c (0:Nat)%(4:Int)*(16:Int)+by3 c (1:Nat) / (16:Int)∧by3 c (0:Nat)%(4:Int)*(16:Int)+by3 c (1:Nat) / (16:Int)<(↑(64:Nat):Int),inR .i64 (0+1+1)] ⟨sO,⟨oM,sO⟩,oM,i6⟩ ?_
    refine Wp.lpK kR (uUL0 3 _ ?_)
    refine zg [(3,{fm:=[(2,.c (.int .i64 (c.length:Int)))]}),(4,{fm:=[(3,.c (.sl 1 c.length (bytesF c)))]}),(10,{fm:=[(2,.c (.sl 1 (b.length-3*(g+1)) (bytesF (b.drop (3*(g+1))))))]}),(8,{cs:=[(2,cb [16,576] w2)]})] [true] [decide ((0:Int)+(1:Int)+(1:Int)<(↑((Int.ofNat (c.length+1)).toNat-(0:Nat)):Int))=true,(0:Int)≤(0:Int)+(1:Int)+(1:Int)∧(0:Int)+(1:Int)+(1:Int)<(↑((Int.ofNat (c.length+1)).toNat-(0:Nat)):Int),(0:Int)≤by3 c (1:Nat)%(16:Int)*(4:Int)+by3 c (2:Nat) / (64:Int)∧by3 c (1:Nat)%(16:Int)*(4:Int)+by3 c (2:Nat) / (64:Int)<(↑(64:Nat):Int),inR .i64 (0+1+1+1)] ⟨sO,⟨oM,sO⟩,oM,i6⟩ ?_
    refine Wp.lpK kR (uUL0 2 _ ?_)
    refine zg [(3,{fm:=[(2,.c (.int .i64 (c.length:Int)))]}),(4,{fm:=[(3,.c (.sl 1 c.length (bytesF c)))]}),(10,{fm:=[(2,.c (.sl 1 (b.length-3*(g+1)) (bytesF (b.drop (3*(g+1))))))]})] [false] [decide ((0:Int)+(1:Int)+(1:Int)+(1:Int)<(↑((Int.ofNat (c.length+1)).toNat-(0:Nat)):Int))=false,EqvI (.c (.sl 1 ((Int.ofNat (b.length-(3:Nat)*g)).toNat-(Int.ofNat c.length).toNat) fun i j=>bytesF (List.drop ((3:Nat)*g) b) ((Int.ofNat c.length).toNat+i) j)) (.c (.sl 1 (b.length-(3:Nat)*(g+(1:Nat))) (bytesF (List.drop ((3:Nat)*(g+(1:Nat))) b)))),EqvD (.c (.sl 1 ((Int.ofNat (b.length-(3:Nat)*g)).toNat-(Int.ofNat c.length).toNat) fun i j=>bytesF (List.drop ((3:Nat)*g) b) ((Int.ofNat c.length).toNat+i) j)) (.c (.sl 1 (b.length-(3:Nat)*(g+(1:Nat))) (bytesF (List.drop ((3:Nat)*(g+(1:Nat))) b)))),(0:Int)≤Int.ofNat c.length∧Int.ofNat c.length≤Int.ofNat (b.length-(3:Nat)*g)∧Int.ofNat (b.length-(3:Nat)*g)≤(↑(b.length-(3:Nat)*g):Int)] ⟨sO,fun _ _=>trivial,aS,⟨(by simp;done),⟨sO,(by simp;done)⟩⟩⟩ ?_
    exact za [(0,720)] (again _ (g+1,some (n+1+1+1,l++[sgE (by3 c 0 / 4)]++[sgE (by3 c 0%4*16+by3 c 1 / 16)]++[sgE (by3 c 1%16*4+by3 c 2 / 64)])) hfin (by show b.length+3-3*(g+1)<b.length+3-3*g;omega))
   have hl3:c.length=3:=by omega
   have w0:=wb_b (G:=G) (n) (l) x4 oM (sgE (by3 c 0 / 4))
   have w1:=wb_b (G:=G) (n+1) (l++[sgE (by3 c 0 / 4)]) (by simp [← x4]) oM (sgE (by3 c 0%4*16+by3 c 1 / 16))
   have w2:=wb_b (G:=G) (n+1+1) (l++[sgE (by3 c 0 / 4)]++[sgE (by3 c 0%4*16+by3 c 1 / 16)]) (by simp [← x4]) oM (sgE (by3 c 1%16*4+by3 c 2 / 64))
   have w3:=wb_b (G:=G) (n+1+1+1) (l++[sgE (by3 c 0 / 4)]++[sgE (by3 c 0%4*16+by3 c 1 / 16)]++[sgE (by3 c 1%16*4+by3 c 2 / 64)]) (by simp [← x4]) oM (sgE (by3 c 2%64))
   have hfin:encOF b (g+1,some (n+1+1+1+1,l++[sgE (by3 c 0 / 4)]++[sgE (by3 c 0%4*16+by3 c 1 / 16)]++[sgE (by3 c 1%16*4+by3 c 2 / 64)]++[sgE (by3 c 2%64)])):=by
    have hG:encG b (g+1)=encG b g++outE c:=by show encG b g++grp b g=_;rw [hgr]
    have hO:outE c=[sgE (by3 c 0 / 4),sgE (by3 c 0%4*16+by3 c 1 / 16),sgE (by3 c 1%16*4+by3 c 2 / 64),sgE (by3 c 2%64)]:=by unfold outE;rw [hl3];rfl
    refine ⟨by omega,by omega,?_,by simp [← x4],by omega⟩
    rw [hG,hO,x3];simp
   clear hgr hc hm
   refine zg [(3,{fm:=[(2,.c (.int .i64 (c.length:Int)))]}),(4,{cs:=[(4,pc c4)],fm:=[(3,.c (.sl 1 c.length (bytesF c)))]}),(10,{fm:=[(2,.c (.sl 1 (b.length-3*(g+1)) (bytesF (b.drop (3*(g+1))))))]})] [true] [decide ((↑(b.length-(3:Nat)*g):Int)>(0:Int))=true,EqvI (.c (.int .i64 (if (↑(b.length-(3:Nat)*g):Int)<(3:Int) then (↑(b.length-(3:Nat)*g):Int) else (3:Int)))) (.c (.int .i64 (c.length:Int))),EqvD (.c (.int .i64 (if (↑(b.length-(3:Nat)*g):Int)<(3:Int) then (↑(b.length-(3:Nat)*g):Int) else (3:Int)))) (.c (.int .i64 (c.length:Int))),EqvI (.c (.sl 1 ((Int.ofNat c.length).toNat-(0:Nat)) fun i j=>bytesF (List.drop ((3:Nat)*g) b) ((0:Nat)+i) j)) (.c (.sl 1 c.length (bytesF c))),EqvD (.c (.sl 1 ((Int.ofNat c.length).toNat-(0:Nat)) fun i j=>bytesF (List.drop ((3:Nat)*g) b) ((0:Nat)+i) j)) (.c (.sl 1 c.length (bytesF c))),(0:Int)≤Int.ofNat (0)∧Int.ofNat (0)≤Int.ofNat c.length∧Int.ofNat c.length≤Int.ofNat c.length∧Int.ofNat c.length≤(↑(b.length-(3:Nat)*g):Int),inR .i64 ((c.length:Int)+1),(0:Int)≤Int.ofNat (0)∧Int.ofNat (0)≤Int.ofNat (c.length+1)∧Int.ofNat (c.length+1)≤(↑(4:Nat):Int)] ⟨aS,fun _ _=>trivial,aS,fun _ _=>trivial,aS,⟨dC,⟨(by simp;done),⟨oM,sO⟩⟩⟩,i6,⟨dC,⟨sO,sO⟩⟩⟩ ?_
   refine Wp.unrK kR 5 (fun UL0 uUL0 => ?_)
   refine zg [(3,{fm:=[(2,.c (.int .i64 (c.length:Int)))]}),(4,{fm:=[(3,.c (.sl 1 c.length (bytesF c)))]}),(10,{fm:=[(2,.c (.sl 1 (b.length-3*(g+1)) (bytesF (b.drop (3*(g+1))))))]}),(8,{cs:=[(2,cb [16,0] w0)]})] [true] [decide ((0:Int)<(↑((Int.ofNat (c.length+1)).toNat-(0:Nat)):Int))=true,(0:Int)≤(0:Int)∧(0:Int)<(↑((Int.ofNat (c.length+1)).toNat-(0:Nat)):Int),(0:Int)≤by3 c (0:Nat) / (4:Int)∧by3 c (0:Nat) / (4:Int)<(↑(64:Nat):Int),inR .i64 (0+1)] ⟨(by simp;done),⟨oM,(by simp;done)⟩,oM,i6⟩ ?_
   refine Wp.lpK kR (uUL0 4 _ ?_)
   refine zg [(3,{fm:=[(2,.c (.int .i64 (c.length:Int)))]}),(4,{fm:=[(3,.c (.sl 1 c.length (bytesF c)))]}),(10,{fm:=[(2,.c (.sl 1 (b.length-3*(g+1)) (bytesF (b.drop (3*(g+1))))))]}),(8,{cs:=[(2,cb [16,432] w1)]})] [true] [decide ((0:Int)+(1:Int)<(↑((Int.ofNat (c.length+1)).toNat-(0:Nat)):Int))=true,(0:Int)≤(0:Int)+(1:Int)∧(0:Int)+(1:Int)<(↑((Int.ofNat (c.length+1)).toNat-(0:Nat)):Int),(0:Int)≤by3 c (0:Nat)%(4:Int)*(16:Int)+by3 c (1:Nat) / (16:Int)∧by3 c (0:Nat)%(4:Int)*(16:Int)+by3 c (1:Nat) / (16:Int)<(↑(64:Nat):Int),inR .i64 (0+1+1)] ⟨sO,⟨oM,sO⟩,oM,i6⟩ ?_
   refine Wp.lpK kR (uUL0 3 _ ?_)
   refine zg [(3,{fm:=[(2,.c (.int .i64 (c.length:Int)))]}),(4,{fm:=[(3,.c (.sl 1 c.length (bytesF c)))]}),(10,{fm:=[(2,.c (.sl 1 (b.length-3*(g+1)) (bytesF (b.drop (3*(g+1))))))]}),(8,{cs:=[(2,cb [16,576] w2)]})] [true] [decide ((0:Int)+(1:Int)+(1:Int)<(↑((Int.ofNat (c.length+1)).toNat-(0:Nat)):Int))=true,(0:Int)≤(0:Int)+(1:Int)+(1:Int)∧(0:Int)+(1:Int)+(1:Int)<(↑((Int.ofNat (c.length+1)).toNat-(0:Nat)):Int),(0:Int)≤by3 c (1:Nat)%(16:Int)*(4:Int)+by3 c (2:Nat) / (64:Int)∧by3 c (1:Nat)%(16:Int)*(4:Int)+by3 c (2:Nat) / (64:Int)<(↑(64:Nat):Int),inR .i64 (0+1+1+1)] ⟨sO,⟨oM,sO⟩,oM,i6⟩ ?_
   refine Wp.lpK kR (uUL0 2 _ ?_)
   refine zg [(3,{fm:=[(2,.c (.int .i64 (c.length:Int)))]}),(4,{fm:=[(3,.c (.sl 1 c.length (bytesF c)))]}),(10,{fm:=[(2,.c (.sl 1 (b.length-3*(g+1)) (bytesF (b.drop (3*(g+1))))))]}),(8,{cs:=[(2,cb [16,720] w3)]})] [true] [decide ((0:Int)+(1:Int)+(1:Int)+(1:Int)<(↑((Int.ofNat (c.length+1)).toNat-(0:Nat)):Int))=true,(0:Int)≤(0:Int)+(1:Int)+(1:Int)+(1:Int)∧(0:Int)+(1:Int)+(1:Int)+(1:Int)<(↑((Int.ofNat (c.length+1)).toNat-(0:Nat)):Int),(0:Int)≤by3 c (2:Nat)%(64:Int)∧by3 c (2:Nat)%(64:Int)<(↑(64:Nat):Int),inR .i64 (0+1+1+1+1)] ⟨sO,⟨oM,sO⟩,oM,i6⟩ ?_
   refine Wp.lpK kR (uUL0 1 _ ?_)
   refine zg [(3,{fm:=[(2,.c (.int .i64 (c.length:Int)))]}),(4,{fm:=[(3,.c (.sl 1 c.length (bytesF c)))]}),(10,{fm:=[(2,.c (.sl 1 (b.length-3*(g+1)) (bytesF (b.drop (3*(g+1))))))]})] [false] [decide ((0:Int)+(1:Int)+(1:Int)+(1:Int)+(1:Int)<(↑((Int.ofNat (c.length+1)).toNat-(0:Nat)):Int))=false,EqvI (.c (.sl 1 ((Int.ofNat (b.length-(3:Nat)*g)).toNat-(Int.ofNat c.length).toNat) fun i j=>bytesF (List.drop ((3:Nat)*g) b) ((Int.ofNat c.length).toNat+i) j)) (.c (.sl 1 (b.length-(3:Nat)*(g+(1:Nat))) (bytesF (List.drop ((3:Nat)*(g+(1:Nat))) b)))),EqvD (.c (.sl 1 ((Int.ofNat (b.length-(3:Nat)*g)).toNat-(Int.ofNat c.length).toNat) fun i j=>bytesF (List.drop ((3:Nat)*g) b) ((Int.ofNat c.length).toNat+i) j)) (.c (.sl 1 (b.length-(3:Nat)*(g+(1:Nat))) (bytesF (List.drop ((3:Nat)*(g+(1:Nat))) b)))),(0:Int)≤Int.ofNat c.length∧Int.ofNat c.length≤Int.ofNat (b.length-(3:Nat)*g)∧Int.ofNat (b.length-(3:Nat)*g)≤(↑(b.length-(3:Nat)*g):Int)] ⟨sO,fun _ _=>trivial,aS,⟨(by simp;done),⟨sO,(by simp;done)⟩⟩⟩ ?_
   exact za [(0,864)] (again _ (g+1,some (n+1+1+1+1,l++[sgE (by3 c 0 / 4)]++[sgE (by3 c 0%4*16+by3 c 1 / 16)]++[sgE (by3 c 1%16*4+by3 c 2 / 64)]++[sgE (by3 c 2%64)])) hfin (by show b.length+3-3*(g+1)<b.length+3-3*g;omega))
 ·have hlt:decide (((b.length-3*g:Nat):Int)>(0:Int))=false:=by simp;omega
  match o,hx with
  | none,hx =>
   obtain rfl:g=0:=hx
   obtain rfl:b=[]:=List.length_eq_zero_iff.1 oM
   have c1:=str_a (G:=G)
   clear again
   refine zg [(11,{cs:=[(0,cb [16] c1)]})] [false] [decide ((↑(([]:List UInt8).length-(3:Nat)*(0:Nat)):Int)>(0:Int))=false] rfl ?_
   exact zr
  | some (n,l),hx =>
   obtain ⟨x1,x2,x3,x4,x5⟩:=hx
   have hE:enc8 b=l:=by unfold enc8;rw [x3];congr 1;omega
   have h0:0<n:=by
    rw [x4,x3]
    obtain ⟨g,rfl⟩:∃ g',g=g'+1:=⟨g-1,by omega⟩
    rw [encG,List.length_append,grp_out b g oM]
    unfold outE
    simp
    omega
   rw [hE]
   have c1:=str_b (G:=G) n l x4 h0 oM
   clear hE x3 again
   refine zg [(11,{cs:=[(0,cb [16,0] c1)]})] [false] [decide ((↑(b.length-(3:Nat)*g):Int)>(0:Int))=false] (oN aS) ?_
   exact zr
theorem lib_HasSuffix (s p:List UInt8) (hl:s.length≤30000000000000):Pur Tryz.prog G 83 [.c (.str s),.c (.str p)] [.c (.bool (Lib.hasSuffix s p))]:=by
 have c:Pur Tryz.prog G 136 [.c (.str s),.c (.str p)] [.c (.bool (Lib.hasSuffix s p))]:=by
  refine zp Tryz.func136 ?_
  have hx:=Lib.hasSuffix_of_drop s p
  by_cases h:p.length≤s.length
  ·rw [decide_eq_true h,Bool.true_and] at hx
   have e2:EqvD (.c (.int .i64 ((s.length:Int)-(p.length:Int)))) (.c (.int .i64 ((s.length-p.length:Nat):Int))):=eqvD_of (by rw [show (s.length:Int)-(p.length:Int)=((s.length-p.length:Nat):Int) by omega])
   have e1:EqvD (.c (.str (List.drop (s.length-p.length) (List.take s.length s)))) (.c (.str (s.drop (s.length-p.length)))):=eqvD_of (by rw [List.take_length])
   rw [← hx]
   refine zg [(1,{fm:=[(11,.c (.int .i64 ((s.length-p.length:Nat):Int))),(12,.c (.str (s.drop (s.length-p.length))))]})] [] [EqvI (.c (.int .i64 ((s.length:Int)-(p.length:Int)))) (.c (.int .i64 (↑(s.length-p.length):Int))),decide ((s.length:Int)≥(p.length:Int))=true→EqvD (.c (.int .i64 ((s.length:Int)-(p.length:Int)))) (.c (.int .i64 (↑(s.length-p.length):Int))),decide ((s.length:Int)≥(p.length:Int))=true→inR .i64 ((s.length:Int)-(p.length:Int)),EqvI (.c (.str (List.drop (Int.ofNat (s.length-p.length)).toNat (List.take (Int.ofNat s.length).toNat s)))) (.c (.str (List.drop (s.length-p.length) s))),decide ((s.length:Int)≥(p.length:Int))=true→EqvD (.c (.str (List.drop (Int.ofNat (s.length-p.length)).toNat (List.take (Int.ofNat s.length).toNat s)))) (.c (.str (List.drop (s.length-p.length) s))),decide ((s.length:Int)≥(p.length:Int))=true→(0:Int)≤Int.ofNat (s.length-p.length)∧Int.ofNat (s.length-p.length)≤Int.ofNat s.length∧Int.ofNat s.length≤(s.length:Int)] ⟨fun _ _=>trivial,(by intro _;assumption),(fun _=>i6),fun _ _=>trivial,(by intro _;assumption),(show decide ((↑s.length:Int)≥(↑p.length:Int))=true→(0:Int)≤Int.ofNat (s.length-p.length)∧Int.ofNat (s.length-p.length)≤Int.ofNat s.length∧Int.ofNat s.length≤(↑s.length:Int) from (by simp;done))⟩ ?_
   exact zS [.c (.bool (bif decide ((↑s.length:Int)≥(↑p.length:Int)) then List.drop (s.length-p.length) s==p else false))] (by simp [*];done)
  ·rw [decide_eq_false h,Bool.false_and] at hx
   rw [← hx]
   refine zg [(1,{grd:=[(6,false),(7,false),(8,false),(9,false),(10,false),(11,false),(12,false),(13,false),(14,false),(15,false)]})] [] [decide ((s.length:Int)≥(p.length:Int)) = !true,decide ((s.length:Int)≥(p.length:Int)) = !true,decide ((s.length:Int)≥(p.length:Int)) = !true,decide ((s.length:Int)≥(p.length:Int)) = !true,decide ((s.length:Int)≥(p.length:Int)) = !true,decide ((s.length:Int)≥(p.length:Int)) = !true,decide ((s.length:Int)≥(p.length:Int)) = !true,decide ((s.length:Int)≥(p.length:Int)) = !true,decide ((s.length:Int)≥(p.length:Int)) = !true,decide ((s.length:Int)≥(p.length:Int))=false] ⟨sO,sO,sO,sO,sO,sO,sO,sO,sO,(show decide ((↑s.length:Int)≥(↑p.length:Int))=false from sO)⟩ ?_
   exact zr
 refine zp Tryz.func83 ?_
 refine z0 [(1,{cs:=[(2,pc c)]})] [] ?_
 exact zr
theorem tilde_b (c:UInt8):(c==126)=(((c.toNat:Nat):Int)==126):=eq_of_beq (byte_all (fun c=>(c==126)==(((c.toNat:Nat):Int)==126)) kR c)
theorem pre_tilde (s:List UInt8) (h:2≤s.length):Lib.hasPrefix s [126]=(((s.getD 0 0).toNat:Int)==126):=by
 match s,h with
 | a::r,_ =>
  rw [List.getD_cons_zero,← tilde_b a,Bool.beq_comm]
  show ((126:UInt8)==a&&List.isPrefixOf [] r)=_
  rw [List.isPrefixOf_nil_left,Bool.and_true]
theorem suf_tilde (s:List UInt8) (h:2≤s.length):Lib.hasSuffix s [126]=(((s.getD (s.length-1) 0).toNat:Int)==126):=by
 have hd:s.drop (s.length-1)=[s.getD (s.length-1) 0]:=by
  rw [List.drop_eq_getElem_cons oM,List.drop_of_length_le oM]
  simp [List.getD,show s.length-1<s.length by omega]
 rw [← tilde_b,← Lib.hasSuffix_of_drop,show ([126]:List UInt8).length=1 from rfl,hd,decide_eq_true oM]
 simp
theorem shape_eq (s:List UInt8) (h:2≤s.length):shapeT s=(Lib.hasPrefix s [126]&&Lib.hasSuffix s [126]):=by
 unfold shapeT
 rw [pre_tilde s h,suf_tilde s h,decide_eq_false oM]
 simp only [bne,cond_false]
 cases (((s.getD 0 0).toNat:Int)==126)<;>cases (((s.getD (s.length-1) 0).toNat:Int)==126)<;>rfl
theorem shape_short (s:List UInt8) (h:s.length<2):shapeT s=false:=by
 unfold shapeT
 rw [decide_eq_true oM]
 rfl
theorem readC_ok (s:List UInt8) (hs:s.length≤30000000000000):(∃ t,readT s=some t∧Pur Tryz.prog G 31 [.c (.str s)] [.agg (encK (toK t)),.c (.bool true)])∨(readT s=none∧Pur Tryz.prog G 31 [.c (.str s)] [.agg [.int .i64 0,.int .i64 0,.str [],.nilsl],.c (.bool false)]):=by
 unfold readT
 have cp:=lib_HasPrefix (G:=G) s [126]
 have cs:=lib_HasSuffix (G:=G) s [126] hs
 rcases Nat.lt_or_ge s.length 2 with h2 | h2
 ·rw [if_neg (by rw [shape_short s h2];decide)]
  refine .inr ⟨rfl,?_⟩
  refine zp Tryz.func31 ?_
  refine zg [(1,{grd:=[(4,false),(5,false),(6,false),(7,true),(9,false),(10,false),(11,false),(12,true)]})] [true] [decide ((s.length:Int)<2) = !false,decide ((s.length:Int)<2) = !false,decide ((s.length:Int)<2) = !false,decide ((s.length:Int)<2)=true,true = !false,true = !false,true = !false,true=true,true=true] ⟨sO,sO,sO,sO,rfl,rfl,rfl,rfl,rfl⟩ ?_
  exact zr
 ·have hsh:=shape_eq s h2
  have e1:EqvD (.c (.str (List.drop 1 (List.take (s.length-1) s)))) (.c (.str (coreT s))):=fun _ _ _ h=>h
  have e2:EqvD (.c (.int .i64 ((s.length:Int)-1))) (.c (.int .i64 ((s.length-1:Nat):Int))):=eqvD_of (by rw [show (s.length:Int)-1=((s.length-1:Nat):Int) by omega])
  have t2:decide ((s.length:Int)<2)=false:=decide_eq_false oM
  cases hp:Lib.hasPrefix s [126] with
  | false =>
   rw [hp] at hsh cp
   rw [if_neg (by rw [hsh];simp)]
   refine .inr ⟨rfl,?_⟩
   refine zp Tryz.func31 ?_
   clear hsh hp
   refine zg [(1,{cs:=[(5,pc cp)],grd:=[(9,false),(10,false),(11,false),(12,true)]})] [true] [(bif decide ((s.length:Int)<(2:Int)) then true else !false) = !false,(bif decide ((s.length:Int)<(2:Int)) then true else !false) = !false,(bif decide ((s.length:Int)<(2:Int)) then true else !false) = !false,(bif decide ((s.length:Int)<(2:Int)) then true else !false)=true,true=true] ⟨(by simp;done),(by simp;done),(by simp;done),(by simp;done),rfl⟩ ?_
   exact zr
  | true =>
   rw [hp] at hsh cp
   cases hq:Lib.hasSuffix s [126] with
   | false =>
    rw [hq] at hsh cs
    rw [if_neg (by rw [hsh];simp)]
    refine .inr ⟨rfl,?_⟩
    refine zp Tryz.func31 ?_
    clear hsh hp hq
    refine zg [(1,{cs:=[(5,pc cp),(10,pc cs)]})] [true] [(bif bif decide ((s.length:Int)<(2:Int)) then true else !true then true else !false)=true] (show (bif bif decide ((↑s.length:Int)<(2:Int)) then true else !true then true else !false)=true from (by simp;done)) ?_
    exact zr
   | true =>
    rw [hq] at hsh cs
    rw [if_pos (by rw [hsh];simp)]
    rcases innerC_ok (G:=G) (coreT s) (Nat.le_trans (coreT_len s) hs) with ⟨t,ht,c⟩ | ⟨ht,c⟩
    ·refine .inl ⟨t,ht,?_⟩
     refine zp Tryz.func31 ?_
     clear ht hsh hp hq
     refine zg [(3,{cs:=[(5,pc c)],fm:=[(3,.c (.int .i64 ((s.length-1:Nat):Int))),(4,.c (.str (coreT s)))]}),(1,{cs:=[(5,pc cp),(10,pc cs)]})] [false] [(bif bif decide ((s.length:Int)<(2:Int)) then true else !true then true else !true)=false,EqvI (.c (.int .i64 ((s.length:Int)-(1:Int)))) (.c (.int .i64 (↑(s.length-(1:Nat)):Int))),EqvD (.c (.int .i64 ((s.length:Int)-(1:Int)))) (.c (.int .i64 (↑(s.length-(1:Nat)):Int))),inR .i64 ((s.length:Int)-1),EqvI (.c (.str (List.drop (1:Nat) (List.take (Int.ofNat (s.length-(1:Nat))).toNat s)))) (.c (.str (coreT s))),EqvD (.c (.str (List.drop (1:Nat) (List.take (Int.ofNat (s.length-(1:Nat))).toNat s)))) (.c (.str (coreT s))),(0:Int)≤Int.ofNat (1)∧Int.ofNat (1)≤Int.ofNat (s.length-(1:Nat))∧Int.ofNat (s.length-(1:Nat))≤(s.length:Int)] ⟨sO,fun _ _=>trivial,aS,i6,fun _ _=>trivial,aS,⟨dC,⟨sO,(by simp;done)⟩⟩⟩ ?_
     exact zr
    ·refine .inr ⟨ht,?_⟩
     refine zp Tryz.func31 ?_
     clear ht hsh hp hq
     refine zg [(3,{cs:=[(5,pc c)],fm:=[(3,.c (.int .i64 ((s.length-1:Nat):Int))),(4,.c (.str (coreT s)))]}),(1,{cs:=[(5,pc cp),(10,pc cs)]})] [false] [(bif bif decide ((s.length:Int)<(2:Int)) then true else !true then true else !true)=false,EqvI (.c (.int .i64 ((s.length:Int)-(1:Int)))) (.c (.int .i64 (↑(s.length-(1:Nat)):Int))),EqvD (.c (.int .i64 ((s.length:Int)-(1:Int)))) (.c (.int .i64 (↑(s.length-(1:Nat)):Int))),inR .i64 ((s.length:Int)-1),EqvI (.c (.str (List.drop (1:Nat) (List.take (Int.ofNat (s.length-(1:Nat))).toNat s)))) (.c (.str (coreT s))),EqvD (.c (.str (List.drop (1:Nat) (List.take (Int.ofNat (s.length-(1:Nat))).toNat s)))) (.c (.str (coreT s))),(0:Int)≤Int.ofNat (1)∧Int.ofNat (1)≤Int.ofNat (s.length-(1:Nat))∧Int.ofNat (s.length-(1:Nat))≤(s.length:Int)] ⟨sO,fun _ _=>trivial,aS,i6,fun _ _=>trivial,aS,⟨dC,⟨sO,(by simp;done)⟩⟩⟩ ?_
     exact zr
def markB (t:TT):List UInt8:=if mayTT t=true then [126]++enc8 (putB t)++[126] else []
theorem putB_pos (t:TT):0<(putB t).length:=by rw [putB_eq];simp
theorem encG_len (b:List UInt8):∀ g,(encG b g).length≤4*g
 | 0=>by simp [encG]
 | g+1=>by
  have h1:=encG_len b g
  have h2:∀ v n,(sgs6 v n).length=n:=by intro v n;induction n with | zero=>rfl | succ n ih=>rw [sgs6];simp [ih]
  have h3:=n3_le b (3*g) 3
  rw [encG,List.length_append]
  unfold grp
  rw [h2];omega
theorem enc8_len (b:List UInt8):(enc8 b).length≤2*b.length+4:=by
 have:=encG_len b ((b.length+2) / 3)
 unfold enc8;omega
theorem textT_ok {t:TT} (ht:LowR t) (x:KT) (hx:Rep t x):Pur Tryz.prog G 36 [.agg (encK x)] [.c (.str (markB t))]:=by
 refine zp Tryz.func36 ?_
 unfold markB
 by_cases h:mayTT t=true
 ·rw [if_pos h]
  have c1:=putP_ok (G:=G) ht x hx h
  have hm:=(may_okP h).2
  have c2:=encE_ok (G:=G) (putB t) oM
  have hp:=putB_pos t
  have hl:=enc8_len (putB t)
  generalize enc8 (putB t)=o at *
  generalize putB t=b at *
  clear hx h ht
  refine z0 [(1,{cs:=[(1,cb [] c1)]})] [] ?_
  refine zc ((↑b.length:Int)==(0:Int)) (fun h0 => ?_) (fun h0 => ?_)
  ·have g0:=eq_of_beq h0
   refine z0 [] [] ?_
   exact zS [.c (.str [])] (by simp_all;done)
  ·have g0:=ne_of_beq_false h0
   refine zg [(4,{cs:=[(1,lc [48] [.row 5 1 b.length (bytesF b)] [.c (.row 1 0 0 b.length)] c2 kR kR kR (show 0+b.length≤b.length from oM))]})] [] [1+o.length≤9223372036854775807,([(126:UInt8)]++o).length+(1:Nat)≤(9223372036854775807:Nat)] ⟨oM,(show ([(126:UInt8)]++o).length+(1:Nat)≤(9223372036854775807:Nat) from sO)⟩ ?_
   exact zr
 ·rw [if_neg h]
  have c1:=putP_no (G:=G) ht x hx (by simpa using h)
  clear hx h ht
  refine zg [(1,{cs:=[(1,pc c1)]})] [true] [((0:Int)==(0:Int))=true] rfl ?_
  exact zr
theorem text9_ok {t:TT} (ht:LowR t) (x:KT) (hx:Rep t x):Pur Tryz.prog G 29 [.agg (encK x)] [.c (.str (markB t))]:=by
 refine zp Tryz.func29 ?_
 unfold markB
 by_cases h:mayTT t=true
 ·rw [if_pos h]
  have c1:=putR_ok (G:=G) ht x hx h
  have hm:=(may_okP h).2
  have c2:=enc8_ok (G:=G) (putB t) oM
  have hp:=putB_pos t
  have hl:=enc8_len (putB t)
  generalize enc8 (putB t)=o at *
  generalize putB t=b at *
  clear hx h ht
  refine z0 [(1,{cs:=[(1,cb [] c1)]})] [] ?_
  refine zc ((↑b.length:Int)==(0:Int)) (fun h0 => ?_) (fun h0 => ?_)
  ·have g0:=eq_of_beq h0
   refine z0 [] [] ?_
   exact zS [.c (.str [])] (by simp_all;done)
  ·have g0:=ne_of_beq_false h0
   refine zg [(4,{cs:=[(1,lc [48] [.row 5 1 b.length (bytesF b)] [.c (.row 1 0 0 b.length)] c2 kR kR kR (show 0+b.length≤b.length from oM))]})] [] [1+o.length≤9223372036854775807,([(126:UInt8)]++o).length+(1:Nat)≤(9223372036854775807:Nat)] ⟨oM,(show ([(126:UInt8)]++o).length+(1:Nat)≤(9223372036854775807:Nat) from sO)⟩ ?_
   exact zr
 ·rw [if_neg h]
  have c1:=putR_no (G:=G) ht x hx (by simpa using h)
  clear hx h ht
  refine zg [(1,{cs:=[(1,pc c1)]})] [true] [((0:Int)==(0:Int))=true] rfl ?_
  exact zr
def numTT (n:Int):TT := .mk 2 n [] []
def kNum (n:Int):KT:=⟨2,n,[],0,fun _ _ => .nilif⟩
theorem low_num (n:Int):LowR (numTT n) := .mk (by show 0≤1000000;omega) (fun x h=>by cases h)
theorem rep_num (n:Int):Rep (numTT n) (kNum n):=by unfold numTT kNum;rw [Rep];exact ⟨rfl,rfl,rfl,rfl,by rw [RepL];trivial⟩
def kAt (s:List UInt8):KT:=⟨1,0,s,0,fun _ _ => .nilif⟩
theorem keyC_ok (n:Int):Pur Tryz.prog G 37 [.c (.int .i64 n)] [.c (.str (markB (numTT n)))]:=by
 refine zp Tryz.func37 ?_
 have c:=textT_ok (G:=G) (low_num n) (kNum n) (rep_num n)
 have e1:EqvD (.agg [.int .i64 2,.int .i64 n,.str [],.nilsl]) (.agg (encK (kNum n))):=kids_D
 have e2:EqvI (.agg [.int .i64 2,.int .i64 n,.str [],.nilsl]) (.agg (encK (kNum n))):=kids_I
 refine zg [(1,{cs:=[(2,pc c)],fm:=[(1,.agg (encK (kNum n)))]})] [] [EqvI (.agg [.int .i64 2,.int .i64 n,.str [],.nilsl]) (.agg (encK (kNum n))),EqvD (.agg [.int .i64 2,.int .i64 n,.str [],.nilsl]) (.agg (encK (kNum n)))] ⟨eqvI_flat _ _ kR,(show EqvD (.agg [.int .i64 (2:Int),.int .i64 n,.str [],.nilsl]) (.agg (encK (kNum n))) from aS)⟩ ?_
 exact zr
theorem num1_ok (n:Int):Pur Tryz.prog G 52 [.c (.int .i64 n)] [.agg (encK (kNum n))]:=by
 refine zp Tryz.func52 ?_
 have e1:EqvD (.agg [.int .i64 2,.int .i64 n,.str [],.nilsl]) (.agg (encK (kNum n))):=kids_D
 have e2:EqvI (.agg [.int .i64 2,.int .i64 n,.str [],.nilsl]) (.agg (encK (kNum n))):=kids_I
 refine zg [(1,{fm:=[(1,.agg (encK (kNum n)))]})] [] [EqvI (.agg [.int .i64 2,.int .i64 n,.str [],.nilsl]) (.agg (encK (kNum n))),EqvD (.agg [.int .i64 2,.int .i64 n,.str [],.nilsl]) (.agg (encK (kNum n)))] ⟨eqvI_flat _ _ kR,(show EqvD (.agg [.int .i64 (2:Int),.int .i64 n,.str [],.nilsl]) (.agg (encK (kNum n))) from aS)⟩ ?_
 exact zr
theorem at1_ok (s:List UInt8):Pur Tryz.prog G 79 [.c (.str s)] [.agg (encK (kAt s))]:=by
 refine zp Tryz.func79 ?_
 have e1:EqvD (.agg [.int .i64 1,.int .i64 0,.str s,.nilsl]) (.agg (encK (kAt s))):=kids_D
 have e2:EqvI (.agg [.int .i64 1,.int .i64 0,.str s,.nilsl]) (.agg (encK (kAt s))):=kids_I
 refine zg [(1,{fm:=[(1,.agg (encK (kAt s)))]})] [] [EqvI (.agg [.int .i64 1,.int .i64 0,.str s,.nilsl]) (.agg (encK (kAt s))),EqvD (.agg [.int .i64 1,.int .i64 0,.str s,.nilsl]) (.agg (encK (kAt s)))] ⟨eqvI_flat _ _ kR,(show EqvD (.agg [.int .i64 (1:Int),.int .i64 (0:Int),.str s,.nilsl]) (.agg (encK (kAt s))) from aS)⟩ ?_
 exact zr
theorem tm1_ok (k:Int) (n:Nat) (f:Nat→Nat→Cell):Pur Tryz.prog G 132 [.c (.int .i64 k),.c (.sl 4 n f)] [.agg (encK ⟨k,0,[],n,f⟩)]:=by
 refine zp Tryz.func132 ?_
 refine z0 [] [] ?_
 exact zr
theorem key9_ok (n:Int):Pur Tryz.prog G 11 [.c (.int .i64 n)] [.c (.str (markB (numTT n)))]:=by
 refine zp Tryz.func11 ?_
 have c:=text9_ok (G:=G) (low_num n) (kNum n) (rep_num n)
 have c2:=num1_ok (G:=G) n
 refine z0 [(1,{cs:=[(1,pc c2),(2,pc c)]})] [] ?_
 exact zr
def numR (s:List UInt8):List V1:=match readT s with
 | some t=>if (toK t).k=2 then [.c (.int .i64 (toK t).n),.c (.bool true)] else [.c (.int .i64 0),.c (.bool false)]
 | none=>[.c (.int .i64 0),.c (.bool false)]
theorem numC_ok (s:List UInt8) (hs:s.length≤30000000000000):Pur Tryz.prog G 33 [.c (.str s)] (numR s):=by
 refine zp Tryz.func33 ?_
 unfold numR
 rcases readC_ok (G:=G) s hs with ⟨t,ht,c⟩ | ⟨ht,c⟩
 ·rw [ht]
  simp only []
  clear ht
  generalize toK t=x at c ⊢
  by_cases hk:x.k=2
  ·rw [if_pos hk]
   have hk2:(x.k != 2)=false:=by simp [hk]
   clear hk
   refine zg [(1,{cs:=[(1,pc c)]})] [false] [(bif !true then true else x.k != (2:Int))=false] (oN aS) ?_
   exact zr
  ·rw [if_neg hk]
   have hk2:(x.k != 2)=true:=by simp [hk]
   clear hk
   refine zg [(1,{cs:=[(1,pc c)]})] [true] [(bif !true then true else x.k != (2:Int))=true] (oN aS) ?_
   exact zr
 ·rw [ht]
  refine zg [(1,{cs:=[(1,pc c)]})] [true] [(bif !false then true else (0:Int) != (2:Int))=true] rfl ?_
  exact zr
theorem num9_ok (s:List UInt8) (hs:s.length≤30000000000000):Pur Tryz.prog G 34 [.c (.str s)] (numR s):=by
 refine zp Tryz.func34 ?_
 unfold numR
 rcases read9_ok (G:=G) s hs with ⟨t,ht,c⟩ | ⟨ht,c⟩
 ·rw [ht]
  simp only []
  clear ht
  generalize toK t=x at c ⊢
  by_cases hk:x.k=2
  ·rw [if_pos hk]
   have hk2:(x.k != 2)=false:=by simp [hk]
   clear hk
   refine zg [(1,{cs:=[(1,pc c)]})] [false] [(bif !true then true else x.k != (2:Int))=false] (oN aS) ?_
   exact zr
  ·rw [if_neg hk]
   have hk2:(x.k != 2)=true:=by simp [hk]
   clear hk
   refine zg [(1,{cs:=[(1,pc c)]})] [true] [(bif !true then true else x.k != (2:Int))=true] (oN aS) ?_
   exact zr
 ·rw [ht]
  refine zg [(1,{cs:=[(1,pc c)]})] [true] [(bif !false then true else (0:Int) != (2:Int))=true] rfl ?_
  exact zr
end Go.Proofs.Tw
end
