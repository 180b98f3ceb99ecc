/- Own texts for this claim: Ro, Rk, Rm, Rr, Cr, Ca, Ct, Cd, Tc4, Mt0, Mt1, Mt2, Mt3, Mt4, Mt5, Mt6, Mt7, Tp0, Tp1, Tp2, Tp3. -/
import Derived.Test.YtcohmieljbdlhaaGreatDoorMarkNoneCardP3
import Derived.Test.YtcohmieljbdlhaaGreatDoorMarkNoneCardP5
import Derived.Lib.FieldsP
import Derived.Lib.MapLaws
import Derived.Lib.Split
set_option linter.all false
section
open Go Go.Sv Go.RowKit
namespace Go.Proofs.Tw
attribute [local irreducible] Wp FinQ resV Ent Pur Go.Sv.Fn Sat0
set_option maxRecDepth 100000
set_option maxHeartbeats 4000000
variable {G:Nat→Option (List Cell)} [Back G]
theorem kid_new {e:TypeId} (x:KT):BlkEqv (.row e 4 1 (catF 0 (fun _ _ => .nilif) (fun i j=>nthD (encK x) ((0+i)*4+j)))) (.row e 4 1 (rowF encK .nil [x])):=BlkEqv.row_ext rfl fun i hi j hj=>by
 obtain rfl:i=0:=by omega
 show nthD (encK x) ((0+(0-0))*4+j)=nthD (encK x) j
 congr 1;omega
theorem deep_D (f:Nat):EqvD (.c (.int .i64 ((17:Int)-((f+1:Nat):Int)+1))) (.c (.int .i64 ((17:Int)-(f:Int)))):=eqvD_of (by rw [show (17:Int)-((f+1:Nat):Int)+1=(17:Int)-(f:Int) by omega])
def kidSt (b:List UInt8) (f:Nat) (kids k i:Int) (nx p:Nat) (lf e:Int):List KT→St
 | []=>⟨[(0,.v (.c (.ptr 0 0))),(1,.v (.c (.int .i64 ((17:Int)-((f+1:Nat):Int))))),(4,.v (.c (.ptr 1 0))),(5,.v (.c (.ptr 289 0))),(6,.v (.c (.int .i64 kids))),(8,.v (.c (.int .i64 i)))],[(1,.box 64 [.int .i64 0,.int .i64 0,.str [],.nilsl]),(289,.box 64 [.int .i64 k,.int .i64 0,.str [],.nilsl]),(0,rB b p lf e)],nx⟩
 | x::r=>⟨[(0,.v (.c (.ptr 0 0))),(1,.v (.c (.int .i64 ((17:Int)-((f+1:Nat):Int))))),(4,.v (.c (.ptr 1 0))),(5,.v (.c (.ptr 289 0))),(6,.v (.c (.int .i64 kids))),(8,.v (.c (.int .i64 i)))],[(1,.box 64 [.int .i64 0,.int .i64 0,.str [],.nilsl]),(289,.box 64 [.int .i64 k,.int .i64 0,.str [],.row 4 41 0 (r.length+1)]),(41,.row 64 4 (r.length+1) (rowF encK .nil (x::r))),(0,rB b p lf e)],nx⟩
theorem node_one3 (b:List UInt8) (hb:b.length≤30000000000000) (f p l:Nat) (hf:f<16) (hl:0<l) (hl2:l≤64) (hp:p<b.length) (hk:(b.getD p 0).toNat=3) {x:KT} {p1:Nat} {l1 e:Int} (cx:FnB Tryz.prog G 223 [rB b (p+1) ((l:Int)-1) 0] [.c (.ptr 0 0),.c (.int .i64 (17-(f:Int)))] [.agg (encK x)] [(0,rB b p1 l1 e)]):FnB Tryz.prog G 223 [rB b p l 0] [.c (.ptr 0 0),.c (.int .i64 (17-((f+1:Nat):Int)))] [.agg (encK ⟨3,0,[],1,rowF encK .nil [x]⟩)] [(0,rB b p1 l1 e)]:=by
 refine zf Tryz.func223 ?_
 have ht0:(bif (0:Int)==0 then bif decide ((l:Int)<1) then true else decide (17-((f+1:Nat):Int)>16) else false)=false:=by rw [decide_eq_false oM,decide_eq_false oM];rfl
 have c1:=num1 (G:=G) b p ((l:Int)-1) hb hp hk
 refine zg [(7,{cs:=[(1,cb [0] c1)]})] [false,false,false,false,true,true] [(bif (0:Int)==(0:Int) then bif decide ((l:Int)<(1:Int)) then true else decide ((17:Int)-(↑(f+(1:Nat)):Int)>(16:Int)) else false)=false,((0:Int) != (0:Int))=false,inR .i64 ((l:Int)-1),((↑(3:Nat):Int)==(1:Int))=false,((↑(3:Nat):Int)==(2:Int))=false,((↑(3:Nat):Int)==(3:Int))=true,((↑(3:Nat):Int)==(3:Int))=true] ⟨aS,rfl,i6,rfl,rfl,rfl,rfl⟩ ?_
 have e1:=kid_new (e:=64) x
 have e2:=deep_D f
 refine zl (fun (j:Nat)=>match j with | 0=>kidSt b f 1 3 0 769 (p+1) ((l:Int)-1) 0 [] | _=>kidSt b f 1 3 1 769 p1 l1 e [x]) (fun j=>j≤1) (fun j=>1-j) 0 (Nat.zero_le _) ?_ [(1,1),(289,289)]
 intro j L hj again
 obtain rfl | rfl:j=0∨j=1:=by omega
 ·refine zg [(35,{cs:=[(5,cb [0] cx)],fm:=[(4,.c (.int .i64 ((17:Int)-(f:Int))))],bs:=[(7,.row 64 4 1 (rowF encK .nil [x]))]})] [true] [(bif decide ((0:Int)<(1:Int)) then (0:Int)==(0:Int) else false)=true,EqvI (.c (.int .i64 ((17:Int)-(↑(f+(1:Nat)):Int)+(1:Int)))) (.c (.int .i64 ((17:Int)-(f:Int)))),EqvD (.c (.int .i64 ((17:Int)-(↑(f+(1:Nat)):Int)+(1:Int)))) (.c (.int .i64 ((17:Int)-(f:Int)))),inR .i64 ((17:Int)-(↑(f+(1:Nat)):Int)+(1:Int)),56≤140737488355328,BlkEqv (.row 64 4 1 (catF 0 (fun (x x_1:Nat) => .nilif) fun i j=>nthD (encK x) ((0+i)*4+j))) (.row 64 4 1 (rowF encK KT.nil [x])),0+1≤1,inR .i64 (0+1)] ⟨rfl,fun _ _=>trivial,aS,i6,oM,aS,oM,i6⟩ ?_
  exact za [(41,1041)] (again _ 1 oM oM)
 ·refine Wp.ent' kR (Ent.pubC (id:=41) (b:=289) (o:=3) (off:=0) (m:=1) (sz:=4) (n:=1) (e:=64) (e':=64) (cs:=[.int .i64 3,.int .i64 0,.str [],.row 4 41 0 1]) (f:=rowF encK .nil [x]) (m':=1) (f':=rowF encK .nil [x]) kR kR kR oM rfl (fun i _ j _=>by rw [Nat.zero_add]) rfl) ?_
  refine zg [] [false] [(bif decide ((1:Int)<(1:Int)) then e==(0:Int) else false)=false] rfl ?_
  exact zb []
theorem node_one4 (b:List UInt8) (hb:b.length≤30000000000000) (f p l:Nat) (hf:f<16) (hl:0<l) (hl2:l≤64) (hp:p<b.length) (hk:(b.getD p 0).toNat=4) {x:KT} {p1:Nat} {l1 e:Int} (cx:FnB Tryz.prog G 223 [rB b (p+1) ((l:Int)-1) 0] [.c (.ptr 0 0),.c (.int .i64 (17-(f:Int)))] [.agg (encK x)] [(0,rB b p1 l1 e)]):FnB Tryz.prog G 223 [rB b p l 0] [.c (.ptr 0 0),.c (.int .i64 (17-((f+1:Nat):Int)))] [.agg (encK ⟨4,0,[],1,rowF encK .nil [x]⟩)] [(0,rB b p1 l1 e)]:=by
 refine zf Tryz.func223 ?_
 have ht0:(bif (0:Int)==0 then bif decide ((l:Int)<1) then true else decide (17-((f+1:Nat):Int)>16) else false)=false:=by rw [decide_eq_false oM,decide_eq_false oM];rfl
 have c1:=num1 (G:=G) b p ((l:Int)-1) hb hp hk
 refine zg [(7,{cs:=[(1,cb [0] c1)]})] [false,false,false,false,false,true] [(bif (0:Int)==(0:Int) then bif decide ((l:Int)<(1:Int)) then true else decide ((17:Int)-(↑(f+(1:Nat)):Int)>(16:Int)) else false)=false,((0:Int) != (0:Int))=false,inR .i64 ((l:Int)-1),((↑(4:Nat):Int)==(1:Int))=false,((↑(4:Nat):Int)==(2:Int))=false,((↑(4:Nat):Int)==(3:Int))=false,((↑(4:Nat):Int)==(4:Int))=true] ⟨aS,rfl,i6,rfl,rfl,rfl,rfl⟩ ?_
 have e1:=kid_new (e:=64) x
 have e2:=deep_D f
 refine zl (fun (j:Nat)=>match j with | 0=>kidSt b f 1 4 0 801 (p+1) ((l:Int)-1) 0 [] | _=>kidSt b f 1 4 1 801 p1 l1 e [x]) (fun j=>j≤1) (fun j=>1-j) 0 (Nat.zero_le _) ?_ [(1,1),(289,289)]
 intro j L hj again
 obtain rfl | rfl:j=0∨j=1:=by omega
 ·refine zg [(35,{cs:=[(5,cb [0] cx)],fm:=[(4,.c (.int .i64 ((17:Int)-(f:Int))))],bs:=[(7,.row 64 4 1 (rowF encK .nil [x]))]})] [true] [(bif decide ((0:Int)<(1:Int)) then (0:Int)==(0:Int) else false)=true,EqvI (.c (.int .i64 ((17:Int)-(↑(f+(1:Nat)):Int)+(1:Int)))) (.c (.int .i64 ((17:Int)-(f:Int)))),EqvD (.c (.int .i64 ((17:Int)-(↑(f+(1:Nat)):Int)+(1:Int)))) (.c (.int .i64 ((17:Int)-(f:Int)))),inR .i64 ((17:Int)-(↑(f+(1:Nat)):Int)+(1:Int)),56≤140737488355328,BlkEqv (.row 64 4 1 (catF 0 (fun (x x_1:Nat) => .nilif) fun i j=>nthD (encK x) ((0+i)*4+j))) (.row 64 4 1 (rowF encK KT.nil [x])),0+1≤1,inR .i64 (0+1)] ⟨rfl,fun _ _=>trivial,aS,i6,oM,aS,oM,i6⟩ ?_
  exact za [(41,1073)] (again _ 1 oM oM)
 ·refine Wp.ent' kR (Ent.pubC (id:=41) (b:=289) (o:=3) (off:=0) (m:=1) (sz:=4) (n:=1) (e:=64) (e':=64) (cs:=[.int .i64 4,.int .i64 0,.str [],.row 4 41 0 1]) (f:=rowF encK .nil [x]) (m':=1) (f':=rowF encK .nil [x]) kR kR kR oM rfl (fun i _ j _=>by rw [Nat.zero_add]) rfl) ?_
  refine zg [] [false] [(bif decide ((1:Int)<(1:Int)) then e==(0:Int) else false)=false] rfl ?_
  exact zb []
theorem node_twoX5 (b:List UInt8) (hb:b.length≤30000000000000) (f p l:Nat) (hf:f<16) (hl:0<l) (hl2:l≤64) (hp:p<b.length) (hk:(b.getD p 0).toNat=5) {x:KT} {p1:Nat} {l1 e:Int} (he:e≠0) (cx:FnB Tryz.prog G 223 [rB b (p+1) ((l:Int)-1) 0] [.c (.ptr 0 0),.c (.int .i64 (17-(f:Int)))] [.agg (encK x)] [(0,rB b p1 l1 e)]):FnB Tryz.prog G 223 [rB b p l 0] [.c (.ptr 0 0),.c (.int .i64 (17-((f+1:Nat):Int)))] [.agg (encK ⟨5,0,[],1,rowF encK .nil [x]⟩)] [(0,rB b p1 l1 e)]:=by
 refine zf Tryz.func223 ?_
 have ht0:(bif (0:Int)==0 then bif decide ((l:Int)<1) then true else decide (17-((f+1:Nat):Int)>16) else false)=false:=by rw [decide_eq_false oM,decide_eq_false oM];rfl
 have c1:=num1 (G:=G) b p ((l:Int)-1) hb hp hk
 refine zg [(7,{cs:=[(1,cb [0] c1)]})] [false,false,false,false,false,false,true,true] [(bif (0:Int)==(0:Int) then bif decide ((l:Int)<(1:Int)) then true else decide ((17:Int)-(↑(f+(1:Nat)):Int)>(16:Int)) else false)=false,((0:Int) != (0:Int))=false,inR .i64 ((l:Int)-1),((↑(5:Nat):Int)==(1:Int))=false,((↑(5:Nat):Int)==(2:Int))=false,((↑(5:Nat):Int)==(3:Int))=false,((↑(5:Nat):Int)==(4:Int))=false,((↑(5:Nat):Int)==(5:Int))=true,((↑(5:Nat):Int)==(5:Int))=true] ⟨aS,rfl,i6,rfl,rfl,rfl,rfl,rfl,rfl⟩ ?_
 have e1:=kid_new (e:=64) x
 have e2:=deep_D f
 refine zl (fun (j:Nat)=>match j with | 0=>kidSt b f 2 5 0 833 (p+1) ((l:Int)-1) 0 [] | _=>kidSt b f 2 5 1 833 p1 l1 e [x]) (fun j=>j≤1) (fun j=>1-j) 0 (Nat.zero_le _) ?_ [(1,1),(289,289)]
 intro j L hj again
 obtain rfl | rfl:j=0∨j=1:=by omega
 ·refine zg [(35,{cs:=[(5,cb [0] cx)],fm:=[(4,.c (.int .i64 ((17:Int)-(f:Int))))],bs:=[(7,.row 64 4 1 (rowF encK .nil [x]))]})] [true] [(bif decide ((0:Int)<(2:Int)) then (0:Int)==(0:Int) else false)=true,EqvI (.c (.int .i64 ((17:Int)-(↑(f+(1:Nat)):Int)+(1:Int)))) (.c (.int .i64 ((17:Int)-(f:Int)))),EqvD (.c (.int .i64 ((17:Int)-(↑(f+(1:Nat)):Int)+(1:Int)))) (.c (.int .i64 ((17:Int)-(f:Int)))),inR .i64 ((17:Int)-(↑(f+(1:Nat)):Int)+(1:Int)),56≤140737488355328,BlkEqv (.row 64 4 1 (catF 0 (fun (x x_1:Nat) => .nilif) fun i j=>nthD (encK x) ((0+i)*4+j))) (.row 64 4 1 (rowF encK KT.nil [x])),0+1≤1,inR .i64 (0+1)] ⟨rfl,fun _ _=>trivial,aS,i6,oM,aS,oM,i6⟩ ?_
  exact za [(41,1105)] (again _ 1 oM oM)
 ·refine Wp.ent' kR (Ent.pubC (id:=41) (b:=289) (o:=3) (off:=0) (m:=1) (sz:=4) (n:=1) (e:=64) (e':=64) (cs:=[.int .i64 5,.int .i64 0,.str [],.row 4 41 0 1]) (f:=rowF encK .nil [x]) (m':=1) (f':=rowF encK .nil [x]) kR kR kR oM rfl (fun i _ j _=>by rw [Nat.zero_add]) rfl) ?_
  have ht:(bif decide ((1:Int)<2) then e==0 else false)=false:=by simp [he]
  refine zg [] [false] [(bif decide ((1:Int)<(2:Int)) then e==(0:Int) else false)=false] (oN aS) ?_
  exact zb []
theorem node_two5 (b:List UInt8) (hb:b.length≤30000000000000) (f p l:Nat) (hf:f<16) (hl:0<l) (hl2:l≤64) (hp:p<b.length) (hk:(b.getD p 0).toNat=5) {x y:KT} {p1 p2:Nat} {l1 l2 e:Int} (cx:FnB Tryz.prog G 223 [rB b (p+1) ((l:Int)-1) 0] [.c (.ptr 0 0),.c (.int .i64 (17-(f:Int)))] [.agg (encK x)] [(0,rB b p1 l1 0)]) (cy:FnB Tryz.prog G 223 [rB b p1 l1 0] [.c (.ptr 0 0),.c (.int .i64 (17-(f:Int)))] [.agg (encK y)] [(0,rB b p2 l2 e)]):FnB Tryz.prog G 223 [rB b p l 0] [.c (.ptr 0 0),.c (.int .i64 (17-((f+1:Nat):Int)))] [.agg (encK ⟨5,0,[],2,rowF encK .nil [x,y]⟩)] [(0,rB b p2 l2 e)]:=by
 refine zf Tryz.func223 ?_
 have ht0:(bif (0:Int)==0 then bif decide ((l:Int)<1) then true else decide (17-((f+1:Nat):Int)>16) else false)=false:=by rw [decide_eq_false oM,decide_eq_false oM];rfl
 have c1:=num1 (G:=G) b p ((l:Int)-1) hb hp hk
 refine zg [(7,{cs:=[(1,cb [0] c1)]})] [false,false,false,false,false,false,true,true] [(bif (0:Int)==(0:Int) then bif decide ((l:Int)<(1:Int)) then true else decide ((17:Int)-(↑(f+(1:Nat)):Int)>(16:Int)) else false)=false,((0:Int) != (0:Int))=false,inR .i64 ((l:Int)-1),((↑(5:Nat):Int)==(1:Int))=false,((↑(5:Nat):Int)==(2:Int))=false,((↑(5:Nat):Int)==(3:Int))=false,((↑(5:Nat):Int)==(4:Int))=false,((↑(5:Nat):Int)==(5:Int))=true,((↑(5:Nat):Int)==(5:Int))=true] ⟨aS,rfl,i6,rfl,rfl,rfl,rfl,rfl,rfl⟩ ?_
 have e1:=kid_new (e:=64) x
 have e2:=deep_D f
 have e3:BlkEqv (.row 64 4 (1+1) (catF 1 (rowF encK .nil [x]) (fun i j=>nthD (encK y) ((0+i)*4+j)))) (.row 64 4 (1+1) (rowF encK .nil [x,y])):=enc_app [x] y rfl
 refine zl (fun (j:Nat)=>match j with | 0=>kidSt b f 2 5 0 833 (p+1) ((l:Int)-1) 0 [] | 1=>kidSt b f 2 5 1 833 p1 l1 0 [x] | _=>kidSt b f 2 5 2 833 p2 l2 e [x,y]) (fun j=>j≤2) (fun j=>2-j) 0 (Nat.zero_le _) ?_ [(1,1),(289,289)]
 intro j L hj again
 obtain rfl | rfl | rfl:j=0∨j=1∨j=2:=by omega
 ·refine zg [(35,{cs:=[(5,cb [0] cx)],fm:=[(4,.c (.int .i64 ((17:Int)-(f:Int))))],bs:=[(7,.row 64 4 1 (rowF encK .nil [x]))]})] [true] [(bif decide ((0:Int)<(2:Int)) then (0:Int)==(0:Int) else false)=true,EqvI (.c (.int .i64 ((17:Int)-(↑(f+(1:Nat)):Int)+(1:Int)))) (.c (.int .i64 ((17:Int)-(f:Int)))),EqvD (.c (.int .i64 ((17:Int)-(↑(f+(1:Nat)):Int)+(1:Int)))) (.c (.int .i64 ((17:Int)-(f:Int)))),inR .i64 ((17:Int)-(↑(f+(1:Nat)):Int)+(1:Int)),56≤140737488355328,BlkEqv (.row 64 4 1 (catF 0 (fun (x x_1:Nat) => .nilif) fun i j=>nthD (encK x) ((0+i)*4+j))) (.row 64 4 1 (rowF encK KT.nil [x])),0+1≤1,inR .i64 (0+1)] ⟨rfl,fun _ _=>trivial,aS,i6,oM,aS,oM,i6⟩ ?_
  exact za [(41,1105)] (again _ 1 oM oM)
 ·refine zg [(35,{cs:=[(5,cb [0] cy)],fm:=[(4,.c (.int .i64 ((17:Int)-(f:Int))))],bs:=[(7,.row 64 4 2 (rowF encK .nil [x,y]))]})] [true] [(bif decide ((1:Int)<(2:Int)) then (0:Int)==(0:Int) else false)=true,EqvI (.c (.int .i64 ((17:Int)-(↑(f+(1:Nat)):Int)+(1:Int)))) (.c (.int .i64 ((17:Int)-(f:Int)))),EqvD (.c (.int .i64 ((17:Int)-(↑(f+(1:Nat)):Int)+(1:Int)))) (.c (.int .i64 ((17:Int)-(f:Int)))),inR .i64 ((17:Int)-(↑(f+(1:Nat)):Int)+(1:Int)),112≤140737488355328,BlkEqv (.row 64 (4:Nat) (2:Nat) (catF (([]:List UInt8).length+(1:Nat)) (rowF encK KT.nil [x]) fun i j=>nthD (encK y) (((0:Nat)+i)*(4:Nat)+j))) (.row 64 (4:Nat) (2:Nat) (rowF encK KT.nil [x,y])),([]:List UInt8).length+(1:Nat)≤([]:List UInt8).length+(1:Nat),0+1≤1,inR .i64 (1+1)] ⟨rfl,fun _ _=>trivial,aS,i6,oM,aS,oM,oM,i6⟩ ?_
  exact za [(41,1105)] (again _ 2 oM oM)
 ·refine Wp.ent' kR (Ent.pubC (id:=41) (b:=289) (o:=3) (off:=0) (m:=2) (sz:=4) (n:=2) (e:=64) (e':=64) (cs:=[.int .i64 5,.int .i64 0,.str [],.row 4 41 0 2]) (f:=rowF encK .nil [x,y]) (m':=2) (f':=rowF encK .nil [x,y]) kR kR kR oM rfl (fun i _ j _=>by rw [Nat.zero_add]) rfl) ?_
  refine zg [] [false] [(bif decide ((2:Int)<(2:Int)) then e==(0:Int) else false)=false] rfl ?_
  exact zb []
theorem node_twoX6 (b:List UInt8) (hb:b.length≤30000000000000) (f p l:Nat) (hf:f<16) (hl:0<l) (hl2:l≤64) (hp:p<b.length) (hk:(b.getD p 0).toNat=6) {x:KT} {p1:Nat} {l1 e:Int} (he:e≠0) (cx:FnB Tryz.prog G 223 [rB b (p+1) ((l:Int)-1) 0] [.c (.ptr 0 0),.c (.int .i64 (17-(f:Int)))] [.agg (encK x)] [(0,rB b p1 l1 e)]):FnB Tryz.prog G 223 [rB b p l 0] [.c (.ptr 0 0),.c (.int .i64 (17-((f+1:Nat):Int)))] [.agg (encK ⟨6,0,[],1,rowF encK .nil [x]⟩)] [(0,rB b p1 l1 e)]:=by
 refine zf Tryz.func223 ?_
 have ht0:(bif (0:Int)==0 then bif decide ((l:Int)<1) then true else decide (17-((f+1:Nat):Int)>16) else false)=false:=by rw [decide_eq_false oM,decide_eq_false oM];rfl
 have c1:=num1 (G:=G) b p ((l:Int)-1) hb hp hk
 refine zg [(7,{cs:=[(1,cb [0] c1)]})] [false,false,false,false,false,false,false,true,true] [(bif (0:Int)==(0:Int) then bif decide ((l:Int)<(1:Int)) then true else decide ((17:Int)-(↑(f+(1:Nat)):Int)>(16:Int)) else false)=false,((0:Int) != (0:Int))=false,inR .i64 ((l:Int)-1),((↑(6:Nat):Int)==(1:Int))=false,((↑(6:Nat):Int)==(2:Int))=false,((↑(6:Nat):Int)==(3:Int))=false,((↑(6:Nat):Int)==(4:Int))=false,((↑(6:Nat):Int)==(5:Int))=false,((↑(6:Nat):Int)==(6:Int))=true,((↑(6:Nat):Int)==(6:Int))=true] ⟨aS,rfl,i6,rfl,rfl,rfl,rfl,rfl,rfl,rfl⟩ ?_
 have e1:=kid_new (e:=64) x
 have e2:=deep_D f
 refine zl (fun (j:Nat)=>match j with | 0=>kidSt b f 2 6 0 865 (p+1) ((l:Int)-1) 0 [] | _=>kidSt b f 2 6 1 865 p1 l1 e [x]) (fun j=>j≤1) (fun j=>1-j) 0 (Nat.zero_le _) ?_ [(1,1),(289,289)]
 intro j L hj again
 obtain rfl | rfl:j=0∨j=1:=by omega
 ·refine zg [(35,{cs:=[(5,cb [0] cx)],fm:=[(4,.c (.int .i64 ((17:Int)-(f:Int))))],bs:=[(7,.row 64 4 1 (rowF encK .nil [x]))]})] [true] [(bif decide ((0:Int)<(2:Int)) then (0:Int)==(0:Int) else false)=true,EqvI (.c (.int .i64 ((17:Int)-(↑(f+(1:Nat)):Int)+(1:Int)))) (.c (.int .i64 ((17:Int)-(f:Int)))),EqvD (.c (.int .i64 ((17:Int)-(↑(f+(1:Nat)):Int)+(1:Int)))) (.c (.int .i64 ((17:Int)-(f:Int)))),inR .i64 ((17:Int)-(↑(f+(1:Nat)):Int)+(1:Int)),56≤140737488355328,BlkEqv (.row 64 4 1 (catF 0 (fun (x x_1:Nat) => .nilif) fun i j=>nthD (encK x) ((0+i)*4+j))) (.row 64 4 1 (rowF encK KT.nil [x])),0+1≤1,inR .i64 (0+1)] ⟨rfl,fun _ _=>trivial,aS,i6,oM,aS,oM,i6⟩ ?_
  exact za [(41,1137)] (again _ 1 oM oM)
 ·refine Wp.ent' kR (Ent.pubC (id:=41) (b:=289) (o:=3) (off:=0) (m:=1) (sz:=4) (n:=1) (e:=64) (e':=64) (cs:=[.int .i64 6,.int .i64 0,.str [],.row 4 41 0 1]) (f:=rowF encK .nil [x]) (m':=1) (f':=rowF encK .nil [x]) kR kR kR oM rfl (fun i _ j _=>by rw [Nat.zero_add]) rfl) ?_
  have ht:(bif decide ((1:Int)<2) then e==0 else false)=false:=by simp [he]
  refine zg [] [false] [(bif decide ((1:Int)<(2:Int)) then e==(0:Int) else false)=false] (oN aS) ?_
  exact zb []
theorem node_two6 (b:List UInt8) (hb:b.length≤30000000000000) (f p l:Nat) (hf:f<16) (hl:0<l) (hl2:l≤64) (hp:p<b.length) (hk:(b.getD p 0).toNat=6) {x y:KT} {p1 p2:Nat} {l1 l2 e:Int} (cx:FnB Tryz.prog G 223 [rB b (p+1) ((l:Int)-1) 0] [.c (.ptr 0 0),.c (.int .i64 (17-(f:Int)))] [.agg (encK x)] [(0,rB b p1 l1 0)]) (cy:FnB Tryz.prog G 223 [rB b p1 l1 0] [.c (.ptr 0 0),.c (.int .i64 (17-(f:Int)))] [.agg (encK y)] [(0,rB b p2 l2 e)]):FnB Tryz.prog G 223 [rB b p l 0] [.c (.ptr 0 0),.c (.int .i64 (17-((f+1:Nat):Int)))] [.agg (encK ⟨6,0,[],2,rowF encK .nil [x,y]⟩)] [(0,rB b p2 l2 e)]:=by
 refine zf Tryz.func223 ?_
 have ht0:(bif (0:Int)==0 then bif decide ((l:Int)<1) then true else decide (17-((f+1:Nat):Int)>16) else false)=false:=by rw [decide_eq_false oM,decide_eq_false oM];rfl
 have c1:=num1 (G:=G) b p ((l:Int)-1) hb hp hk
 refine zg [(7,{cs:=[(1,cb [0] c1)]})] [false,false,false,false,false,false,false,true,true] [(bif (0:Int)==(0:Int) then bif decide ((l:Int)<(1:Int)) then true else decide ((17:Int)-(↑(f+(1:Nat)):Int)>(16:Int)) else false)=false,((0:Int) != (0:Int))=false,inR .i64 ((l:Int)-1),((↑(6:Nat):Int)==(1:Int))=false,((↑(6:Nat):Int)==(2:Int))=false,((↑(6:Nat):Int)==(3:Int))=false,((↑(6:Nat):Int)==(4:Int))=false,((↑(6:Nat):Int)==(5:Int))=false,((↑(6:Nat):Int)==(6:Int))=true,((↑(6:Nat):Int)==(6:Int))=true] ⟨aS,rfl,i6,rfl,rfl,rfl,rfl,rfl,rfl,rfl⟩ ?_
 have e1:=kid_new (e:=64) x
 have e2:=deep_D f
 have e3:BlkEqv (.row 64 4 (1+1) (catF 1 (rowF encK .nil [x]) (fun i j=>nthD (encK y) ((0+i)*4+j)))) (.row 64 4 (1+1) (rowF encK .nil [x,y])):=enc_app [x] y rfl
 refine zl (fun (j:Nat)=>match j with | 0=>kidSt b f 2 6 0 865 (p+1) ((l:Int)-1) 0 [] | 1=>kidSt b f 2 6 1 865 p1 l1 0 [x] | _=>kidSt b f 2 6 2 865 p2 l2 e [x,y]) (fun j=>j≤2) (fun j=>2-j) 0 (Nat.zero_le _) ?_ [(1,1),(289,289)]
 intro j L hj again
 obtain rfl | rfl | rfl:j=0∨j=1∨j=2:=by omega
 ·refine zg [(35,{cs:=[(5,cb [0] cx)],fm:=[(4,.c (.int .i64 ((17:Int)-(f:Int))))],bs:=[(7,.row 64 4 1 (rowF encK .nil [x]))]})] [true] [(bif decide ((0:Int)<(2:Int)) then (0:Int)==(0:Int) else false)=true,EqvI (.c (.int .i64 ((17:Int)-(↑(f+(1:Nat)):Int)+(1:Int)))) (.c (.int .i64 ((17:Int)-(f:Int)))),EqvD (.c (.int .i64 ((17:Int)-(↑(f+(1:Nat)):Int)+(1:Int)))) (.c (.int .i64 ((17:Int)-(f:Int)))),inR .i64 ((17:Int)-(↑(f+(1:Nat)):Int)+(1:Int)),56≤140737488355328,BlkEqv (.row 64 4 1 (catF 0 (fun (x x_1:Nat) => .nilif) fun i j=>nthD (encK x) ((0+i)*4+j))) (.row 64 4 1 (rowF encK KT.nil [x])),0+1≤1,inR .i64 (0+1)] ⟨rfl,fun _ _=>trivial,aS,i6,oM,aS,oM,i6⟩ ?_
  exact za [(41,1137)] (again _ 1 oM oM)
 ·refine zg [(35,{cs:=[(5,cb [0] cy)],fm:=[(4,.c (.int .i64 ((17:Int)-(f:Int))))],bs:=[(7,.row 64 4 2 (rowF encK .nil [x,y]))]})] [true] [(bif decide ((1:Int)<(2:Int)) then (0:Int)==(0:Int) else false)=true,EqvI (.c (.int .i64 ((17:Int)-(↑(f+(1:Nat)):Int)+(1:Int)))) (.c (.int .i64 ((17:Int)-(f:Int)))),EqvD (.c (.int .i64 ((17:Int)-(↑(f+(1:Nat)):Int)+(1:Int)))) (.c (.int .i64 ((17:Int)-(f:Int)))),inR .i64 ((17:Int)-(↑(f+(1:Nat)):Int)+(1:Int)),112≤140737488355328,BlkEqv (.row 64 (4:Nat) (2:Nat) (catF (([]:List UInt8).length+(1:Nat)) (rowF encK KT.nil [x]) fun i j=>nthD (encK y) (((0:Nat)+i)*(4:Nat)+j))) (.row 64 (4:Nat) (2:Nat) (rowF encK KT.nil [x,y])),([]:List UInt8).length+(1:Nat)≤([]:List UInt8).length+(1:Nat),0+1≤1,inR .i64 (1+1)] ⟨rfl,fun _ _=>trivial,aS,i6,oM,aS,oM,oM,i6⟩ ?_
  exact za [(41,1137)] (again _ 2 oM oM)
 ·refine Wp.ent' kR (Ent.pubC (id:=41) (b:=289) (o:=3) (off:=0) (m:=2) (sz:=4) (n:=2) (e:=64) (e':=64) (cs:=[.int .i64 6,.int .i64 0,.str [],.row 4 41 0 2]) (f:=rowF encK .nil [x,y]) (m':=2) (f':=rowF encK .nil [x,y]) kR kR kR oM rfl (fun i _ j _=>by rw [Nat.zero_add]) rfl) ?_
  refine zg [] [false] [(bif decide ((2:Int)<(2:Int)) then e==(0:Int) else false)=false] rfl ?_
  exact zb []
theorem node_twoX7 (b:List UInt8) (hb:b.length≤30000000000000) (f p l:Nat) (hf:f<16) (hl:0<l) (hl2:l≤64) (hp:p<b.length) (hk:(b.getD p 0).toNat=7) {x:KT} {p1:Nat} {l1 e:Int} (he:e≠0) (cx:FnB Tryz.prog G 223 [rB b (p+1) ((l:Int)-1) 0] [.c (.ptr 0 0),.c (.int .i64 (17-(f:Int)))] [.agg (encK x)] [(0,rB b p1 l1 e)]):FnB Tryz.prog G 223 [rB b p l 0] [.c (.ptr 0 0),.c (.int .i64 (17-((f+1:Nat):Int)))] [.agg (encK ⟨7,0,[],1,rowF encK .nil [x]⟩)] [(0,rB b p1 l1 e)]:=by
 refine zf Tryz.func223 ?_
 have ht0:(bif (0:Int)==0 then bif decide ((l:Int)<1) then true else decide (17-((f+1:Nat):Int)>16) else false)=false:=by rw [decide_eq_false oM,decide_eq_false oM];rfl
 have c1:=num1 (G:=G) b p ((l:Int)-1) hb hp hk
 refine zg [(7,{cs:=[(1,cb [0] c1)]})] [false,false,false,false,false,false,false,false,true] [(bif (0:Int)==(0:Int) then bif decide ((l:Int)<(1:Int)) then true else decide ((17:Int)-(↑(f+(1:Nat)):Int)>(16:Int)) else false)=false,((0:Int) != (0:Int))=false,inR .i64 ((l:Int)-1),((↑(7:Nat):Int)==(1:Int))=false,((↑(7:Nat):Int)==(2:Int))=false,((↑(7:Nat):Int)==(3:Int))=false,((↑(7:Nat):Int)==(4:Int))=false,((↑(7:Nat):Int)==(5:Int))=false,((↑(7:Nat):Int)==(6:Int))=false,((↑(7:Nat):Int)==(7:Int))=true] ⟨aS,rfl,i6,rfl,rfl,rfl,rfl,rfl,rfl,rfl⟩ ?_
 have e1:=kid_new (e:=64) x
 have e2:=deep_D f
 refine zl (fun (j:Nat)=>match j with | 0=>kidSt b f 2 7 0 897 (p+1) ((l:Int)-1) 0 [] | _=>kidSt b f 2 7 1 897 p1 l1 e [x]) (fun j=>j≤1) (fun j=>1-j) 0 (Nat.zero_le _) ?_ [(1,1),(289,289)]
 intro j L hj again
 obtain rfl | rfl:j=0∨j=1:=by omega
 ·refine zg [(35,{cs:=[(5,cb [0] cx)],fm:=[(4,.c (.int .i64 ((17:Int)-(f:Int))))],bs:=[(7,.row 64 4 1 (rowF encK .nil [x]))]})] [true] [(bif decide ((0:Int)<(2:Int)) then (0:Int)==(0:Int) else false)=true,EqvI (.c (.int .i64 ((17:Int)-(↑(f+(1:Nat)):Int)+(1:Int)))) (.c (.int .i64 ((17:Int)-(f:Int)))),EqvD (.c (.int .i64 ((17:Int)-(↑(f+(1:Nat)):Int)+(1:Int)))) (.c (.int .i64 ((17:Int)-(f:Int)))),inR .i64 ((17:Int)-(↑(f+(1:Nat)):Int)+(1:Int)),56≤140737488355328,BlkEqv (.row 64 4 1 (catF 0 (fun (x x_1:Nat) => .nilif) fun i j=>nthD (encK x) ((0+i)*4+j))) (.row 64 4 1 (rowF encK KT.nil [x])),0+1≤1,inR .i64 (0+1)] ⟨rfl,fun _ _=>trivial,aS,i6,oM,aS,oM,i6⟩ ?_
  exact za [(41,1169)] (again _ 1 oM oM)
 ·refine Wp.ent' kR (Ent.pubC (id:=41) (b:=289) (o:=3) (off:=0) (m:=1) (sz:=4) (n:=1) (e:=64) (e':=64) (cs:=[.int .i64 7,.int .i64 0,.str [],.row 4 41 0 1]) (f:=rowF encK .nil [x]) (m':=1) (f':=rowF encK .nil [x]) kR kR kR oM rfl (fun i _ j _=>by rw [Nat.zero_add]) rfl) ?_
  have ht:(bif decide ((1:Int)<2) then e==0 else false)=false:=by simp [he]
  refine zg [] [false] [(bif decide ((1:Int)<(2:Int)) then e==(0:Int) else false)=false] (oN aS) ?_
  exact zb []
theorem node_two7 (b:List UInt8) (hb:b.length≤30000000000000) (f p l:Nat) (hf:f<16) (hl:0<l) (hl2:l≤64) (hp:p<b.length) (hk:(b.getD p 0).toNat=7) {x y:KT} {p1 p2:Nat} {l1 l2 e:Int} (cx:FnB Tryz.prog G 223 [rB b (p+1) ((l:Int)-1) 0] [.c (.ptr 0 0),.c (.int .i64 (17-(f:Int)))] [.agg (encK x)] [(0,rB b p1 l1 0)]) (cy:FnB Tryz.prog G 223 [rB b p1 l1 0] [.c (.ptr 0 0),.c (.int .i64 (17-(f:Int)))] [.agg (encK y)] [(0,rB b p2 l2 e)]):FnB Tryz.prog G 223 [rB b p l 0] [.c (.ptr 0 0),.c (.int .i64 (17-((f+1:Nat):Int)))] [.agg (encK ⟨7,0,[],2,rowF encK .nil [x,y]⟩)] [(0,rB b p2 l2 e)]:=by
 refine zf Tryz.func223 ?_
 have ht0:(bif (0:Int)==0 then bif decide ((l:Int)<1) then true else decide (17-((f+1:Nat):Int)>16) else false)=false:=by rw [decide_eq_false oM,decide_eq_false oM];rfl
 have c1:=num1 (G:=G) b p ((l:Int)-1) hb hp hk
 refine zg [(7,{cs:=[(1,cb [0] c1)]})] [false,false,false,false,false,false,false,false,true] [(bif (0:Int)==(0:Int) then bif decide ((l:Int)<(1:Int)) then true else decide ((17:Int)-(↑(f+(1:Nat)):Int)>(16:Int)) else false)=false,((0:Int) != (0:Int))=false,inR .i64 ((l:Int)-1),((↑(7:Nat):Int)==(1:Int))=false,((↑(7:Nat):Int)==(2:Int))=false,((↑(7:Nat):Int)==(3:Int))=false,((↑(7:Nat):Int)==(4:Int))=false,((↑(7:Nat):Int)==(5:Int))=false,((↑(7:Nat):Int)==(6:Int))=false,((↑(7:Nat):Int)==(7:Int))=true] ⟨aS,rfl,i6,rfl,rfl,rfl,rfl,rfl,rfl,rfl⟩ ?_
 have e1:=kid_new (e:=64) x
 have e2:=deep_D f
 have e3:BlkEqv (.row 64 4 (1+1) (catF 1 (rowF encK .nil [x]) (fun i j=>nthD (encK y) ((0+i)*4+j)))) (.row 64 4 (1+1) (rowF encK .nil [x,y])):=enc_app [x] y rfl
 refine zl (fun (j:Nat)=>match j with | 0=>kidSt b f 2 7 0 897 (p+1) ((l:Int)-1) 0 [] | 1=>kidSt b f 2 7 1 897 p1 l1 0 [x] | _=>kidSt b f 2 7 2 897 p2 l2 e [x,y]) (fun j=>j≤2) (fun j=>2-j) 0 (Nat.zero_le _) ?_ [(1,1),(289,289)]
 intro j L hj again
 obtain rfl | rfl | rfl:j=0∨j=1∨j=2:=by omega
 ·refine zg [(35,{cs:=[(5,cb [0] cx)],fm:=[(4,.c (.int .i64 ((17:Int)-(f:Int))))],bs:=[(7,.row 64 4 1 (rowF encK .nil [x]))]})] [true] [(bif decide ((0:Int)<(2:Int)) then (0:Int)==(0:Int) else false)=true,EqvI (.c (.int .i64 ((17:Int)-(↑(f+(1:Nat)):Int)+(1:Int)))) (.c (.int .i64 ((17:Int)-(f:Int)))),EqvD (.c (.int .i64 ((17:Int)-(↑(f+(1:Nat)):Int)+(1:Int)))) (.c (.int .i64 ((17:Int)-(f:Int)))),inR .i64 ((17:Int)-(↑(f+(1:Nat)):Int)+(1:Int)),56≤140737488355328,BlkEqv (.row 64 4 1 (catF 0 (fun (x x_1:Nat) => .nilif) fun i j=>nthD (encK x) ((0+i)*4+j))) (.row 64 4 1 (rowF encK KT.nil [x])),0+1≤1,inR .i64 (0+1)] ⟨rfl,fun _ _=>trivial,aS,i6,oM,aS,oM,i6⟩ ?_
  exact za [(41,1169)] (again _ 1 oM oM)
 ·refine zg [(35,{cs:=[(5,cb [0] cy)],fm:=[(4,.c (.int .i64 ((17:Int)-(f:Int))))],bs:=[(7,.row 64 4 2 (rowF encK .nil [x,y]))]})] [true] [(bif decide ((1:Int)<(2:Int)) then (0:Int)==(0:Int) else false)=true,EqvI (.c (.int .i64 ((17:Int)-(↑(f+(1:Nat)):Int)+(1:Int)))) (.c (.int .i64 ((17:Int)-(f:Int)))),EqvD (.c (.int .i64 ((17:Int)-(↑(f+(1:Nat)):Int)+(1:Int)))) (.c (.int .i64 ((17:Int)-(f:Int)))),inR .i64 ((17:Int)-(↑(f+(1:Nat)):Int)+(1:Int)),112≤140737488355328,BlkEqv (.row 64 (4:Nat) (2:Nat) (catF (([]:List UInt8).length+(1:Nat)) (rowF encK KT.nil [x]) fun i j=>nthD (encK y) (((0:Nat)+i)*(4:Nat)+j))) (.row 64 (4:Nat) (2:Nat) (rowF encK KT.nil [x,y])),([]:List UInt8).length+(1:Nat)≤([]:List UInt8).length+(1:Nat),0+1≤1,inR .i64 (1+1)] ⟨rfl,fun _ _=>trivial,aS,i6,oM,aS,oM,oM,i6⟩ ?_
  exact za [(41,1169)] (again _ 2 oM oM)
 ·refine Wp.ent' kR (Ent.pubC (id:=41) (b:=289) (o:=3) (off:=0) (m:=2) (sz:=4) (n:=2) (e:=64) (e':=64) (cs:=[.int .i64 7,.int .i64 0,.str [],.row 4 41 0 2]) (f:=rowF encK .nil [x,y]) (m':=2) (f':=rowF encK .nil [x,y]) kR kR kR oM rfl (fun i _ j _=>by rw [Nat.zero_add]) rfl) ?_
  refine zg [] [false] [(bif decide ((2:Int)<(2:Int)) then e==(0:Int) else false)=false] rfl ?_
  exact zb []
def NodeR (G:Nat→Option (List Cell)) (b:List UInt8) (f p l:Nat):Prop:=∃ (x:KT) (p':Nat) (l' e:Int),rdOut (rdT b f p l) x p' l' e ∧
 FnB Tryz.prog G 223 [rB b p (l:Int) 0] [.c (.ptr 0 0),.c (.int .i64 (17-(f:Int)))] [.agg (encK x)] [(0,rB b p' l' e)]
theorem node_kids (b:List UInt8) (f p l:Nat) (hl:0<l) (ih:∀ p l,p≤b.length→l≤64→NodeR G b f p l) (hp:p<b.length) (hl2:l≤64) :
  ∃ (x:KT) (p':Nat) (l' e:Int),rdOut (rdT b f (p+1) (l-1)) x p' l' e∧FnB Tryz.prog G 223 [rB b (p+1) ((l:Int)-1) 0] [.c (.ptr 0 0),.c (.int .i64 (17-(f:Int)))] [.agg (encK x)] [(0,rB b p' l' e)]:=by
 have:=ih (p+1) (l-1) oM oM
 unfold NodeR at this
 rw [show ((l-1:Nat):Int)=(l:Int)-1 by omega] at this
 exact this
theorem node_ok (b:List UInt8) (hb:b.length≤30000000000000):∀ f,f≤16→∀ p l,p≤b.length→l≤64→NodeR G b f p l
 | 0,hf,p,l,hp,hl=>⟨_,_,_,_,(by show (4:Int)≠0; decide),node_deep b 0 p l hf hl (.inl rfl)⟩
 | f+1,hf,p,l,hp,hl2=>by
  have ih:=node_ok b hb f oM
  unfold NodeR
  rcases Nat.eq_zero_or_pos l with h0 | hl
  ·refine ⟨_,_,_,_,?_,node_deep b (f+1) p l hf hl2 (.inr h0)⟩
   rw [rdT,if_pos h0];show (4:Int)≠0;decide
  rw [rdT,if_neg oM]
  rcases Nat.lt_or_ge p b.length with hlt | hge
  ·rw [if_neg oM]
   generalize hk:(b.getD p 0).toNat=k
   by_cases k1:k=1
   ·subst k1
    rw [if_pos rfl]
    rcases Nat.lt_or_ge b.length (p+1+2) with h2 | h2
    ·exact ⟨_,_,_,_,(by rw [if_pos h2];show (1:Int)≠0;decide),node_a1 b hb f p l hf hl hl2 hlt hk h2⟩
    ·rw [if_neg oM]
     generalize hn:(beN b (p+1) 2).toNat=n
     rcases Nat.lt_or_ge 1024 n with h3 | h3
     ·exact ⟨_,_,_,_,(by rw [if_pos h3];show (3:Int)≠0;decide),node_a2 b hb f p l hf hl hl2 hlt hk h2 hn h3⟩
     ·rw [if_neg oM]
      rcases Nat.lt_or_ge b.length (p+1+2+n) with h4 | h4
      ·exact ⟨_,_,_,_,(by rw [if_pos h4];show (1:Int)≠0;decide),node_a3 b hb f p l hf hl hl2 hlt hk h2 hn h3 h4⟩
      ·exact ⟨_,_,_,_,(by rw [if_neg oM];exact ⟨rfl,rfl,by omega,rfl⟩),node_a4 b hb f p l hf hl hl2 hlt hk h2 hn h3 h4⟩
   rw [if_neg k1]
   by_cases k2:k=2
   ·subst k2
    rw [if_pos rfl]
    rcases Nat.lt_or_ge b.length (p+1+4) with h2 | h2
    ·exact ⟨_,_,_,_,(by rw [if_pos h2];show (1:Int)≠0;decide),node_n1 b hb f p l hf hl hl2 hlt hk h2⟩
    ·rw [if_neg oM]
     generalize hn:(beN b (p+1) 4).toNat=n
     rcases Nat.lt_or_ge 1073741824 n with h3 | h3
     ·exact ⟨_,_,_,_,(by rw [if_pos h3];show (3:Int)≠0;decide),node_n2 b hb f p l hf hl hl2 hlt hk h2 hn h3⟩
     ·exact ⟨_,_,_,_,(by rw [if_neg oM];exact ⟨rfl,rfl,by omega,rfl⟩),node_n3 b hb f p l hf hl hl2 hlt hk h2 hn h3⟩
   rw [if_neg k2]
   obtain ⟨x,p1,l1,e1,hr,c⟩:=node_kids (G:=G) b f p l hl ih hlt hl2
   by_cases k34:k=3∨k=4
   ·rw [if_pos k34]
    have hout:rdOut (match rdT b f (p+1) (l-1) with | none=>none | some (t,p1,l1)=>some (.one (k:Int) t,p1,l1)) ⟨(k:Int),0,[],1,rowF encK .nil [x]⟩ p1 l1 e1:=by
     revert hr
     cases rdT b f (p+1) (l-1) with
     | none=>exact fun h=>h
     | some t=>exact fun h=>⟨by rw [h.1]; rfl,h.2⟩
    rcases k34 with rfl | rfl
    ·exact ⟨_,_,_,_,hout,node_one3 b hb f p l oM hl hl2 hlt hk c⟩
    ·exact ⟨_,_,_,_,hout,node_one4 b hb f p l oM hl hl2 hlt hk c⟩
   rw [if_neg k34]
   by_cases k57:k=5∨k=6∨k=7
   ·rw [if_pos k57]
    cases h1:rdT b f (p+1) (l-1) with
    | none =>
     rw [h1] at hr
     have hr:e1≠0:=hr
     rcases k57 with rfl | rfl | rfl
     ·exact ⟨_,_,_,_,hr,node_twoX5 b hb f p l oM hl hl2 hlt hk hr c⟩
     ·exact ⟨_,_,_,_,hr,node_twoX6 b hb f p l oM hl hl2 hlt hk hr c⟩
     ·exact ⟨_,_,_,_,hr,node_twoX7 b hb f p l oM hl hl2 hlt hk hr c⟩
    | some t =>
     obtain ⟨t,q,m⟩:=t
     rw [h1] at hr
     obtain ⟨hx,hp1,hl1,he1⟩:=hr
     subst hx hp1 hl1 he1
     have hle:=rdT_le b f _ _ _ _ _ h1
     obtain ⟨y,p2,l2,e2,hr2,c2⟩:=ih p1 m hle.1 oM
     simp only []
     have hout:rdOut (match rdT b f p1 m with | none=>none | some (u,p2,l2)=>some (.two (k:Int) t u,p2,l2)) ⟨(k:Int),0,[],2,rowF encK .nil [toK t,y]⟩ p2 l2 e2:=by
      revert hr2
      cases rdT b f p1 m with
      | none=>exact fun h=>h
      | some t=>exact fun h=>⟨by rw [h.1]; rfl,h.2⟩
     rcases k57 with rfl | rfl | rfl
     ·exact ⟨_,_,_,_,hout,node_two5 b hb f p l oM hl hl2 hlt hk c c2⟩
     ·exact ⟨_,_,_,_,hout,node_two6 b hb f p l oM hl hl2 hlt hk c c2⟩
     ·exact ⟨_,_,_,_,hout,node_two7 b hb f p l oM hl hl2 hlt hk c c2⟩
   rw [if_neg k57]
   exact ⟨_,_,_,_,(by show (2:Int)≠0;decide),node_bad b hb f p l oM hl hl2 hlt hk oM⟩
  ·rw [if_pos oM]
   exact ⟨_,_,_,_,(by show (1:Int)≠0;decide),node_short b hb f p l oM hl hl2 oM⟩
def oneT (b:List UInt8):Option Tm:=match rdT b 16 0 64 with
 | some (t,p,_)=>if p=b.length then some t else none
 | none=>none
def innT (s:List UInt8):Option Tm:=match dec8 s with
 | some o=>oneT o
 | none=>none
theorem take2_good (b:List UInt8) (hb:b.length≤30000000000000) {t:Tm} {p l:Nat} (h:rdT b 16 0 64=some (t,p,l)):Pur Tryz.prog G 183 [.c (.sl 1 b.length (bytesF b))] [.agg (encK (toK t)),.c (.int .i64 (p:Int)),.c (.int .i64 0)]:=by
 refine zp Tryz.func183 ?_
 obtain ⟨x,p',l',e,hr,c⟩:=node_ok (G:=G) b hb 16 dC 0 64 oM dC
 rw [h] at hr
 obtain ⟨rfl,rfl,rfl,rfl⟩:=hr
 refine zg [(2,{cs:=[(1,cb [80] c)]})] [false] [((0:Int) != (0:Int))=false] rfl ?_
 exact zr
theorem take2_bad (b:List UInt8) (hb:b.length≤30000000000000) (h:rdT b 16 0 64=none):∃ e:Int,e≠0∧Pur Tryz.prog G 183 [.c (.sl 1 b.length (bytesF b))] [.agg [.int .i64 0,.int .i64 0,.str [],.nilsl],.c (.int .i64 0),.c (.int .i64 e)]:=by
 obtain ⟨x,p',l',e,hr,c⟩:=node_ok (G:=G) b hb 16 dC 0 64 oM dC
 rw [h] at hr
 have hr:e≠0:=hr
 refine ⟨e,hr,?_⟩
 refine zp Tryz.func183 ?_
 have ht:(e != 0)=true:=by simp [hr]
 refine zg [(2,{cs:=[(1,cb [80] c)]})] [true] [(e != (0:Int))=true] (oN aS) ?_
 exact zr
theorem one2_good (b:List UInt8) (hb:b.length≤30000000000000) {t:Tm} (h:oneT b=some t):Pur Tryz.prog G 138 [.c (.sl 1 b.length (bytesF b))] [.agg (encK (toK t)),.c (.int .i64 0)]:=by
 unfold oneT at h
 split at h
 ·rename_i t2 p l h1
  split at h
  ·rename_i hp
   simp only [Option.some.injEq] at h
   subst h hp
   refine zp Tryz.func138 ?_
   have c:=take2_good (G:=G) b hb h1
   have ht:(bif (0:Int)==0 then decide ((b.length:Int)<(b.length:Int)) else false)=false:=by simp
   refine zg [(1,{cs:=[(1,pc c)]})] [false,false] [(bif (0:Int)==(0:Int) then decide ((b.length:Int)<(b.length:Int)) else false)=false,((0:Int) != (0:Int))=false] ⟨aS,rfl⟩ ?_
   exact zr
  ·cases h
 ·cases h
theorem one2_bad (b:List UInt8) (hb:b.length≤30000000000000) (h:oneT b=none):∃ e:Int,e≠0∧Pur Tryz.prog G 138 [.c (.sl 1 b.length (bytesF b))] [.agg [.int .i64 0,.int .i64 0,.str [],.nilsl],.c (.int .i64 e)]:=by
 unfold oneT at h
 split at h
 ·rename_i t2 p l h1
  split at h
  ·cases h
  ·rename_i hp
   refine ⟨5,by decide,?_⟩
   refine zp Tryz.func138 ?_
   have c:=take2_good (G:=G) b hb h1
   have hle:=rdT_le b _ _ _ _ _ _ h1
   have ht:(bif (0:Int)==0 then decide ((p:Int)<(b.length:Int)) else false)=true:=by simp;omega
   refine zg [(1,{cs:=[(1,pc c)]})] [true,true] [(bif (0:Int)==(0:Int) then decide ((p:Int)<(b.length:Int)) else false)=true,((5:Int) != (0:Int))=true] ⟨aS,rfl⟩ ?_
   exact zr
 ·rename_i h1
  obtain ⟨e,he,c⟩:=take2_bad (G:=G) b hb h1
  refine ⟨e,he,?_⟩
  refine zp Tryz.func138 ?_
  have ht:(bif e==0 then decide ((0:Int)<(b.length:Int)) else false)=false:=by simp [he]
  have ht2:(e != 0)=true:=by simp [he]
  refine zg [(1,{cs:=[(1,pc c)]})] [false,true] [(bif e==(0:Int) then decide ((0:Int)<(b.length:Int)) else false)=false,(e != (0:Int))=true] ⟨aS,(show (e != (0:Int))=true from aS)⟩ ?_
  exact zr
theorem slB_D (o:List UInt8):EqvD (.c (slB o)) (.c (.sl 1 o.length (bytesF o))):=by
 cases o with
 | nil=>exact nil_sl
 | cons a r=>exact fun _ _ _ h=>h
theorem inner9_good (s:List UInt8) (hs:s.length≤30000000000000) {t:Tm} (h:innT s=some t) (hlen:∀ o,dec8 s=some o→o.length≤30000000000000):Pur Tryz.prog G 85 [.c (.str s)] [.agg (encK (toK t)),.c (.bool true)]:=by
 unfold innT at h
 split at h
 ·rename_i o ho
  have c1:=dec8_ok (G:=G) s hs
  rw [decR_some ho] at c1
  have c2:=one2_good (G:=G) o (hlen o ho) h
  have e1:=slB_D o
  refine zp Tryz.func85 ?_
  cases o with
  | nil =>
   have c1:Pur Tryz.prog G 98 [.c (.str s)] [.c .nilsl,.c (.int .i64 0)]:=c1
   have c2:Pur Tryz.prog G 138 [.c (.sl 1 0 (bytesF []))] [.agg (encK (toK t)),.c (.int .i64 0)]:=c2
   have e1:=nil_sl (f:=bytesF [])
   refine zg [(4,{cs:=[(1,pc c2)],fm:=[(0,.c (.sl 1 0 (bytesF [])))]}),(1,{cs:=[(1,pc c1)]})] [false] [((0:Int) != (0:Int))=false,EqvI (.c .nilsl) (.c (.sl 1 0 (bytesF []))),EqvD (.c .nilsl) (.c (.sl 1 0 (bytesF [])))] ⟨rfl,fun _ _=>trivial,(show EqvD (.c .nilsl) (.c (.sl (1:Nat) (0:Nat) (bytesF []))) from aS)⟩ ?_
   exact zr
  | cons a r =>
   have c1:Pur Tryz.prog G 98 [.c (.str s)] [.c (.sl 1 (a::r).length (bytesF (a::r))),.c (.int .i64 0)]:=c1
   generalize a::r=o at c1 c2
   refine zg [(1,{cs:=[(1,pc c1)]}),(4,{cs:=[(1,pc c2)]})] [false] [((0:Int) != (0:Int))=false] rfl ?_
   exact zr
 ·cases h
theorem inner9_bad (s:List UInt8) (hs:s.length≤30000000000000) (h:innT s=none) (hlen:∀ o,dec8 s=some o→o.length≤30000000000000):Pur Tryz.prog G 85 [.c (.str s)] [.agg [.int .i64 0,.int .i64 0,.str [],.nilsl],.c (.bool false)]:=by
 have c1:=dec8_ok (G:=G) s hs
 unfold innT at h
 refine zp Tryz.func85 ?_
 cases ho:dec8 s with
 | none =>
  rw [decR_none ho] at c1
  refine zg [(1,{cs:=[(1,pc c1)]})] [true] [((3:Int) != (0:Int))=true] rfl ?_
  exact zr
 | some o =>
  rw [decR_some ho] at c1
  rw [ho] at h
  obtain ⟨e,he,c2⟩:=one2_bad (G:=G) o (hlen o ho) h
  have ht:(e==0)=false:=by simp [he]
  cases o with
  | nil =>
   have c1:Pur Tryz.prog G 98 [.c (.str s)] [.c .nilsl,.c (.int .i64 0)]:=c1
   have c2:Pur Tryz.prog G 138 [.c (.sl 1 0 (bytesF []))] [.agg [.int .i64 0,.int .i64 0,.str [],.nilsl],.c (.int .i64 e)]:=c2
   have e1:=nil_sl (f:=bytesF [])
   refine zg [(4,{cs:=[(1,pc c2)],fm:=[(0,.c (.sl 1 0 (bytesF [])))]}),(1,{cs:=[(1,pc c1)]})] [false] [((0:Int) != (0:Int))=false,EqvI (.c .nilsl) (.c (.sl 1 0 (bytesF []))),EqvD (.c .nilsl) (.c (.sl 1 0 (bytesF [])))] ⟨rfl,fun _ _=>trivial,(show EqvD (.c .nilsl) (.c (.sl (1:Nat) (0:Nat) (bytesF []))) from aS)⟩ ?_
   exact zS [.agg [.int .i64 (0:Int),.int .i64 (0:Int),.str [],.nilsl],.c (.bool (e==(0:Int)))] (by simp only [Int.ofNat_eq_natCast,Int.toNat_natCast,List.take_length,List.drop_zero, *])
  | cons a r =>
   have c1:Pur Tryz.prog G 98 [.c (.str s)] [.c (.sl 1 (a::r).length (bytesF (a::r))),.c (.int .i64 0)]:=c1
   generalize a::r=o at c1 c2
   refine zg [(1,{cs:=[(1,pc c1)]}),(4,{cs:=[(1,pc c2)]})] [false] [((0:Int) != (0:Int))=false] rfl ?_
   exact zS [.agg [.int .i64 (0:Int),.int .i64 (0:Int),.str [],.nilsl],.c (.bool (e==(0:Int)))] (by simp only [Int.ofNat_eq_natCast,Int.toNat_natCast,List.take_length,List.drop_zero, *])
theorem rd8_len:∀ (r:List UInt8) (v:Int) (bits:Nat) (out o:List UInt8),rd8 r v bits out=some o→o.length≤out.length+r.length
 | [],_,_,out,o,h=>by simp only [rd8,Option.some.injEq] at h; subst h; simp
 | c::r,v,bits,out,o,h=>by
  unfold rd8 at h
  split at h
  ·cases h
  ·split at h
   ·have:=rd8_len r _ _ _ _ h;simp only [List.length_cons];omega
   ·have:=rd8_len r _ _ _ _ h
    simp only [List.length_append,List.length_cons,List.length_nil] at this ⊢;omega
theorem dec8_len {s o:List UInt8} (h:dec8 s=some o):o.length≤s.length:=by
 unfold dec8 at h
 split at h
 ·cases h
 ·rename_i o2 h2
  split at h
  ·simp only [Option.some.injEq] at h
   subst h
   have:=rd8_len s 0 0 [] _ h2
   simpa using this
  ·cases h
def shapeT (s:List UInt8):Bool := !(bif bif decide ((s.length:Int)<2) then true else ((s.getD 0 0).toNat:Int) != 126 then true else ((s.getD (s.length-1) 0).toNat:Int) != 126)
def coreT (s:List UInt8):List UInt8:=(s.take (s.length-1)).drop 1
def readT (s:List UInt8):Option Tm:=if shapeT s=true then innT (coreT s) else none
theorem inner9_ok (s:List UInt8) (hs:s.length≤30000000000000):(∃ t,innT s=some t∧Pur Tryz.prog G 85 [.c (.str s)] [.agg (encK (toK t)),.c (.bool true)])∨(innT s=none∧Pur Tryz.prog G 85 [.c (.str s)] [.agg [.int .i64 0,.int .i64 0,.str [],.nilsl],.c (.bool false)]):=by
 have hl:∀ o,dec8 s=some o→o.length≤30000000000000:=fun o h=>by have:=dec8_len h;omega
 cases h:innT s with
 | none=>exact .inr ⟨rfl,inner9_bad s hs h hl⟩
 | some t=>exact .inl ⟨t,rfl,inner9_good s hs h hl⟩
theorem coreT_len (s:List UInt8):(coreT s).length≤s.length:=by
 unfold coreT;rw [List.length_drop,List.length_take];omega
theorem read9_ok (s:List UInt8) (hs:s.length≤30000000000000):(∃ t,readT s=some t∧Pur Tryz.prog G 32 [.c (.str s)] [.agg (encK (toK t)),.c (.bool true)])∨(readT s=none∧Pur Tryz.prog G 32 [.c (.str s)] [.agg [.int .i64 0,.int .i64 0,.str [],.nilsl],.c (.bool false)]):=by
 unfold readT
 by_cases hsh:shapeT s=true
 ·rw [if_pos hsh]
  have hsh2:=hsh
  unfold shapeT at hsh2
  rw [Bool.not_eq_true'] at hsh2
  have hge:2≤s.length:=by
   rcases Nat.lt_or_ge s.length 2 with h | h
   ·rw [decide_eq_true oM] at hsh2;cases hsh2
   ·exact h
  have e1:EqvD (.c (.str (List.drop 1 (List.take (s.length-1) s)))) (.c (.str (coreT s))):=fun _ _ _ h=>h
  have e2:EqvD (.c (.int .i64 ((s.length:Int)-1))) (.c (.int .i64 ((s.length-1:Nat):Int))):=eqvD_of (by rw [show (s.length:Int)-1=((s.length-1:Nat):Int) by omega])
  rcases inner9_ok (G:=G) (coreT s) (Nat.le_trans (coreT_len s) hs) with ⟨t,ht,c⟩ | ⟨ht,c⟩
  ·refine .inl ⟨t,ht,?_⟩
   refine zp Tryz.func32 ?_
   clear ht hsh
   refine zg [(1,{fm:=[(12,.c (.int .i64 ((s.length-1:Nat):Int)))]}),(3,{cs:=[(5,pc c)],fm:=[(3,.c (.int .i64 ((s.length-1:Nat):Int))),(4,.c (.str (coreT s)))]})] [false] [decide ((s.length:Int)<(2:Int))=false→(0:Int)≤(0:Int)∧(0:Int)<(s.length:Int),EqvI (.c (.int .i64 ((s.length:Int)-(1:Int)))) (.c (.int .i64 (↑(s.length-(1:Nat)):Int))),(bif decide ((s.length:Int)<(2:Int)) then true else (↑(s.getD (0:Nat) (0:UInt8)).toNat:Int) != (126:Int))=false→EqvD (.c (.int .i64 ((s.length:Int)-(1:Int)))) (.c (.int .i64 (↑(s.length-(1:Nat)):Int))),(bif decide ((s.length:Int)<(2:Int)) then true else (↑(s.getD (0:Nat) (0:UInt8)).toNat:Int) != (126:Int))=false→inR .i64 ((s.length:Int)-(1:Int)),(bif decide ((s.length:Int)<(2:Int)) then true else (↑(s.getD (0:Nat) (0:UInt8)).toNat:Int) != (126:Int))=false→(0:Int)≤(↑(s.length-(1:Nat)):Int)∧(↑(s.length-(1:Nat)):Int)<(s.length:Int),(bif bif decide ((s.length:Int)<(2:Int)) then true else (↑(s.getD (0:Nat) (0:UInt8)).toNat:Int) != (126:Int) then true else (↑(s.getD (s.length-(1:Nat)) (0:UInt8)).toNat:Int) != (126:Int))=false,EqvI (.c (.int .i64 ((s.length:Int)-(1:Int)))) (.c (.int .i64 (↑(s.length-(1:Nat)):Int))),EqvD (.c (.int .i64 ((s.length:Int)-(1:Int)))) (.c (.int .i64 (↑(s.length-(1:Nat)):Int))),inR .i64 ((s.length:Int)-1),EqvI (.c (.str (List.drop (1:Nat) (List.take (Int.ofNat (s.length-(1:Nat))).toNat s)))) (.c (.str (coreT s))),EqvD (.c (.str (List.drop (1:Nat) (List.take (Int.ofNat (s.length-(1:Nat))).toNat s)))) (.c (.str (coreT s))),(0:Int)≤Int.ofNat (1)∧Int.ofNat (1)≤Int.ofNat (s.length-(1:Nat))∧Int.ofNat (s.length-(1:Nat))≤(s.length:Int)] ⟨oM,fun _ _=>trivial,(by intro _;assumption),(fun _=>i6),oM,aS,fun _ _=>trivial,aS,i6,fun _ _=>trivial,aS,⟨dC,⟨sO,(by simp;done)⟩⟩⟩ ?_
   exact zr
  ·refine .inr ⟨ht,?_⟩
   refine zp Tryz.func32 ?_
   clear ht hsh
   refine zg [(1,{fm:=[(12,.c (.int .i64 ((s.length-1:Nat):Int)))]}),(3,{cs:=[(5,pc c)],fm:=[(3,.c (.int .i64 ((s.length-1:Nat):Int))),(4,.c (.str (coreT s)))]})] [false] [decide ((s.length:Int)<(2:Int))=false→(0:Int)≤(0:Int)∧(0:Int)<(s.length:Int),EqvI (.c (.int .i64 ((s.length:Int)-(1:Int)))) (.c (.int .i64 (↑(s.length-(1:Nat)):Int))),(bif decide ((s.length:Int)<(2:Int)) then true else (↑(s.getD (0:Nat) (0:UInt8)).toNat:Int) != (126:Int))=false→EqvD (.c (.int .i64 ((s.length:Int)-(1:Int)))) (.c (.int .i64 (↑(s.length-(1:Nat)):Int))),(bif decide ((s.length:Int)<(2:Int)) then true else (↑(s.getD (0:Nat) (0:UInt8)).toNat:Int) != (126:Int))=false→inR .i64 ((s.length:Int)-(1:Int)),(bif decide ((s.length:Int)<(2:Int)) then true else (↑(s.getD (0:Nat) (0:UInt8)).toNat:Int) != (126:Int))=false→(0:Int)≤(↑(s.length-(1:Nat)):Int)∧(↑(s.length-(1:Nat)):Int)<(s.length:Int),(bif bif decide ((s.length:Int)<(2:Int)) then true else (↑(s.getD (0:Nat) (0:UInt8)).toNat:Int) != (126:Int) then true else (↑(s.getD (s.length-(1:Nat)) (0:UInt8)).toNat:Int) != (126:Int))=false,EqvI (.c (.int .i64 ((s.length:Int)-(1:Int)))) (.c (.int .i64 (↑(s.length-(1:Nat)):Int))),EqvD (.c (.int .i64 ((s.length:Int)-(1:Int)))) (.c (.int .i64 (↑(s.length-(1:Nat)):Int))),inR .i64 ((s.length:Int)-1),EqvI (.c (.str (List.drop (1:Nat) (List.take (Int.ofNat (s.length-(1:Nat))).toNat s)))) (.c (.str (coreT s))),EqvD (.c (.str (List.drop (1:Nat) (List.take (Int.ofNat (s.length-(1:Nat))).toNat s)))) (.c (.str (coreT s))),(0:Int)≤Int.ofNat (1)∧Int.ofNat (1)≤Int.ofNat (s.length-(1:Nat))∧Int.ofNat (s.length-(1:Nat))≤(s.length:Int)] ⟨oM,fun _ _=>trivial,(by intro _;assumption),(fun _=>i6),oM,aS,fun _ _=>trivial,aS,i6,fun _ _=>trivial,aS,⟨dC,⟨sO,(by simp;done)⟩⟩⟩ ?_
   exact zr
 ·rw [if_neg hsh]
  refine .inr ⟨rfl,?_⟩
  have hsh2:(bif bif decide ((s.length:Int)<2) then true else ((s.getD 0 0).toNat:Int) != 126 then true else ((s.getD (s.length-1) 0).toNat:Int) != 126)=true:=by
   have h2:=eq_false_of_ne_true hsh
   exact (Bool.not_eq_false' _).mp h2
  refine zp Tryz.func32 ?_
  by_cases h2:s.length<2
  ·have ht:decide ((s.length:Int)<2)=true:=decide_eq_true oM
   refine zg [(1,{grd:=[(4,false),(5,false),(6,false),(7,true),(9,false),(10,false),(11,false),(12,false),(13,false),(14,false),(15,true)]})] [true] [decide ((s.length:Int)<2) = !false,decide ((s.length:Int)<2) = !false,decide ((s.length:Int)<2) = !false,decide ((s.length:Int)<2)=true,true = !false,true = !false,true = !false,true = !false,true = !false,true = !false,true=true,true=true] ⟨aS,aS,aS,aS,rfl,rfl,rfl,rfl,rfl,rfl,rfl,rfl⟩ ?_
   exact zr
  ·have e2:EqvD (.c (.int .i64 ((s.length:Int)-1))) (.c (.int .i64 ((s.length-1:Nat):Int))):=eqvD_of (by rw [show (s.length:Int)-1=((s.length-1:Nat):Int) by omega])
   clear hsh
   refine zg [(1,{fm:=[(12,.c (.int .i64 ((s.length-1:Nat):Int)))]})] [true] [decide ((s.length:Int)<(2:Int))=false→(0:Int)≤(0:Int)∧(0:Int)<(s.length:Int),EqvI (.c (.int .i64 ((s.length:Int)-(1:Int)))) (.c (.int .i64 (↑(s.length-(1:Nat)):Int))),(bif decide ((s.length:Int)<(2:Int)) then true else (↑(s.getD (0:Nat) (0:UInt8)).toNat:Int) != (126:Int))=false→EqvD (.c (.int .i64 ((s.length:Int)-(1:Int)))) (.c (.int .i64 (↑(s.length-(1:Nat)):Int))),(bif decide ((s.length:Int)<(2:Int)) then true else (↑(s.getD (0:Nat) (0:UInt8)).toNat:Int) != (126:Int))=false→inR .i64 ((s.length:Int)-(1:Int)),(bif decide ((s.length:Int)<(2:Int)) then true else (↑(s.getD (0:Nat) (0:UInt8)).toNat:Int) != (126:Int))=false→(0:Int)≤(↑(s.length-(1:Nat)):Int)∧(↑(s.length-(1:Nat)):Int)<(s.length:Int),(bif bif decide ((s.length:Int)<(2:Int)) then true else (↑(s.getD (0:Nat) (0:UInt8)).toNat:Int) != (126:Int) then true else (↑(s.getD (s.length-(1:Nat)) (0:UInt8)).toNat:Int) != (126:Int))=true] ⟨oM,fun _ _=>trivial,(by intro _;assumption),(fun _=>i6),oM,(show (bif bif decide ((↑s.length:Int)<(2:Int)) then true else (↑(s.getD (0:Nat) (0:UInt8)).toNat:Int) != (126:Int) then true else (↑(s.getD (s.length-(1:Nat)) (0:UInt8)).toNat:Int) != (126:Int))=true from aS)⟩ ?_
   exact zr
def cB (b:List UInt8) (p:Nat) (c:Int):Blk := .box 226 [.sl 1 b.length (bytesF b),.int .i64 (p:Int),.int .i64 c]
def errC (e:Int):Cell := .ifc 40 none (fun _ => .int .i64 e)
theorem cut_D (b:List UInt8) (p n:Nat) (h:p+n≤b.length):EqvD (.c (.sl 1 (p+n-p) (fun i j=>bytesF b (p+i) j))) (.c (.sl 1 n (bytesF ((b.drop p).take n)))):=EqvD.sl oM (fun i hi j hj=>by
 show Cell.int .u8 _=Cell.int .u8 _
 have hi2:i<n:=by omega
 rw [List.getD_eq_getElem?_getD,List.getD_eq_getElem?_getD,List.getElem?_take,if_pos hi2,List.getElem?_drop])
theorem take_good (b:List UInt8) (hb:b.length≤30000000000000) (p n:Nat) (c:Int) (hp:p+n≤b.length):FnB Tryz.prog G 256 [cB b p c] [.c (.ptr 0 0),.c (.int .i64 (n:Int))] [.c (.sl 1 n (bytesF ((b.drop p).take n))),.c .nilif] [(0,cB b (p+n) c)]:=by
 refine zf Tryz.func256 ?_
 have ht:decide ((b.length:Int)-(p:Int)<(n:Int))=false:=decide_eq_false oM
 have e1:=cut_D b p n hp
 refine zg [(3,{fm:=[(20,.c (.sl 1 n (bytesF ((b.drop p).take n))))]})] [false] [inR .i64 ((b.length:Int)-(p:Int)),decide ((b.length:Int)-(p:Int)<(n:Int))=false,inR .i64 ((p:Int)+(n:Int)),inR .i64 ((p:Int)+(n:Int)),EqvI (.c (.sl 1 ((Int.ofNat (p+n)).toNat-(Int.ofNat p).toNat) fun i j=>bytesF b ((Int.ofNat p).toNat+i) j)) (.c (.sl 1 n (bytesF (List.take n (List.drop p b))))),EqvD (.c (.sl 1 ((Int.ofNat (p+n)).toNat-(Int.ofNat p).toNat) fun i j=>bytesF b ((Int.ofNat p).toNat+i) j)) (.c (.sl 1 n (bytesF (List.take n (List.drop p b))))),(0:Int)≤Int.ofNat p∧Int.ofNat p≤Int.ofNat (p+n)∧Int.ofNat (p+n)≤Int.ofNat (p+n)∧Int.ofNat (p+n)≤(b.length:Int),inR .i64 ((p:Int)+(n:Int))] ⟨i6,aS,i6,i6,fun _ _=>trivial,aS,⟨(by simp;done),⟨sO,⟨oM,sO⟩⟩⟩,i6⟩ ?_
 exact zb []
theorem take_short (b:List UInt8) (hb:b.length≤30000000000000) (p n:Nat) (c:Int) (hn:n≤2000) (hpl:p≤b.length) (hp:b.length<p+n):FnB Tryz.prog G 256 [cB b p c] [.c (.ptr 0 0),.c (.int .i64 (n:Int))] [.c .nilsl,.c (errC 1)] [(0,cB b p c)]:=by
 refine zf Tryz.func256 ?_
 have ht:decide ((b.length:Int)-(p:Int)<(n:Int))=true:=decide_eq_true oM
 refine zg [] [true] [inR .i64 ((b.length:Int)-(p:Int)),decide ((b.length:Int)-(p:Int)<(n:Int))=true] ⟨i6,(show decide ((↑b.length:Int)-(↑p:Int)<(↑n:Int))=true from aS)⟩ ?_
 exact zb []
theorem or64 (x y:Int) (hx:0≤x∧x<16777216) (hy:0≤y∧y<256):bitsI .or .i64 (x*256) y=x*256+y:=by
 obtain ⟨a,rfl⟩:=Int.eq_ofNat_of_zero_le hx.1
 obtain ⟨b,rfl⟩:=Int.eq_ofNat_of_zero_le hy.1
 have hor:a*256 ||| b=a*256+b:=by
  have:=Nat.two_pow_add_eq_or_of_lt (show b<2^8 by omega) a
  rw [show 2^8*a=a*256 by omega] at this;exact this.symm
 have e:(BitVec.ofInt 64 ((a:Int)*256) ||| BitVec.ofInt 64 (b:Int)).toNat=a*256+b:=by
  rw [BitVec.toNat_or,BitVec.toNat_ofInt,BitVec.toNat_ofInt]
  rw [show ((a:Int)*256%((2^64:Nat):Int)).toNat=a*256 by omega,show ((b:Int)%((2^64:Nat):Int)).toNat=b by omega,hor]
 show IntKind.i64.wrap ((BitVec.ofInt 64 ((a:Int)*256) ||| BitVec.ofInt 64 (b:Int)).toNat)=_
 rw [e,wrap64 oM oM];simp
theorem numC_short (b:List UInt8) (hb:b.length≤30000000000000) (p n:Nat) (c most:Int) (hn:n≤4) (hpl:p≤b.length) (hp:b.length<p+n):FnB Tryz.prog G 258 [cB b p c] [.c (.ptr 0 0),.c (.int .i64 (n:Int)),.c (.int .i64 most)] [.c (.int .i64 0),.c (errC 1)] [(0,cB b p c)]:=by
 refine zf Tryz.func258 ?_
 have c1:=take_short (G:=G) b hb p n c oM hpl hp
 refine zg [(1,{cs:=[(2,cb [0] c1)]})] [true] [(!false)=true] rfl ?_
 exact zb []
theorem numC_good (b:List UInt8) (hb:b.length≤30000000000000) (p n:Nat) (c most:Int) (hn:n≤4) (hp:p+n≤b.length) (hm:(beN b p n≤most)):FnB Tryz.prog G 258 [cB b p c] [.c (.ptr 0 0),.c (.int .i64 (n:Int)),.c (.int .i64 most)] [.c (.int .i64 (beN b p n)),.c .nilif] [(0,cB b (p+n) c)]:=by
 refine zf Tryz.func258 ?_
 have c1:=take_good (G:=G) b hb p n c hp
 refine zg [(1,{cs:=[(2,cb [0] c1)]})] [false] [(!true)=false] rfl ?_
 refine zl (fun (k:Nat)=>⟨[(2,.v (.c (.int .i64 most))),(10,.v (.c (.int .i64 (beN b p k)))),(22,.v (.c (.sl (1:Nat) n (bytesF (List.take n (List.drop p b)))))),(23,.v (.c (.int .i64 (↑n:Int)))),(24,.v (.c (.int .i64 (k:Int))))],[(0,cB b (p+n) c)],257⟩) (fun k=>k≤n) (fun k=>n-k) 0 (Nat.zero_le _) ?_
 intro k L hk again
 have hr:=beN_big b p k oM
 rcases Nat.lt_or_ge k n with hlt | hge
 ·have h4:=beN_rng b p k oM
  have hr3:beN b p k<16777216:=by
   have:k=0∨k=1∨k=2∨k=3:=by omega
   rcases this with rfl | rfl | rfl | rfl<;>simp at h4<;>omega
  have hc:=UInt8.toNat_lt (b.getD (p+k) 0)
  have hB:((b.drop p).take n).getD k 0=b.getD (p+k) 0:=by
   rw [List.getD_eq_getElem?_getD,List.getD_eq_getElem?_getD,List.getElem?_take,if_pos hlt,List.getElem?_drop]
  have e1:EqvD (.c (.int .u8 ((((b.drop p).take n).getD k 0).toNat:Int))) (.c (.int .u8 ((b.getD (p+k) 0).toNat:Int))):=eqvD_of (by rw [hB])
  have e2:EqvD (.c (.int .i64 (IntKind.i64.wrap (beN b p k*2^8)))) (.c (.int .i64 (beN b p k*256))):=eqvD_of (by rw [show beN b p k*2^8=beN b p k*256 from rfl,wrap64 oM oM])
  have e3:=wrapU (b.getD (p+k) 0)
  have e4:EqvD (.c (.int .i64 (bitsI .or .i64 (beN b p k*256) ((b.getD (p+k) 0).toNat:Int)))) (.c (.int .i64 (beN b p (k+1)))):=eqvD_of (by rw [or64 _ _ oM oM];rfl)
  have ht1:decide ((k:Int)<(n:Int))=true:=decide_eq_true oM
  clear h4 hB
  refine zg [(7,{fm:=[(1,.c (.int .u8 ((b.getD (p+k) 0).toNat:Int)))]}),(8,{fm:=[(1,.c (.int .i64 (beN b p k*256))),(3,.c (.int .i64 ((b.getD (p+k) 0).toNat:Int))),(4,.c (.int .i64 (beN b p (k+1))))]})] [true] [decide ((k:Int)<(n:Int))=true,(0:Int)≤(k:Int)∧(k:Int)<(n:Int),EqvD (.c (bytesF (List.take n (List.drop p b)) k (0:Nat))) (.c (.int .u8 (↑(b.getD (p+k) (0:UInt8)).toNat:Int))),EqvI (.c (.int .i64 (IntKind.i64.wrap (beN b p k*(2:Int)^(8:Nat))))) (.c (.int .i64 (beN b p k*(256:Int)))),EqvD (.c (.int .i64 (IntKind.i64.wrap (beN b p k*(2:Int)^(8:Nat))))) (.c (.int .i64 (beN b p k*(256:Int)))),(0:Int)≤(8:Int),EqvI (.c (.int .i64 (IntKind.i64.wrap (↑(b.getD (p+k) (0:UInt8)).toNat:Int)))) (.c (.int .i64 (↑(b.getD (p+k) (0:UInt8)).toNat:Int))),EqvD (.c (.int .i64 (IntKind.i64.wrap (↑(b.getD (p+k) (0:UInt8)).toNat:Int)))) (.c (.int .i64 (↑(b.getD (p+k) (0:UInt8)).toNat:Int))),EqvI (.c (.int .i64 (bitsI BinOp.or .i64 (beN b p k*(256:Int)) (↑(b.getD (p+k) (0:UInt8)).toNat:Int)))) (.c (.int .i64 (beN b p (k+(1:Nat))))),EqvD (.c (.int .i64 (bitsI BinOp.or .i64 (beN b p k*(256:Int)) (↑(b.getD (p+k) (0:UInt8)).toNat:Int)))) (.c (.int .i64 (beN b p (k+(1:Nat))))),inR .i64 ((k:Int)+1)] ⟨aS,oM,aS,fun _ _=>trivial,aS,oM,fun _ _=>trivial,aS,fun _ _=>trivial,aS,i6⟩ ?_
  exact za [] (again _ (k+1) aS oM)
 ·obtain rfl:k=n:=by omega
  have ht:decide (beN b p k>most)=false:=decide_eq_false oM
  have ht1:decide ((k:Int)<(k:Int))=false:=decide_eq_false oM
  refine zg [] [false,false] [decide ((k:Int)<(k:Int))=false,decide (beN b p k>most)=false] ⟨aS,(show decide (beN b p k>most)=false from aS)⟩ ?_
  exact zb []
theorem numC_big (b:List UInt8) (hb:b.length≤30000000000000) (p n:Nat) (c most:Int) (hn:n≤4) (hp:p+n≤b.length) (hm:(most<beN b p n)):FnB Tryz.prog G 258 [cB b p c] [.c (.ptr 0 0),.c (.int .i64 (n:Int)),.c (.int .i64 most)] [.c (.int .i64 0),.c (errC 3)] [(0,cB b (p+n) c)]:=by
 refine zf Tryz.func258 ?_
 have c1:=take_good (G:=G) b hb p n c hp
 refine zg [(1,{cs:=[(2,cb [0] c1)]})] [false] [(!true)=false] rfl ?_
 refine zl (fun (k:Nat)=>⟨[(2,.v (.c (.int .i64 most))),(10,.v (.c (.int .i64 (beN b p k)))),(22,.v (.c (.sl (1:Nat) n (bytesF (List.take n (List.drop p b)))))),(23,.v (.c (.int .i64 (↑n:Int)))),(24,.v (.c (.int .i64 (k:Int))))],[(0,cB b (p+n) c)],257⟩) (fun k=>k≤n) (fun k=>n-k) 0 (Nat.zero_le _) ?_
 intro k L hk again
 have hr:=beN_big b p k oM
 rcases Nat.lt_or_ge k n with hlt | hge
 ·have h4:=beN_rng b p k oM
  have hr3:beN b p k<16777216:=by
   have:k=0∨k=1∨k=2∨k=3:=by omega
   rcases this with rfl | rfl | rfl | rfl<;>simp at h4<;>omega
  have hc:=UInt8.toNat_lt (b.getD (p+k) 0)
  have hB:((b.drop p).take n).getD k 0=b.getD (p+k) 0:=by
   rw [List.getD_eq_getElem?_getD,List.getD_eq_getElem?_getD,List.getElem?_take,if_pos hlt,List.getElem?_drop]
  have e1:EqvD (.c (.int .u8 ((((b.drop p).take n).getD k 0).toNat:Int))) (.c (.int .u8 ((b.getD (p+k) 0).toNat:Int))):=eqvD_of (by rw [hB])
  have e2:EqvD (.c (.int .i64 (IntKind.i64.wrap (beN b p k*2^8)))) (.c (.int .i64 (beN b p k*256))):=eqvD_of (by rw [show beN b p k*2^8=beN b p k*256 from rfl,wrap64 oM oM])
  have e3:=wrapU (b.getD (p+k) 0)
  have e4:EqvD (.c (.int .i64 (bitsI .or .i64 (beN b p k*256) ((b.getD (p+k) 0).toNat:Int)))) (.c (.int .i64 (beN b p (k+1)))):=eqvD_of (by rw [or64 _ _ oM oM];rfl)
  have ht1:decide ((k:Int)<(n:Int))=true:=decide_eq_true oM
  clear h4 hB
  refine zg [(7,{fm:=[(1,.c (.int .u8 ((b.getD (p+k) 0).toNat:Int)))]}),(8,{fm:=[(1,.c (.int .i64 (beN b p k*256))),(3,.c (.int .i64 ((b.getD (p+k) 0).toNat:Int))),(4,.c (.int .i64 (beN b p (k+1))))]})] [true] [decide ((k:Int)<(n:Int))=true,(0:Int)≤(k:Int)∧(k:Int)<(n:Int),EqvD (.c (bytesF (List.take n (List.drop p b)) k (0:Nat))) (.c (.int .u8 (↑(b.getD (p+k) (0:UInt8)).toNat:Int))),EqvI (.c (.int .i64 (IntKind.i64.wrap (beN b p k*(2:Int)^(8:Nat))))) (.c (.int .i64 (beN b p k*(256:Int)))),EqvD (.c (.int .i64 (IntKind.i64.wrap (beN b p k*(2:Int)^(8:Nat))))) (.c (.int .i64 (beN b p k*(256:Int)))),(0:Int)≤(8:Int),EqvI (.c (.int .i64 (IntKind.i64.wrap (↑(b.getD (p+k) (0:UInt8)).toNat:Int)))) (.c (.int .i64 (↑(b.getD (p+k) (0:UInt8)).toNat:Int))),EqvD (.c (.int .i64 (IntKind.i64.wrap (↑(b.getD (p+k) (0:UInt8)).toNat:Int)))) (.c (.int .i64 (↑(b.getD (p+k) (0:UInt8)).toNat:Int))),EqvI (.c (.int .i64 (bitsI BinOp.or .i64 (beN b p k*(256:Int)) (↑(b.getD (p+k) (0:UInt8)).toNat:Int)))) (.c (.int .i64 (beN b p (k+(1:Nat))))),EqvD (.c (.int .i64 (bitsI BinOp.or .i64 (beN b p k*(256:Int)) (↑(b.getD (p+k) (0:UInt8)).toNat:Int)))) (.c (.int .i64 (beN b p (k+(1:Nat))))),inR .i64 ((k:Int)+1)] ⟨aS,oM,aS,fun _ _=>trivial,aS,oM,fun _ _=>trivial,aS,fun _ _=>trivial,aS,i6⟩ ?_
  exact za [] (again _ (k+1) aS oM)
 ·obtain rfl:k=n:=by omega
  have ht:decide (beN b p k>most)=true:=decide_eq_true oM
  have ht1:decide ((k:Int)<(k:Int))=false:=decide_eq_false oM
  refine zg [] [false,true] [decide ((k:Int)<(k:Int))=false,decide (beN b p k>most)=true] ⟨aS,(show decide (beN b p k>most)=true from aS)⟩ ?_
  exact zb []
theorem atomC_a1 (b:List UInt8) (hb:b.length≤30000000000000) (p:Nat) (c:Int) (hpl:p≤b.length) (hp:b.length<p+2):FnB Tryz.prog G 257 [cB b p c] [.c (.ptr 0 0)] [.c (.str []),.c (errC 1)] [(0,cB b p c)]:=by
 refine zf Tryz.func257 ?_
 have c1:=numC_short (G:=G) b hb p 2 c 1024 dC hpl hp
 refine zg [(1,{cs:=[(1,cb [0] c1)]})] [true] [(!false)=true] rfl ?_
 exact zb []
theorem atomC_a2 (b:List UInt8) (hb:b.length≤30000000000000) (p:Nat) (c:Int) (hp:p+2≤b.length) {n:Nat} (hn:(beN b p 2).toNat=n) (h3:1024<n):FnB Tryz.prog G 257 [cB b p c] [.c (.ptr 0 0)] [.c (.str []),.c (errC 3)] [(0,cB b (p+2) c)]:=by
 refine zf Tryz.func257 ?_
 have c1:=numC_big (G:=G) b hb p 2 c 1024 dC hp oM
 refine zg [(1,{cs:=[(1,cb [0] c1)]})] [true] [(!false)=true] rfl ?_
 exact zb []
theorem atomC_a3 (b:List UInt8) (hb:b.length≤30000000000000) (p:Nat) (c:Int) (hp:p+2≤b.length) {n:Nat} (hn:(beN b p 2).toNat=n) (h3:n≤1024) (h4:b.length<p+2+n):FnB Tryz.prog G 257 [cB b p c] [.c (.ptr 0 0)] [.c (.str []),.c (errC 1)] [(0,cB b (p+2) c)]:=by
 refine zf Tryz.func257 ?_
 have hr:=beN_big b p 2 dC
 have c1:=numC_good (G:=G) b hb p 2 c 1024 dC hp oM
 rw [show beN b p 2=(n:Int) by omega] at c1
 have c2:=take_short (G:=G) b hb (p+2) n c oM oM h4
 refine zg [(1,{cs:=[(1,cb [0] c1)]}),(4,{cs:=[(2,cb [0] c2)]})] [false] [(!true)=false] rfl ?_
 exact zb []
theorem atomC_a4 (b:List UInt8) (hb:b.length≤30000000000000) (p:Nat) (c:Int) (hp:p+2≤b.length) {n:Nat} (hn:(beN b p 2).toNat=n) (h3:n≤1024) (h4:p+2+n≤b.length):FnB Tryz.prog G 257 [cB b p c] [.c (.ptr 0 0)] [.c (.str ((b.drop (p+2)).take n)),.c .nilif] [(0,cB b (p+2+n) c)]:=by
 refine zf Tryz.func257 ?_
 have hr:=beN_big b p 2 dC
 have c1:=numC_good (G:=G) b hb p 2 c 1024 dC hp oM
 rw [show beN b p 2=(n:Int) by omega] at c1
 have c2:=take_good (G:=G) b hb (p+2) n c h4
 have hbl:n=((b.drop (p+2)).take n).length:=by rw [List.length_take,List.length_drop];omega
 have e4:=areBytes_F ((b.drop (p+2)).take n) 0 n
 have e5:=byteL_F ((b.drop (p+2)).take n) hbl
 refine zg [(1,{cs:=[(1,cb [0] c1)]}),(4,{cs:=[(2,cb [0] c2)]})] [false] [(!true)=false,areBytes (bytesF (List.take n (List.drop (p+2) b))) 0 n] ⟨rfl,(show areBytes (bytesF (List.take n (List.drop (p+(2:Nat)) b))) (0:Nat) n from aS)⟩ ?_
 refine Wp.ret' kR ?_
 exact FinQ.blkE (rs':=[V1.c (Cell.str (byteL (bytesF (List.take n (List.drop (p+(2:Nat)) b))) (0:Nat) n)),V1.c Cell.nilif]) (hout':=[(0,cB b (p+(2:Nat)+n) c)]) (by rw [e5];exact ⟨rfl,rfl⟩) [] kR kR kR kR kR trivial
theorem take_one (b:List UInt8) (hb:b.length≤30000000000000) (p:Nat) (c:Int) (hp:p<b.length) {k:Nat} (hk:(b.getD p 0).toNat=k):FnB Tryz.prog G 256 [cB b p c] [.c (.ptr 0 0),.c (.int .i64 1)] [.c (.sl 1 1 (fun _ _ => .int .u8 (k:Int))),.c .nilif] [(0,cB b (p+1) c)]:=by
 refine zf Tryz.func256 ?_
 have ht:decide ((b.length:Int)-(p:Int)<1)=false:=decide_eq_false oM
 have e1:EqvD (.c (.sl 1 (p+1-p) (fun i j=>bytesF b (p+i) j))) (.c (.sl 1 1 (fun _ _ => .int .u8 (k:Int)))):=EqvD.sl oM (fun i hi j hj=>by
  obtain rfl:i=0:=by omega
  show Cell.int .u8 _=Cell.int .u8 _
  rw [← hk];rfl)
 refine zg [(3,{fm:=[(20,.c (.sl 1 1 (fun _ _ => .int .u8 (k:Int))))]})] [false] [inR .i64 ((b.length:Int)-(p:Int)),decide ((b.length:Int)-(p:Int)<1)=false,inR .i64 ((p:Int)+1),inR .i64 ((p:Int)+1),EqvI (.c (.sl 1 ((Int.ofNat (p+1)).toNat-(Int.ofNat p).toNat) fun i j=>bytesF b ((Int.ofNat p).toNat+i) j)) (.c (.sl 1 (1:Nat) fun (x x_1:Nat) => .int .u8 (k:Int))),EqvD (.c (.sl 1 ((Int.ofNat (p+1)).toNat-(Int.ofNat p).toNat) fun i j=>bytesF b ((Int.ofNat p).toNat+i) j)) (.c (.sl 1 (1:Nat) fun (x x_1:Nat) => .int .u8 (k:Int))),(0:Int)≤Int.ofNat p∧Int.ofNat p≤Int.ofNat (p+1)∧Int.ofNat (p+1)≤Int.ofNat (p+1)∧Int.ofNat (p+1)≤(b.length:Int),inR .i64 ((p:Int)+1)] ⟨i6,aS,i6,i6,fun _ _=>trivial,aS,⟨(by simp;done),⟨sO,⟨oM,sO⟩⟩⟩,i6⟩ ?_
 exact zb []
theorem term_deep (b:List UInt8) (f p l:Nat) (hf:f≤16) (hl2:l≤64) (h0:f=0∨l=0):FnB Tryz.prog G 222 [cB b p ((64:Int)-(l:Int))] [.c (.ptr 0 0),.c (.int .i64 (17-(f:Int)))] [.agg (encK ⟨0,0,[],0,fun _ _ => .nilif⟩),.c (errC 4)] [(0,cB b p ((64:Int)-(l:Int)+1))]:=by
 refine zf Tryz.func222 ?_
 have ht0:(bif decide ((64:Int)-(l:Int)+1>64) then true else decide (17-(f:Int)>16))=true:=by
  rcases h0 with rfl | rfl
  ·cases decide ((64:Int)-(l:Int)+1>64)<;>rfl
  ·rfl
 have eD:=@kids_D 0 0 [] (fun _ _ => .nilif)
 have eI:=@kids_I 0 0 [] (fun _ _ => .nilif)
 refine zg [(3,{fm:=[(0,.agg [.int .i64 0,.int .i64 0,.str [],.sl 4 0 (fun _ _ => .nilif)])]})] [true] [inR .i64 (64-(l:Int)+1),(bif decide ((64:Int)-(l:Int)+(1:Int)>(64:Int)) then true else decide ((17:Int)-(f:Int)>(16:Int)))=true,EqvI (.agg [.int .i64 0,.int .i64 0,.str [],.nilsl]) (.agg [.int .i64 0,.int .i64 0,.str [],.sl 4 0 fun (x x_1:Nat) => .nilif]),EqvD (.agg [.int .i64 0,.int .i64 0,.str [],.nilsl]) (.agg [.int .i64 0,.int .i64 0,.str [],.sl 4 0 fun (x x_1:Nat) => .nilif])] ⟨i6,aS,eqvI_flat _ _ kR,(show EqvD (.agg [.int .i64 (0:Int),.int .i64 (0:Int),.str [],.nilsl]) (.agg [.int .i64 (0:Int),.int .i64 (0:Int),.str [],.sl (4:Nat) (0:Nat) fun (x x_1:Nat) => .nilif]) from aS)⟩ ?_
 exact zb []
theorem term_short (b:List UInt8) (hb:b.length≤30000000000000) (f p l:Nat) (hf:f<16) (hl:0<l) (hl2:l≤64) (hp:p=b.length):FnB Tryz.prog G 222 [cB b p ((64:Int)-(l:Int))] [.c (.ptr 0 0),.c (.int .i64 (17-((f+1:Nat):Int)))] [.agg (encK ⟨0,0,[],0,fun _ _ => .nilif⟩),.c (errC 1)] [(0,cB b p ((64:Int)-(l:Int)+1))]:=by
 refine zf Tryz.func222 ?_
 have ht0:(bif decide ((64:Int)-(l:Int)+1>64) then true else decide (17-((f+1:Nat):Int)>16))=false:=by rw [decide_eq_false oM,decide_eq_false oM];rfl
 have c1:=take_short (G:=G) b hb p 1 ((64:Int)-(l:Int)+1) dC oM oM
 have eD:=@kids_D 0 0 [] (fun _ _ => .nilif)
 have eI:=@kids_I 0 0 [] (fun _ _ => .nilif)
 refine zg [(6,{fm:=[(0,.agg [.int .i64 0,.int .i64 0,.str [],.sl 4 0 (fun _ _ => .nilif)])]}),(4,{cs:=[(1,cb [0] c1)]})] [false,true] [inR .i64 (64-(l:Int)+1),(bif decide ((64:Int)-(l:Int)+(1:Int)>(64:Int)) then true else decide ((17:Int)-(↑(f+(1:Nat)):Int)>(16:Int)))=false,(!false)=true,EqvI (.agg [.int .i64 0,.int .i64 0,.str [],.nilsl]) (.agg [.int .i64 0,.int .i64 0,.str [],.sl 4 0 fun (x x_1:Nat) => .nilif]),EqvD (.agg [.int .i64 0,.int .i64 0,.str [],.nilsl]) (.agg [.int .i64 0,.int .i64 0,.str [],.sl 4 0 fun (x x_1:Nat) => .nilif])] ⟨i6,aS,rfl,eqvI_flat _ _ kR,(show EqvD (.agg [.int .i64 (0:Int),.int .i64 (0:Int),.str [],.nilsl]) (.agg [.int .i64 (0:Int),.int .i64 (0:Int),.str [],.sl (4:Nat) (0:Nat) fun (x x_1:Nat) => .nilif]) from aS)⟩ ?_
 exact zb []
theorem term_a1 (b:List UInt8) (hb:b.length≤30000000000000) (f p l:Nat) (hf:f<16) (hl:0<l) (hl2:l≤64) (hp:p<b.length) (hk:(b.getD p 0).toNat=1) (h2:b.length<p+1+2):FnB Tryz.prog G 222 [cB b p ((64:Int)-(l:Int))] [.c (.ptr 0 0),.c (.int .i64 (17-((f+1:Nat):Int)))] [.agg (encK ⟨1,0,[],0,fun _ _ => .nilif⟩),.c (errC 1)] [(0,cB b (p+1) ((64:Int)-(l:Int)+1))]:=by
 refine zf Tryz.func222 ?_
 have ht0:(bif decide ((64:Int)-(l:Int)+1>64) then true else decide (17-((f+1:Nat):Int)>16))=false:=by rw [decide_eq_false oM,decide_eq_false oM];rfl
 have c1:=take_one (G:=G) b hb p ((64:Int)-(l:Int)+1) hp hk
 have c2:=atomC_a1 (G:=G) b hb (p+1) ((64:Int)-(l:Int)+1) oM h2
 have eD:=@kids_D 1 0 [] (fun _ _ => .nilif)
 have eI:=@kids_I 1 0 [] (fun _ _ => .nilif)
 refine zg [(21,{fm:=[(0,.agg [.int .i64 1,.int .i64 0,.str [],.sl 4 0 (fun _ _ => .nilif)])]}),(4,{cs:=[(1,cb [0] c1)]}),(11,{cs:=[(1,cb [0] c2)]})] [false,false,true] [inR .i64 (64-(l:Int)+1),(bif decide ((64:Int)-(l:Int)+(1:Int)>(64:Int)) then true else decide ((17:Int)-(↑(f+(1:Nat)):Int)>(16:Int)))=false,(!true)=false,(0:Int)≤(0:Int)∧(0:Int)<(↑(1:Nat):Int),(IntKind.i64.wrap (↑(1:Nat):Int)==(1:Int))=true,EqvI (.agg [.int .i64 (IntKind.i64.wrap (↑(1:Nat):Int)),.int .i64 0,.str [],.nilsl]) (.agg [.int .i64 1,.int .i64 0,.str [],.sl 4 (0:Nat) fun (x x_1:Nat) => .nilif]),EqvD (.agg [.int .i64 (IntKind.i64.wrap (↑(1:Nat):Int)),.int .i64 0,.str [],.nilsl]) (.agg [.int .i64 1,.int .i64 0,.str [],.sl 4 (0:Nat) fun (x x_1:Nat) => .nilif])] ⟨i6,aS,rfl,oM,rfl,eqvI_flat _ _ kR,(show EqvD (.agg [.int .i64 (IntKind.i64.wrap (↑(1:Nat):Int)),.int .i64 (0:Int),.str [],.nilsl]) (.agg [.int .i64 (1:Int),.int .i64 (0:Int),.str [],.sl (4:Nat) (0:Nat) fun (x x_1:Nat) => .nilif]) from aS)⟩ ?_
 exact zb []
theorem term_a2 (b:List UInt8) (hb:b.length≤30000000000000) (f p l:Nat) (hf:f<16) (hl:0<l) (hl2:l≤64) (hp:p<b.length) (hk:(b.getD p 0).toNat=1) (h2:p+1+2≤b.length) {n:Nat} (hn:(beN b (p+1) 2).toNat=n) (h3:1024<n):FnB Tryz.prog G 222 [cB b p ((64:Int)-(l:Int))] [.c (.ptr 0 0),.c (.int .i64 (17-((f+1:Nat):Int)))] [.agg (encK ⟨1,0,[],0,fun _ _ => .nilif⟩),.c (errC 3)] [(0,cB b (p+1+2) ((64:Int)-(l:Int)+1))]:=by
 refine zf Tryz.func222 ?_
 have ht0:(bif decide ((64:Int)-(l:Int)+1>64) then true else decide (17-((f+1:Nat):Int)>16))=false:=by rw [decide_eq_false oM,decide_eq_false oM];rfl
 have c1:=take_one (G:=G) b hb p ((64:Int)-(l:Int)+1) hp hk
 have c2:=atomC_a2 (G:=G) b hb (p+1) ((64:Int)-(l:Int)+1) h2 hn h3
 have eD:=@kids_D 1 0 [] (fun _ _ => .nilif)
 have eI:=@kids_I 1 0 [] (fun _ _ => .nilif)
 refine zg [(21,{fm:=[(0,.agg [.int .i64 1,.int .i64 0,.str [],.sl 4 0 (fun _ _ => .nilif)])]}),(4,{cs:=[(1,cb [0] c1)]}),(11,{cs:=[(1,cb [0] c2)]})] [false,false,true] [inR .i64 (64-(l:Int)+1),(bif decide ((64:Int)-(l:Int)+(1:Int)>(64:Int)) then true else decide ((17:Int)-(↑(f+(1:Nat)):Int)>(16:Int)))=false,(!true)=false,(0:Int)≤(0:Int)∧(0:Int)<(↑(1:Nat):Int),(IntKind.i64.wrap (↑(1:Nat):Int)==(1:Int))=true,EqvI (.agg [.int .i64 (IntKind.i64.wrap (↑(1:Nat):Int)),.int .i64 0,.str [],.nilsl]) (.agg [.int .i64 1,.int .i64 0,.str [],.sl 4 (0:Nat) fun (x x_1:Nat) => .nilif]),EqvD (.agg [.int .i64 (IntKind.i64.wrap (↑(1:Nat):Int)),.int .i64 0,.str [],.nilsl]) (.agg [.int .i64 1,.int .i64 0,.str [],.sl 4 (0:Nat) fun (x x_1:Nat) => .nilif])] ⟨i6,aS,rfl,oM,rfl,eqvI_flat _ _ kR,(show EqvD (.agg [.int .i64 (IntKind.i64.wrap (↑(1:Nat):Int)),.int .i64 (0:Int),.str [],.nilsl]) (.agg [.int .i64 (1:Int),.int .i64 (0:Int),.str [],.sl (4:Nat) (0:Nat) fun (x x_1:Nat) => .nilif]) from aS)⟩ ?_
 exact zb []
theorem term_a3 (b:List UInt8) (hb:b.length≤30000000000000) (f p l:Nat) (hf:f<16) (hl:0<l) (hl2:l≤64) (hp:p<b.length) (hk:(b.getD p 0).toNat=1) (h2:p+1+2≤b.length) {n:Nat} (hn:(beN b (p+1) 2).toNat=n) (h3:n≤1024) (h4:b.length<p+1+2+n):FnB Tryz.prog G 222 [cB b p ((64:Int)-(l:Int))] [.c (.ptr 0 0),.c (.int .i64 (17-((f+1:Nat):Int)))] [.agg (encK ⟨1,0,[],0,fun _ _ => .nilif⟩),.c (errC 1)] [(0,cB b (p+1+2) ((64:Int)-(l:Int)+1))]:=by
 refine zf Tryz.func222 ?_
 have ht0:(bif decide ((64:Int)-(l:Int)+1>64) then true else decide (17-((f+1:Nat):Int)>16))=false:=by rw [decide_eq_false oM,decide_eq_false oM];rfl
 have c1:=take_one (G:=G) b hb p ((64:Int)-(l:Int)+1) hp hk
 have c2:=atomC_a3 (G:=G) b hb (p+1) ((64:Int)-(l:Int)+1) h2 hn h3 h4
 have eD:=@kids_D 1 0 [] (fun _ _ => .nilif)
 have eI:=@kids_I 1 0 [] (fun _ _ => .nilif)
 refine zg [(21,{fm:=[(0,.agg [.int .i64 1,.int .i64 0,.str [],.sl 4 0 (fun _ _ => .nilif)])]}),(4,{cs:=[(1,cb [0] c1)]}),(11,{cs:=[(1,cb [0] c2)]})] [false,false,true] [inR .i64 (64-(l:Int)+1),(bif decide ((64:Int)-(l:Int)+(1:Int)>(64:Int)) then true else decide ((17:Int)-(↑(f+(1:Nat)):Int)>(16:Int)))=false,(!true)=false,(0:Int)≤(0:Int)∧(0:Int)<(↑(1:Nat):Int),(IntKind.i64.wrap (↑(1:Nat):Int)==(1:Int))=true,EqvI (.agg [.int .i64 (IntKind.i64.wrap (↑(1:Nat):Int)),.int .i64 0,.str [],.nilsl]) (.agg [.int .i64 1,.int .i64 0,.str [],.sl 4 (0:Nat) fun (x x_1:Nat) => .nilif]),EqvD (.agg [.int .i64 (IntKind.i64.wrap (↑(1:Nat):Int)),.int .i64 0,.str [],.nilsl]) (.agg [.int .i64 1,.int .i64 0,.str [],.sl 4 (0:Nat) fun (x x_1:Nat) => .nilif])] ⟨i6,aS,rfl,oM,rfl,eqvI_flat _ _ kR,(show EqvD (.agg [.int .i64 (IntKind.i64.wrap (↑(1:Nat):Int)),.int .i64 (0:Int),.str [],.nilsl]) (.agg [.int .i64 (1:Int),.int .i64 (0:Int),.str [],.sl (4:Nat) (0:Nat) fun (x x_1:Nat) => .nilif]) from aS)⟩ ?_
 exact zb []
theorem term_a4 (b:List UInt8) (hb:b.length≤30000000000000) (f p l:Nat) (hf:f<16) (hl:0<l) (hl2:l≤64) (hp:p<b.length) (hk:(b.getD p 0).toNat=1) (h2:p+1+2≤b.length) {n:Nat} (hn:(beN b (p+1) 2).toNat=n) (h3:n≤1024) (h4:p+1+2+n≤b.length):FnB Tryz.prog G 222 [cB b p ((64:Int)-(l:Int))] [.c (.ptr 0 0),.c (.int .i64 (17-((f+1:Nat):Int)))] [.agg (encK ⟨1,0,((b.drop (p+1+2)).take n),0,fun _ _ => .nilif⟩),.c .nilif] [(0,cB b (p+1+2+n) ((64:Int)-(l:Int)+1))]:=by
 refine zf Tryz.func222 ?_
 have ht0:(bif decide ((64:Int)-(l:Int)+1>64) then true else decide (17-((f+1:Nat):Int)>16))=false:=by rw [decide_eq_false oM,decide_eq_false oM];rfl
 have c1:=take_one (G:=G) b hb p ((64:Int)-(l:Int)+1) hp hk
 have c2:=atomC_a4 (G:=G) b hb (p+1) ((64:Int)-(l:Int)+1) h2 hn h3 h4
 have eD:=@kids_D 1 0 ((b.drop (p+1+2)).take n) (fun _ _ => .nilif)
 have eI:=@kids_I 1 0 ((b.drop (p+1+2)).take n) (fun _ _ => .nilif)
 refine zg [(21,{fm:=[(0,.agg [.int .i64 1,.int .i64 0,.str ((b.drop (p+1+2)).take n),.sl 4 0 (fun _ _ => .nilif)])]}),(4,{cs:=[(1,cb [0] c1)]}),(11,{cs:=[(1,cb [0] c2)]})] [false,false,true] [inR .i64 (64-(l:Int)+1),(bif decide ((64:Int)-(l:Int)+(1:Int)>(64:Int)) then true else decide ((17:Int)-(↑(f+(1:Nat)):Int)>(16:Int)))=false,(!true)=false,(0:Int)≤(0:Int)∧(0:Int)<(↑(1:Nat):Int),(IntKind.i64.wrap (↑(1:Nat):Int)==(1:Int))=true,EqvI (.agg [.int .i64 (IntKind.i64.wrap (↑(1:Nat):Int)),.int .i64 0,.str (List.take n (List.drop (p+(1:Nat)+(2:Nat)) b)),.nilsl]) (.agg [.int .i64 1,.int .i64 0,.str (List.take n (List.drop (p+(1:Nat)+(2:Nat)) b)),.sl 4 (0:Nat) fun (x x_1:Nat) => .nilif]),EqvD (.agg [.int .i64 (IntKind.i64.wrap (↑(1:Nat):Int)),.int .i64 0,.str (List.take n (List.drop (p+(1:Nat)+(2:Nat)) b)),.nilsl]) (.agg [.int .i64 1,.int .i64 0,.str (List.take n (List.drop (p+(1:Nat)+(2:Nat)) b)),.sl 4 (0:Nat) fun (x x_1:Nat) => .nilif])] ⟨i6,aS,rfl,oM,rfl,eqvI_flat _ _ kR,(show EqvD (.agg [.int .i64 (IntKind.i64.wrap (↑(1:Nat):Int)),.int .i64 (0:Int),.str (List.take n (List.drop (p+(1:Nat)+(2:Nat)) b)),.nilsl]) (.agg [.int .i64 (1:Int),.int .i64 (0:Int),.str (List.take n (List.drop (p+(1:Nat)+(2:Nat)) b)),.sl (4:Nat) (0:Nat) fun (x x_1:Nat) => .nilif]) from aS)⟩ ?_
 exact zb []
theorem term_n1 (b:List UInt8) (hb:b.length≤30000000000000) (f p l:Nat) (hf:f<16) (hl:0<l) (hl2:l≤64) (hp:p<b.length) (hk:(b.getD p 0).toNat=2) (h2:b.length<p+1+4):FnB Tryz.prog G 222 [cB b p ((64:Int)-(l:Int))] [.c (.ptr 0 0),.c (.int .i64 (17-((f+1:Nat):Int)))] [.agg (encK ⟨2,0,[],0,fun _ _ => .nilif⟩),.c (errC 1)] [(0,cB b (p+1) ((64:Int)-(l:Int)+1))]:=by
 refine zf Tryz.func222 ?_
 have ht0:(bif decide ((64:Int)-(l:Int)+1>64) then true else decide (17-((f+1:Nat):Int)>16))=false:=by rw [decide_eq_false oM,decide_eq_false oM];rfl
 have c1:=take_one (G:=G) b hb p ((64:Int)-(l:Int)+1) hp hk
 have c2:=numC_short (G:=G) b hb (p+1) 4 ((64:Int)-(l:Int)+1) 1073741824 dC oM h2
 have eD:=@kids_D 2 0 [] (fun _ _ => .nilif)
 have eI:=@kids_I 2 0 [] (fun _ _ => .nilif)
 refine zg [(21,{fm:=[(0,.agg [.int .i64 2,.int .i64 0,.str [],.sl 4 0 (fun _ _ => .nilif)])]}),(4,{cs:=[(1,cb [0] c1)]}),(13,{cs:=[(1,cb [0] c2)]})] [false,false,false,true] [inR .i64 (64-(l:Int)+1),(bif decide ((64:Int)-(l:Int)+(1:Int)>(64:Int)) then true else decide ((17:Int)-(↑(f+(1:Nat)):Int)>(16:Int)))=false,(!true)=false,(0:Int)≤(0:Int)∧(0:Int)<(↑(1:Nat):Int),(IntKind.i64.wrap (↑(2:Nat):Int)==(1:Int))=false,(IntKind.i64.wrap (↑(2:Nat):Int)==(2:Int))=true,EqvI (.agg [.int .i64 (IntKind.i64.wrap (↑(2:Nat):Int)),.int .i64 0,.str [],.nilsl]) (.agg [.int .i64 2,.int .i64 0,.str [],.sl 4 (0:Nat) fun (x x_1:Nat) => .nilif]),EqvD (.agg [.int .i64 (IntKind.i64.wrap (↑(2:Nat):Int)),.int .i64 0,.str [],.nilsl]) (.agg [.int .i64 2,.int .i64 0,.str [],.sl 4 (0:Nat) fun (x x_1:Nat) => .nilif])] ⟨i6,aS,rfl,oM,rfl,rfl,eqvI_flat _ _ kR,(show EqvD (.agg [.int .i64 (IntKind.i64.wrap (↑(2:Nat):Int)),.int .i64 (0:Int),.str [],.nilsl]) (.agg [.int .i64 (2:Int),.int .i64 (0:Int),.str [],.sl (4:Nat) (0:Nat) fun (x x_1:Nat) => .nilif]) from aS)⟩ ?_
 exact zb []
theorem term_n2 (b:List UInt8) (hb:b.length≤30000000000000) (f p l:Nat) (hf:f<16) (hl:0<l) (hl2:l≤64) (hp:p<b.length) (hk:(b.getD p 0).toNat=2) (h2:p+1+4≤b.length) {n:Nat} (hn:(beN b (p+1) 4).toNat=n) (h3:1073741824<n):FnB Tryz.prog G 222 [cB b p ((64:Int)-(l:Int))] [.c (.ptr 0 0),.c (.int .i64 (17-((f+1:Nat):Int)))] [.agg (encK ⟨2,0,[],0,fun _ _ => .nilif⟩),.c (errC 3)] [(0,cB b (p+1+4) ((64:Int)-(l:Int)+1))]:=by
 refine zf Tryz.func222 ?_
 have ht0:(bif decide ((64:Int)-(l:Int)+1>64) then true else decide (17-((f+1:Nat):Int)>16))=false:=by rw [decide_eq_false oM,decide_eq_false oM];rfl
 have c1:=take_one (G:=G) b hb p ((64:Int)-(l:Int)+1) hp hk
 have c2:=numC_big (G:=G) b hb (p+1) 4 ((64:Int)-(l:Int)+1) 1073741824 dC h2 oM
 have eD:=@kids_D 2 0 [] (fun _ _ => .nilif)
 have eI:=@kids_I 2 0 [] (fun _ _ => .nilif)
 refine zg [(21,{fm:=[(0,.agg [.int .i64 2,.int .i64 0,.str [],.sl 4 0 (fun _ _ => .nilif)])]}),(4,{cs:=[(1,cb [0] c1)]}),(13,{cs:=[(1,cb [0] c2)]})] [false,false,false,true] [inR .i64 (64-(l:Int)+1),(bif decide ((64:Int)-(l:Int)+(1:Int)>(64:Int)) then true else decide ((17:Int)-(↑(f+(1:Nat)):Int)>(16:Int)))=false,(!true)=false,(0:Int)≤(0:Int)∧(0:Int)<(↑(1:Nat):Int),(IntKind.i64.wrap (↑(2:Nat):Int)==(1:Int))=false,(IntKind.i64.wrap (↑(2:Nat):Int)==(2:Int))=true,EqvI (.agg [.int .i64 (IntKind.i64.wrap (↑(2:Nat):Int)),.int .i64 0,.str [],.nilsl]) (.agg [.int .i64 2,.int .i64 0,.str [],.sl 4 (0:Nat) fun (x x_1:Nat) => .nilif]),EqvD (.agg [.int .i64 (IntKind.i64.wrap (↑(2:Nat):Int)),.int .i64 0,.str [],.nilsl]) (.agg [.int .i64 2,.int .i64 0,.str [],.sl 4 (0:Nat) fun (x x_1:Nat) => .nilif])] ⟨i6,aS,rfl,oM,rfl,rfl,eqvI_flat _ _ kR,(show EqvD (.agg [.int .i64 (IntKind.i64.wrap (↑(2:Nat):Int)),.int .i64 (0:Int),.str [],.nilsl]) (.agg [.int .i64 (2:Int),.int .i64 (0:Int),.str [],.sl (4:Nat) (0:Nat) fun (x x_1:Nat) => .nilif]) from aS)⟩ ?_
 exact zb []
theorem term_n3 (b:List UInt8) (hb:b.length≤30000000000000) (f p l:Nat) (hf:f<16) (hl:0<l) (hl2:l≤64) (hp:p<b.length) (hk:(b.getD p 0).toNat=2) (h2:p+1+4≤b.length) {n:Nat} (hn:(beN b (p+1) 4).toNat=n) (h3:n≤1073741824):FnB Tryz.prog G 222 [cB b p ((64:Int)-(l:Int))] [.c (.ptr 0 0),.c (.int .i64 (17-((f+1:Nat):Int)))] [.agg (encK ⟨2,(n:Int),[],0,fun _ _ => .nilif⟩),.c .nilif] [(0,cB b (p+1+4) ((64:Int)-(l:Int)+1))]:=by
 refine zf Tryz.func222 ?_
 have ht0:(bif decide ((64:Int)-(l:Int)+1>64) then true else decide (17-((f+1:Nat):Int)>16))=false:=by rw [decide_eq_false oM,decide_eq_false oM];rfl
 have c1:=take_one (G:=G) b hb p ((64:Int)-(l:Int)+1) hp hk
 have hr:=beN_big b (p+1) 4 dC
 have c2:=numC_good (G:=G) b hb (p+1) 4 ((64:Int)-(l:Int)+1) 1073741824 dC h2 oM
 rw [show beN b (p+1) 4=(n:Int) by omega] at c2
 have eD:=@kids_D 2 (n:Int) [] (fun _ _ => .nilif)
 have eI:=@kids_I 2 (n:Int) [] (fun _ _ => .nilif)
 refine zg [(21,{fm:=[(0,.agg [.int .i64 2,.int .i64 (n:Int),.str [],.sl 4 0 (fun _ _ => .nilif)])]}),(4,{cs:=[(1,cb [0] c1)]}),(13,{cs:=[(1,cb [0] c2)]})] [false,false,false,true] [inR .i64 (64-(l:Int)+1),(bif decide ((64:Int)-(l:Int)+(1:Int)>(64:Int)) then true else decide ((17:Int)-(↑(f+(1:Nat)):Int)>(16:Int)))=false,(!true)=false,(0:Int)≤(0:Int)∧(0:Int)<(↑(1:Nat):Int),(IntKind.i64.wrap (↑(2:Nat):Int)==(1:Int))=false,(IntKind.i64.wrap (↑(2:Nat):Int)==(2:Int))=true,EqvI (.agg [.int .i64 (IntKind.i64.wrap (↑(2:Nat):Int)),.int .i64 (n:Int),.str [],.nilsl]) (.agg [.int .i64 2,.int .i64 (n:Int),.str [],.sl 4 (0:Nat) fun (x x_1:Nat) => .nilif]),EqvD (.agg [.int .i64 (IntKind.i64.wrap (↑(2:Nat):Int)),.int .i64 (n:Int),.str [],.nilsl]) (.agg [.int .i64 2,.int .i64 (n:Int),.str [],.sl 4 (0:Nat) fun (x x_1:Nat) => .nilif])] ⟨i6,aS,rfl,oM,rfl,rfl,eqvI_flat _ _ kR,(show EqvD (.agg [.int .i64 (IntKind.i64.wrap (↑(2:Nat):Int)),.int .i64 (↑n:Int),.str [],.nilsl]) (.agg [.int .i64 (2:Int),.int .i64 (↑n:Int),.str [],.sl (4:Nat) (0:Nat) fun (x x_1:Nat) => .nilif]) from aS)⟩ ?_
 exact zb []
theorem term_bad (b:List UInt8) (hb:b.length≤30000000000000) (f p l:Nat) (hf:f<16) (hl:0<l) (hl2:l≤64) (hp:p<b.length) {k:Nat} (hk:(b.getD p 0).toNat=k) (hk0:k=0∨8≤k) (hk9:k<256):FnB Tryz.prog G 222 [cB b p ((64:Int)-(l:Int))] [.c (.ptr 0 0),.c (.int .i64 (17-((f+1:Nat):Int)))] [.agg (encK ⟨(k:Int),0,[],0,fun _ _ => .nilif⟩),.c (errC 2)] [(0,cB b (p+1) ((64:Int)-(l:Int)+1))]:=by
 refine zf Tryz.func222 ?_
 have ht0:(bif decide ((64:Int)-(l:Int)+1>64) then true else decide (17-((f+1:Nat):Int)>16))=false:=by rw [decide_eq_false oM,decide_eq_false oM];rfl
 have c1:=take_one (G:=G) b hb p ((64:Int)-(l:Int)+1) hp hk
 have hk1:((k:Int)==1)=false:=by rw [beq_eq_false_iff_ne];omega
 have hk2:((k:Int)==2)=false:=by rw [beq_eq_false_iff_ne];omega
 have hk3:((k:Int)==3)=false:=by rw [beq_eq_false_iff_ne];omega
 have hk4:((k:Int)==4)=false:=by rw [beq_eq_false_iff_ne];omega
 have hk5:((k:Int)==5)=false:=by rw [beq_eq_false_iff_ne];omega
 have hk6:((k:Int)==6)=false:=by rw [beq_eq_false_iff_ne];omega
 have hk7:((k:Int)==7)=false:=by rw [beq_eq_false_iff_ne];omega
 have e9:EqvD (.c (.int .i64 (IntKind.i64.wrap (k:Int)))) (.c (.int .i64 (k:Int))):=eqvD_of (by rw [wrap64 oM oM])
 have eD:=@kids_D (k:Int) 0 [] (fun _ _ => .nilif)
 have eI:=@kids_I (k:Int) 0 [] (fun _ _ => .nilif)
 refine zg [(7,{fm:=[(3,.c (.int .i64 (k:Int)))]}),(21,{fm:=[(0,.agg [.int .i64 (k:Int),.int .i64 0,.str [],.sl 4 0 (fun _ _ => .nilif)])]}),(4,{cs:=[(1,cb [0] c1)]})] [false,false,false,false,false,false,false,false,false] [inR .i64 (64-(l:Int)+1),(bif decide ((64:Int)-(l:Int)+(1:Int)>(64:Int)) then true else decide ((17:Int)-(↑(f+(1:Nat)):Int)>(16:Int)))=false,(!true)=false,(0:Int)≤(0:Int)∧(0:Int)<(↑(1:Nat):Int),EqvI (.c (.int .i64 (IntKind.i64.wrap (k:Int)))) (.c (.int .i64 (k:Int))),EqvD (.c (.int .i64 (IntKind.i64.wrap (k:Int)))) (.c (.int .i64 (k:Int))),((k:Int)==(1:Int))=false,((k:Int)==(2:Int))=false,((k:Int)==(3:Int))=false,((k:Int)==(4:Int))=false,((k:Int)==(5:Int))=false,((k:Int)==(6:Int))=false,((k:Int)==(7:Int))=false,EqvI (.agg [.int .i64 (k:Int),.int .i64 0,.str [],.nilsl]) (.agg [.int .i64 (k:Int),.int .i64 0,.str [],.sl 4 (0:Nat) fun (x x_1:Nat) => .nilif]),EqvD (.agg [.int .i64 (k:Int),.int .i64 0,.str [],.nilsl]) (.agg [.int .i64 (k:Int),.int .i64 0,.str [],.sl 4 (0:Nat) fun (x x_1:Nat) => .nilif])] ⟨i6,aS,rfl,oM,fun _ _=>trivial,aS,aS,aS,aS,aS,aS,aS,aS,eqvI_flat _ _ kR,(show EqvD (.agg [.int .i64 (↑k:Int),.int .i64 (0:Int),.str [],.nilsl]) (.agg [.int .i64 (↑k:Int),.int .i64 (0:Int),.str [],.sl (4:Nat) (0:Nat) fun (x x_1:Nat) => .nilif]) from aS)⟩ ?_
 exact zb []
def zeroT:Nat→Nat→Cell:=fun _ j=>nthD [.int .i64 0,.int .i64 0,.str [],.nilsl] j
theorem kid_new2 {e:TypeId} (F:Nat→Nat→Cell) (x:KT):BlkEqv (.row e 4 1 (catF 0 F (fun i j=>nthD (encK x) ((0+i)*4+j)))) (.row e 4 1 (rowF encK .nil [x])):=BlkEqv.row_ext rfl fun i hi j hj=>by
 obtain rfl:i=0:=by omega
 show nthD (encK x) ((0+(0-0))*4+j)=nthD (encK x) j
 congr 1;omega
def kcSt (b:List UInt8) (d kids i:Int) (p:Nat) (c:Int) (n:Nat) (F:Nat→Nat→Cell):St :=
 ⟨[(0,.v (.c (.ptr 0 0))),(2,.v (.c (.int .i64 d))),(8,.v (.c (.row 4 49 0 n))),(13,.v (.c (.int .i64 kids))),(14,.v (.c (.int .i64 i)))],[(0,cB b p c),(49,.row 64 4 n F)],113⟩
theorem kidsC_1 (b:List UInt8) (p:Nat) (c d:Int) {x:KT} {p1:Nat} {c1:Int} (cx:FnB Tryz.prog G 222 [cB b p c] [.c (.ptr 0 0),.c (.int .i64 d)] [.agg (encK x),.c .nilif] [(0,cB b p1 c1)]):FnB Tryz.prog G 259 [cB b p c] [.c (.ptr 0 0),.c (.int .i64 1),.c (.int .i64 d)] [.c (.sl 4 1 (rowF encK .nil [x])),.c .nilif] [(0,cB b p1 c1)]:=by
 refine zf Tryz.func259 ?_
 refine zg [] [] [(0:Int)≤(0:Int),(0:Int)≤(1:Int),(1:Int)*(↑(56:Nat):Int)≤(140737488355328:Int)] ⟨oM,oM,(show (1:Int)*(↑(56:Nat):Int)≤(140737488355328:Int) from oM)⟩ ?_
 refine zl (fun (j:Nat)=>match j with | 0=>kcSt b d 1 0 p c 0 zeroT | _=>kcSt b d 1 1 p1 c1 1 (rowF encK .nil [x])) (fun j=>j≤1) (fun j=>1-j) 0 (Nat.zero_le _) ?_ [(49,49)]
 intro j L hj again
 obtain rfl | rfl:j=0∨j=1:=by omega
 ·have e1:=kid_new2 (e:=64) zeroT x
  refine zg [(7,{bs:=[(3,.row 64 4 1 (rowF encK .nil [x]))]}),(4,{cs:=[(2,cb [0] cx)]})] [true,false] [decide ((0:Int)<(1:Int))=true,(!true)=false,56≤140737488355328,BlkEqv (.row 64 4 1 (catF 0 zeroT fun i j=>nthD (encK x) ((0+i)*4+j))) (.row 64 4 1 (rowF encK KT.nil [x])),0≤0,0+1≤1,inR .i64 (0+1)] ⟨rfl,rfl,oM,aS,oM,oM,i6⟩ ?_
  exact za [(49,353)] (again _ 1 oM oM)
 ·refine Wp.ent' kR (Ent.pubT (t:=8) (e:=64) (sz:=4) (id:=49) (off:=0) (m:=1) (n:=1) (f:=rowF encK .nil [x]) (m':=1) (f':=rowF encK .nil [x]) kR kR oM rfl (fun i _ j _=>by rw [Nat.zero_add]) rfl) ?_
  refine zg [] [false] [decide ((1:Int)<(1:Int))=false] rfl ?_
  exact zb []
theorem kidsC_x (b:List UInt8) (p:Nat) (c d:Int) {x:KT} {p1:Nat} {c1 e:Int} (cx:FnB Tryz.prog G 222 [cB b p c] [.c (.ptr 0 0),.c (.int .i64 d)] [.agg (encK x),.c (errC e)] [(0,cB b p1 c1)]):FnB Tryz.prog G 259 [cB b p c] [.c (.ptr 0 0),.c (.int .i64 1),.c (.int .i64 d)] [.c .nilsl,.c (errC e)] [(0,cB b p1 c1)]:=by
 refine zf Tryz.func259 ?_
 refine zg [] [] [(0:Int)≤(0:Int),(0:Int)≤(1:Int),(1:Int)*(↑(56:Nat):Int)≤(140737488355328:Int)] ⟨oM,oM,(show (1:Int)*(↑(56:Nat):Int)≤(140737488355328:Int) from oM)⟩ ?_
 refine zl (fun (j:Nat)=>kcSt b d 1 0 p c 0 zeroT) (fun j=>j≤0) (fun j=>0-j) 0 (Nat.zero_le _) ?_ [(49,49)]
 intro j L hj again
 obtain rfl:j=0:=by omega
 ·refine zg [(4,{cs:=[(2,cb [0] cx)]})] [true,true] [decide ((0:Int)<(1:Int))=true,(!false)=true] ⟨rfl,rfl⟩ ?_
  exact zb []
theorem kidsC_x2 (b:List UInt8) (p:Nat) (c d:Int) {x:KT} {p1:Nat} {c1 e:Int} (cx:FnB Tryz.prog G 222 [cB b p c] [.c (.ptr 0 0),.c (.int .i64 d)] [.agg (encK x),.c (errC e)] [(0,cB b p1 c1)]):FnB Tryz.prog G 259 [cB b p c] [.c (.ptr 0 0),.c (.int .i64 2),.c (.int .i64 d)] [.c .nilsl,.c (errC e)] [(0,cB b p1 c1)]:=by
 refine zf Tryz.func259 ?_
 refine zg [] [] [(0:Int)≤(0:Int),(0:Int)≤(2:Int),(2:Int)*(↑(56:Nat):Int)≤(140737488355328:Int)] ⟨oM,oM,(show (2:Int)*(↑(56:Nat):Int)≤(140737488355328:Int) from oM)⟩ ?_
 refine zl (fun (j:Nat)=>kcSt b d 2 0 p c 0 zeroT) (fun j=>j≤0) (fun j=>0-j) 0 (Nat.zero_le _) ?_ [(49,49)]
 intro j L hj again
 obtain rfl:j=0:=by omega
 ·refine zg [(4,{cs:=[(2,cb [0] cx)]})] [true,true] [decide ((0:Int)<(2:Int))=true,(!false)=true] ⟨rfl,rfl⟩ ?_
  exact zb []
theorem kidsC_y (b:List UInt8) (p:Nat) (c d:Int) {x y:KT} {p1 p2:Nat} {c1 c2 e:Int} (cx:FnB Tryz.prog G 222 [cB b p c] [.c (.ptr 0 0),.c (.int .i64 d)] [.agg (encK x),.c .nilif] [(0,cB b p1 c1)]) (cy:FnB Tryz.prog G 222 [cB b p1 c1] [.c (.ptr 0 0),.c (.int .i64 d)] [.agg (encK y),.c (errC e)] [(0,cB b p2 c2)]):FnB Tryz.prog G 259 [cB b p c] [.c (.ptr 0 0),.c (.int .i64 2),.c (.int .i64 d)] [.c .nilsl,.c (errC e)] [(0,cB b p2 c2)]:=by
 refine zf Tryz.func259 ?_
 refine zg [] [] [(0:Int)≤(0:Int),(0:Int)≤(2:Int),(2:Int)*(↑(56:Nat):Int)≤(140737488355328:Int)] ⟨oM,oM,(show (2:Int)*(↑(56:Nat):Int)≤(140737488355328:Int) from oM)⟩ ?_
 refine zl (fun (j:Nat)=>match j with | 0=>kcSt b d 2 0 p c 0 zeroT | _=>kcSt b d 2 1 p1 c1 1 (rowF encK .nil [x])) (fun j=>j≤1) (fun j=>1-j) 0 (Nat.zero_le _) ?_ [(49,49)]
 intro j L hj again
 obtain rfl | rfl:j=0∨j=1:=by omega
 ·have e1:=kid_new2 (e:=64) zeroT x
  refine zg [(7,{bs:=[(3,.row 64 4 1 (rowF encK .nil [x]))]}),(4,{cs:=[(2,cb [0] cx)]})] [true,false] [decide ((0:Int)<(2:Int))=true,(!true)=false,56≤140737488355328,BlkEqv (.row 64 4 1 (catF 0 zeroT fun i j=>nthD (encK x) ((0+i)*4+j))) (.row 64 4 1 (rowF encK KT.nil [x])),0≤0,0+1≤1,inR .i64 (0+1)] ⟨rfl,rfl,oM,aS,oM,oM,i6⟩ ?_
  exact za [(49,353)] (again _ 1 oM oM)
 ·refine zg [(4,{cs:=[(2,cb [0] cy)]})] [true,true] [decide ((1:Int)<(2:Int))=true,(!false)=true] ⟨rfl,rfl⟩ ?_
  exact zb []
theorem kidsC_2 (b:List UInt8) (p:Nat) (c d:Int) {x y:KT} {p1 p2:Nat} {c1 c2:Int} (cx:FnB Tryz.prog G 222 [cB b p c] [.c (.ptr 0 0),.c (.int .i64 d)] [.agg (encK x),.c .nilif] [(0,cB b p1 c1)]) (cy:FnB Tryz.prog G 222 [cB b p1 c1] [.c (.ptr 0 0),.c (.int .i64 d)] [.agg (encK y),.c .nilif] [(0,cB b p2 c2)]):FnB Tryz.prog G 259 [cB b p c] [.c (.ptr 0 0),.c (.int .i64 2),.c (.int .i64 d)] [.c (.sl 4 2 (rowF encK .nil [x,y])),.c .nilif] [(0,cB b p2 c2)]:=by
 refine zf Tryz.func259 ?_
 refine zg [] [] [(0:Int)≤(0:Int),(0:Int)≤(2:Int),(2:Int)*(↑(56:Nat):Int)≤(140737488355328:Int)] ⟨oM,oM,(show (2:Int)*(↑(56:Nat):Int)≤(140737488355328:Int) from oM)⟩ ?_
 refine zl (fun (j:Nat)=>match j with | 0=>kcSt b d 2 0 p c 0 zeroT | 1=>kcSt b d 2 1 p1 c1 1 (rowF encK .nil [x]) | _=>kcSt b d 2 2 p2 c2 2 (rowF encK .nil [x,y])) (fun j=>j≤2) (fun j=>2-j) 0 (Nat.zero_le _) ?_ [(49,49)]
 intro j L hj again
 obtain rfl | rfl | rfl:j=0∨j=1∨j=2:=by omega
 ·have e1:=kid_new2 (e:=64) zeroT x
  refine zg [(7,{bs:=[(3,.row 64 4 1 (rowF encK .nil [x]))]}),(4,{cs:=[(2,cb [0] cx)]})] [true,false] [decide ((0:Int)<(2:Int))=true,(!true)=false,56≤140737488355328,BlkEqv (.row 64 4 1 (catF 0 zeroT fun i j=>nthD (encK x) ((0+i)*4+j))) (.row 64 4 1 (rowF encK KT.nil [x])),0≤0,0+1≤1,inR .i64 (0+1)] ⟨rfl,rfl,oM,aS,oM,oM,i6⟩ ?_
  exact za [(49,353)] (again _ 1 oM oM)
 ·have e3:BlkEqv (.row 64 4 (1+1) (catF 1 (rowF encK .nil [x]) (fun i j=>nthD (encK y) ((0+i)*4+j)))) (.row 64 4 (1+1) (rowF encK .nil [x,y])):=enc_app [x] y rfl
  refine zg [(7,{bs:=[(3,.row 64 4 2 (rowF encK .nil [x,y]))]}),(4,{cs:=[(2,cb [0] cy)]})] [true,false] [decide ((1:Int)<(2:Int))=true,(!true)=false,112≤140737488355328,BlkEqv (.row 64 4 2 (catF 1 (rowF encK KT.nil [x]) fun i j=>nthD (encK y) ((0+i)*4+j))) (.row 64 4 2 (rowF encK KT.nil [x,y])),1≤1,0+1≤1,inR .i64 (1+1)] ⟨rfl,rfl,oM,aS,oM,oM,i6⟩ ?_
  exact za [(49,353)] (again _ 2 oM oM)
 ·refine Wp.ent' kR (Ent.pubT (t:=8) (e:=64) (sz:=4) (id:=49) (off:=0) (m:=2) (n:=2) (f:=rowF encK .nil [x,y]) (m':=2) (f':=rowF encK .nil [x,y]) kR kR oM rfl (fun i _ j _=>by rw [Nat.zero_add]) rfl) ?_
  refine zg [] [false] [decide ((2:Int)<(2:Int))=false] rfl ?_
  exact zb []
end Go.Proofs.Tw
end
section
open Go Go.Sv Go.RowKit
namespace Go.Proofs.Tw
attribute [local irreducible] Wp FinQ resV Ent Pur Go.Sv.Fn Sat0
set_option maxRecDepth 100000
set_option maxHeartbeats 4000000
variable {G:Nat→Option (List Cell)}
mutual
def ktOf:TT→KT
 | .mk k n s ks=>⟨k,n,s,ks.length,rowF encK .nil (ktsOf ks)⟩
def ktsOf:List TT→List KT
 | []=>[]
 | t::r=>ktOf t::ktsOf r
end
theorem ktsOf_map:∀ l,ktsOf l=l.map ktOf
 | []=>by rw [ktsOf]; rfl
 | t::r=>by rw [ktsOf,ktsOf_map r]; rfl
theorem ktOf_eq (t:TT):ktOf t=⟨t.k,t.n,t.s,t.kids.length,rowF encK .nil (t.kids.map ktOf)⟩:=by
 cases t;rw [ktOf,ktsOf_map];rfl
theorem map_getD (l:List TT) (i:Nat) (h:i<l.length):(l.map ktOf).getD i .nil=ktOf (l.getD i .nil):=by
 simp [List.getD,h]
mutual
theorem Rep_ktOf:∀ t,Rep t (ktOf t)
 | .mk k n s ks=>by
  rw [ktOf,Rep]
  exact ⟨rfl,rfl,rfl,rfl,RepL_ktsOf ks (ktsOf ks) 0 (fun j hj=>by rw [Nat.zero_add])⟩
theorem RepL_ktsOf:∀ (l:List TT) (L:List KT) (i:Nat),(∀ j,j<l.length→L.getD (i+j) .nil=(ktsOf l).getD j .nil)→RepL l (rowF encK .nil L) i
 | [],L,i,_=>by rw [RepL]; trivial
 | t::r,L,i,h=>by
  rw [RepL]
  refine ⟨⟨ktOf t,?_,Rep_ktOf t⟩,RepL_ktsOf r L (i+1) fun j hj => ?_⟩
  ·have:=h 0 (by simp)
   rw [ktsOf] at this
   show [nthD (encK (L.getD i .nil)) 0,nthD (encK (L.getD i .nil)) 1,nthD (encK (L.getD i .nil)) 2,nthD (encK (L.getD i .nil)) 3]=_
   rw [show L.getD i .nil=ktOf t from this];rfl
  ·have:=h (j+1) (by simpa using hj)
   rw [ktsOf] at this
   rw [show i+1+j=i+(j+1) by omega]
   exact this
end
def ownG (l:List TT):Nat→Nat→Nat→Cell
 | 0=>zeroT
 | k+1=>fun i j=>if i<k+1 then nthD (encK (ktOf (l.getD i .nil))) j else zeroT i j
theorem ownG_at (l:List TT) (k i j:Nat):ownG l k i j=if i<k then nthD (encK (ktOf (l.getD i .nil))) j else zeroT i j:=by
 cases k
 ·rw [if_neg (Nat.not_lt_zero i)];rfl
 ·rfl
theorem ownG_set {e:TypeId} {n:Nat} (l:List TT) (k:Nat):BlkEqv (.row e 4 n (rowSet (ownG l k) (0+k) 0 4 (encK (ktOf (l.getD k .nil))))) (.row e 4 n (ownG l (k+1))):=by
 refine BlkEqv.row_ext rfl fun i hi j hj => ?_
 unfold rowSet
 rw [ownG_at,ownG_at,Nat.zero_add]
 by_cases h:i=k
 ·subst h;rw [if_pos ⟨rfl,by omega,by omega⟩,if_pos oM];rfl
 ·rw [if_neg oM]
  by_cases h2:i<k
  ·rw [if_pos h2,if_pos oM]
  ·rw [if_neg h2,if_neg oM]
theorem ownG_end {e:TypeId} {n:Nat} (l:List TT) (hn:n=l.length):BlkEqv (.row e 4 n (ownG l n)) (.row e 4 n (rowF encK .nil (l.map ktOf))):=by
 refine BlkEqv.row_ext rfl fun i hi j hj => ?_
 unfold rowF
 rw [ownG_at,if_pos hi,map_getD l i oM]
theorem terms_main (l:List TT) (m:Nat) (f:Nat→Nat→Cell) (hm:m=l.length) (hf:RepL l f 0) (hl:l.length≤1000000) (ih:∀ i,i<l.length→∀ u,Rep (l.getD i .nil) u→Pur Tryz.prog G 191 [.agg (encK u)] [.agg (encK (ktOf (l.getD i .nil)))]) :
  FnB Tryz.prog G 149 [] [.c (.sl 4 m f)] [.c (.row 4 0 0 m)] [(0,.row 64 4 m (rowF encK .nil (l.map ktOf)))]:=by
 refine zf Tryz.func149 ?_
 refine zg [] [] [(0:Int)≤(m:Int),(m:Int)≤(m:Int),(m:Int)*(↑(56:Nat):Int)≤(140737488355328:Int)] ⟨oM,oM,(show (m:Int)*(↑(56:Nat):Int)≤(140737488355328:Int) from oM)⟩ ?_
 refine zl (fun (k:Nat)=>⟨[(3,.v (.c (.row 4 48 0 m))),(9,.v (.c (.sl 4 m f))),(10,.v (.c (.int .i64 (m:Int)))),(11,.v (.c (.int .i64 (k:Int))))],[(48,.row 64 4 m (ownG l k))],128⟩) (fun k=>k≤m) (fun k=>m-k) 0 (Nat.zero_le _) ?_
 rintro k L hk again
 rcases Nat.lt_or_ge k m with hi | hi
 ·obtain ⟨u,u1,u2⟩:=RepL_at hf k oM
  rw [Nat.zero_add] at u1
  have c5:=ih k oM u u2
  have e1:EqvD (.agg [f k 0,f k 1,f k 2,f k 3]) (.agg (encK u)):=eqvD_of (by rw [u1])
  have e2:=ownG_set (e:=64) (n:=m) l k
  clear ih hf u1 u2
  refine zg [(4,{fm:=[(2,.agg (encK u))]}),(5,{cs:=[(3,pc c5)],bs:=[(5,.row 64 4 m (ownG l (k+1)))]})] [true] [decide ((k:Int)<(m:Int))=true,(0:Int)≤(k:Int)∧(k:Int)<(m:Int),EqvD (.agg [f k 0,f k (0+1),f k (0+1+1),f k (0+1+1+1)]) (.agg (encK u)),(0:Int)≤(k:Int)∧(k:Int)<(m:Int),BlkEqv (.row 64 4 m fun i j=>if i=0+k∧0≤j∧j<4 then nthD (encK (ktOf (l.getD k .nil))) (j-0) else ownG l k i j) (.row 64 4 m (ownG l (k+1))),0+k<m,inR .i64 ((k:Int)+1)] ⟨sO,oM,aS,oM,aS,oM,i6⟩ ?_
  exact za [] (again _ (k+1) aS oM)
 ·obtain rfl:k=m:=by omega
  have e3:=ownG_end (e:=64) l hm
  refine Wp.ent' kR (Ent.blkE (id:=48) (b' := .row 64 4 k (rowF encK .nil (l.map ktOf))) kR e3 rfl) ?_
  clear ih hf again
  refine zg [] [false] [decide ((k:Int)<(k:Int))=false] (show decide ((↑k:Int)<(↑k:Int))=false from (by simp;done)) ?_
  exact zb [48]
theorem term_main (t:TT) (x:KT) (hx:Rep t x) (c:FnB Tryz.prog G 149 [] [.c (.sl 4 x.m x.f)] [.c (.row 4 0 0 x.m)] [(0,.row 64 4 x.m (rowF encK .nil (t.kids.map ktOf)))]):Pur Tryz.prog G 191 [.agg (encK x)] [.agg (encK (ktOf t))]:=by
 refine zp Tryz.func191 ?_
 obtain ⟨a1,a2,a3,a4,a5⟩:=(Rep_eq t x).1 hx
 rw [ktOf_eq,← a1,← a2,← a3,← a4]
 refine z0 [(1,{cs:=[(2,cb [] c)]})] [] ?_
 refine Wp.ent' kR (Ent.pubC (b:=16) (o:=3) (e:=64) (e':=64) (cs:=[Cell.int .i64 x.k,Cell.int .i64 x.n,Cell.str x.s,Cell.row (4:Nat) (64:Nat) (0:Nat) x.m]) (sz:=(4:Nat)) (id:=64) (off:=(0:Nat)) (m:=x.m) (n:=x.m) (f:=rowF encK KT.nil (List.map ktOf t.kids)) (m':=(KT.mk x.k x.n x.s x.m (rowF encK KT.nil (List.map ktOf t.kids))).m) (f':=(KT.mk x.k x.n x.s x.m (rowF encK KT.nil (List.map ktOf t.kids))).f) kR kR kR oM rfl (fun i _ j _=>by rw [Nat.zero_add]) rfl) ?_
 exact zr
theorem ownTerm_ok {t:TT} (ht:LowR t):∀ (x:KT),Rep t x→Pur Tryz.prog G 191 [.agg (encK x)] [.agg (encK (ktOf t))]:=by
 induction ht with
 | @mk t h1 h2 ih =>
  intro x hx
  obtain ⟨a1,a2,a3,a4,a5⟩:=(Rep_eq t x).1 hx
  exact term_main t x hx (terms_main t.kids x.m x.f a4 a5 h1 fun i hi u hu=>ih _ (by rw [List.getD_eq_getElem?_getD,List.getElem?_eq_getElem hi];exact List.getElem_mem hi) u hu)
theorem ownTerms_ok (l:List TT) (m:Nat) (f:Nat→Nat→Cell) (hm:m=l.length) (hf:RepL l f 0) (hl:l.length≤1000000) (ht:∀ t∈l,LowR t) :
  FnB Tryz.prog G 149 [] [.c (.sl 4 m f)] [.c (.row 4 0 0 m)] [(0,.row 64 4 m (rowF encK .nil (l.map ktOf)))] :=
 terms_main l m f hm hf hl fun i hi u hu=>ownTerm_ok (ht _ (by rw [List.getD_eq_getElem?_getD,List.getElem?_eq_getElem hi];exact List.getElem_mem hi)) u hu
end Go.Proofs.Tw
end
section
open Go Go.Sv Go.RowKit
namespace Go.Proofs.Tw
attribute [local irreducible] Wp FinQ resV Ent Pur Go.Sv.Fn Sat0
set_option maxRecDepth 100000
set_option maxHeartbeats 4000000
variable {G:Nat→Option (List Cell)} [Back G]
def kidsI (k:Int):Int:=if k=1∨k=2 then 0 else if k=3∨k=4 then 1 else if k=5∨k=6∨k=7 then 2 else -1
theorem kidsP_ok (k:Int):Pur Tryz.prog G 224 [.c (.int .i64 k)] [.c (.int .i64 (kidsI k))]:=by
 refine zp Tryz.func224 ?_
 by_cases h1:k=1
 ·subst h1
  refine zg [] [true,true] [((1:Int)==(1:Int))=true,((1:Int)==(1:Int))=true] ⟨rfl,rfl⟩ ?_
  exact zr
 by_cases h2:k=2
 ·subst h2
  refine zg [] [false,true] [((2:Int)==(1:Int))=false,((2:Int)==(2:Int))=true] ⟨rfl,rfl⟩ ?_
  exact zr
 by_cases h3:k=3
 ·subst h3
  refine zg [] [false,false,true,true] [((3:Int)==(1:Int))=false,((3:Int)==(2:Int))=false,((3:Int)==(3:Int))=true,((3:Int)==(3:Int))=true] ⟨rfl,rfl,rfl,rfl⟩ ?_
  exact zr
 by_cases h4:k=4
 ·subst h4
  refine zg [] [false,false,false,true] [((4:Int)==(1:Int))=false,((4:Int)==(2:Int))=false,((4:Int)==(3:Int))=false,((4:Int)==(4:Int))=true] ⟨rfl,rfl,rfl,rfl⟩ ?_
  exact zr
 by_cases h5:k=5
 ·subst h5
  refine zg [] [false,false,false,false,true,true] [((5:Int)==(1:Int))=false,((5:Int)==(2:Int))=false,((5:Int)==(3:Int))=false,((5:Int)==(4:Int))=false,((5:Int)==(5:Int))=true,((5:Int)==(5:Int))=true] ⟨rfl,rfl,rfl,rfl,rfl,rfl⟩ ?_
  exact zr
 by_cases h6:k=6
 ·subst h6
  refine zg [] [false,false,false,false,false,true,true] [((6:Int)==(1:Int))=false,((6:Int)==(2:Int))=false,((6:Int)==(3:Int))=false,((6:Int)==(4:Int))=false,((6:Int)==(5:Int))=false,((6:Int)==(6:Int))=true,((6:Int)==(6:Int))=true] ⟨rfl,rfl,rfl,rfl,rfl,rfl,rfl⟩ ?_
  exact zr
 by_cases h7:k=7
 ·subst h7
  refine zg [] [false,false,false,false,false,false,true] [((7:Int)==(1:Int))=false,((7:Int)==(2:Int))=false,((7:Int)==(3:Int))=false,((7:Int)==(4:Int))=false,((7:Int)==(5:Int))=false,((7:Int)==(6:Int))=false,((7:Int)==(7:Int))=true] ⟨rfl,rfl,rfl,rfl,rfl,rfl,rfl⟩ ?_
  exact zr
 rw [show kidsI k = -1 by unfold kidsI;rw [if_neg oM,if_neg oM,if_neg oM]]
 have g1:(k==1)=false:=by simpa using h1
 have g2:(k==2)=false:=by simpa using h2
 have g3:(k==3)=false:=by simpa using h3
 have g4:(k==4)=false:=by simpa using h4
 have g5:(k==5)=false:=by simpa using h5
 have g6:(k==6)=false:=by simpa using h6
 have g7:(k==7)=false:=by simpa using h7
 clear h1 h2 h3 h4 h5 h6 h7
 refine zg [] [false,false,false,false,false,false,false] [(k==(1:Int))=false,(k==(2:Int))=false,(k==(3:Int))=false,(k==(4:Int))=false,(k==(5:Int))=false,(k==(6:Int))=false,(k==(7:Int))=false] ⟨aS,aS,aS,aS,aS,aS,(show (k==(7:Int))=false from aS)⟩ ?_
 exact zr
def rightK (k n:Int) (s:List UInt8) (m:Int):Bool:=bif bif m==kidsI k then (bif s==[] then true else bif k==1 then decide ((s.length:Int)≤1024) else false) else false then (bif n==0 then true else bif bif k==2 then decide (n>0) else false then decide (n≤1073741824) else false) else false
theorem rightK_ok (x:KT):Pur Tryz.prog G 185 [.agg (encK x)] [.c (.bool (rightK x.k x.n x.s (x.m:Int)))]:=by
 refine zp Tryz.func185 ?_
 have c:=kidsP_ok (G:=G) x.k
 refine z0 [(2,{cs:=[(5,pc c)]})] [] ?_
 exact zr
def selW (i a b:Nat):Nat:=match i with
 | 0=>a
 | _+1=>b
def cloW (f:FuncId) (g:Nat→Nat):Cell := .clo f 2 (fun _=>none) (fun i _ => .ptr (g i) 0)
def bxW (c:Int):Blk := .box 3 [.int .i64 c]
def bcW (g:Nat→Nat):Blk := .box 203 [cloW 184 g]
def stopW (x:TT) (d c:Int):Bool:=bif bif decide (c>64) then true else decide (d>16) then true else !(rightK x.k x.n x.s (x.kids.length:Int))
mutual
def walkM:TT→Int→Int→Bool×Int
 | .mk k n s ks,d,c=>if stopW (.mk k n s ks) d (c+1) then (false,c+1) else walkL ks (d+1) (c+1)
def walkL:List TT→Int→Int→Bool×Int
 | [],_,c=>(true,c)
 | x::r,d,c=>if (walkM x d c).1 then walkL r d (walkM x d c).2 else (false,(walkM x d c).2)
end
theorem walkM_eq (t:TT) (d c:Int):walkM t d c=if stopW t d (c+1) then (false,c+1) else walkL t.kids (d+1) (c+1):=by
 cases t;rw [walkM];rfl
theorem walkL_drop {l:List TT} {i:Nat} (h:i<l.length) (d c:Int):walkL (l.drop i) d c=if (walkM (l.getD i .nil) d c).1 then walkL (l.drop (i+1)) d (walkM (l.getD i .nil) d c).2 else (false,(walkM (l.getD i .nil) d c).2):=by
 rw [List.drop_eq_getElem_cons h,walkL];simp [List.getD,h]
mutual
theorem walkM_rng:∀ (t:TT) (d c:Int),0≤c→c≤64→c<(walkM t d c).2∧(walkM t d c).2≤65∧((walkM t d c).1=true→(walkM t d c).2≤64)
 | .mk k n s ks,d,c,h0,h1=>by
  rw [walkM]
  split
  ·exact ⟨by show c<c+1;omega,by show c+1≤65;omega,fun h=>by cases h⟩
  ·rename_i h
   have:c+1≤64:=by
    rcases Int.lt_or_le 64 (c+1) with h2 | h2
    ·exfalso;apply h
     unfold stopW
     rw [decide_eq_true (show c+1>64 from h2)];rfl
    ·exact h2
   have:=walkL_rng ks (d+1) (c+1) oM this
   exact ⟨by omega,this.2.1,this.2.2⟩
theorem walkL_rng:∀ (l:List TT) (d c:Int),0≤c→c≤64→c≤(walkL l d c).2∧(walkL l d c).2≤65∧((walkL l d c).1=true→(walkL l d c).2≤64)
 | [],d,c,h0,h1=>by rw [walkL]; exact ⟨Int.le_refl _,by show c≤65; omega,fun _=>h1⟩
 | x::r,d,c,h0,h1=>by
  have hx:=walkM_rng x d c h0 h1
  rw [walkL]
  split
  ·rename_i h
   have:=walkL_rng r d (walkM x d c).2 oM (hx.2.2 h)
   exact ⟨by omega,this.2.1,this.2.2⟩
  ·exact ⟨by show c≤(walkM x d c).2;omega,hx.2.1,fun h=>by cases h⟩
end
theorem eqW {σ:Nat→Nat} (h0:σ 0=0:=by rfl) (h1:σ 1=1:=by rfl):BlkEqv (bcW (fun i=>selW i 0 1)) (bcW (fun i=>σ (selW i 0 1))):=by
 rw [show (fun i=>σ (selW i 0 1))=fun i=>selW i 0 1 from funext fun i=>by cases i;exact h0;exact h1]
 exact BlkEqv.refl _
theorem eqW2 {σ τ:Nat→Nat} (h0:σ 0=0:=by rfl) (h1:σ 1=1:=by rfl) (k0:τ 0=0:=by rfl) (k1:τ 1=1:=by rfl):BlkEqv (bcW (fun i=>σ (selW i 0 1))) (bcW (fun i=>τ (selW i 0 1))):=by
 rw [show (fun i=>σ (selW i 0 1))=fun i=>τ (selW i 0 1) from funext fun i=>by cases i;exact h0.trans k0.symm;exact h1.trans k1.symm]
 exact BlkEqv.refl _
theorem stop3:∀ a b c:Bool,(bif bif a then true else b then true else c)=false→a=false∧b=false∧c=false:=by decide
theorem may1_main (t:TT) (x:KT) (d c:Int) (hx:Rep t x) (hl:stopW t d (c+1)=false→t.kids.length≤1000000) (hd:0≤d∧d≤17) (hc:0≤c∧c≤64)
  (ih:∀ i,i<t.kids.length→∀ u c',0≤c'→c'≤64→d+1≤17→Rep (t.kids.getD i .nil) u→FnB Tryz.prog G 184 [bxW c',bcW (fun i=>selW i 0 1)] [.agg (encK u),.c (.int .i64 (d+1)),.c (.ptr 0 0),.c (.ptr 1 0)] [.c (.bool (walkM (t.kids.getD i .nil) (d+1) c').1)] [(0,bxW (walkM (t.kids.getD i .nil) (d+1) c').2),(1,bcW (fun i=>selW i 0 1))]) :
  FnB Tryz.prog G 184 [bxW c,bcW (fun i=>selW i 0 1)] [.agg (encK x),.c (.int .i64 d),.c (.ptr 0 0),.c (.ptr 1 0)] [.c (.bool (walkM t d c).1)] [(0,bxW (walkM t d c).2),(1,bcW (fun i=>selW i 0 1))]:=by
 refine zf Tryz.func184 ?_
 obtain ⟨a1,a2,a3,a4,a5⟩:=(Rep_eq t x).1 hx
 have c1:=rightK_ok (G:=G) x
 have hst:(bif bif decide (c+1>64) then true else decide (d>16) then true else !(rightK x.k x.n x.s (x.m:Int)))=stopW t d (c+1):=by rw [a1,a2,a3,a4];rfl
 rw [walkM_eq]
 cases hs:stopW t d (c+1) with
 | true =>
  rw [hs] at hst
  rw [if_pos rfl]
  clear ih hs
  refine zg [(2,{cs:=[(8,pc c1)]})] [true] [inR .i64 (c+1),(bif bif decide (c+(1:Int)>(64:Int)) then true else decide (d>(16:Int)) then true else !rightK x.k x.n x.s (x.m:Int))=true] ⟨i6,(show (bif bif decide (c+(1:Int)>(64:Int)) then true else decide (d>(16:Int)) then true else !rightK x.k x.n x.s (↑x.m:Int))=true from aS)⟩ ?_
  refine Wp.ent' kR (Ent.blkE (id:=1) (b':=bcW (fun i=>sigF 2 [] (selW i 0 1))) kR eqW rfl) ?_
  exact zb []
 | false =>
  have hl:=hl hs
  rw [hs] at hst
  rw [if_neg dC]
  obtain ⟨t1,t2,_⟩:=stop3 _ _ _ hs
  have hd17:d+1≤17:=by have:=of_decide_eq_false t2;omega
  have hc1:0≤c+1∧c+1≤64:=by have:=of_decide_eq_false t1;omega
  clear t1 t2
  clear hs
  refine zg [(2,{cs:=[(8,pc c1)]})] [false] [inR .i64 (c+1),(bif bif decide (c+(1:Int)>(64:Int)) then true else decide (d>(16:Int)) then true else !rightK x.k x.n x.s (x.m:Int))=false] ⟨i6,(show (bif bif decide (c+(1:Int)>(64:Int)) then true else decide (d>(16:Int)) then true else !rightK x.k x.n x.s (↑x.m:Int))=false from aS)⟩ ?_
  refine zl (fun (z:Nat×Int×(Nat→Nat))=>⟨[(1,.v (.c (.int .i64 d))),(3,.v (.c (.ptr 1 0))),(4,.v (.c (.ptr 2 0))),(23,.v (.c (.int .i64 (x.m:Int)))),(24,.v (.c (.int .i64 (z.1:Int))))],[(0,bxW z.2.1),(1,bcW z.2.2),(2,.box 64 (encK x))],322⟩) (fun z=>z.1≤t.kids.length∧(0≤z.2.1∧z.2.1≤64)∧walkL t.kids (d+1) (c+1)=walkL (t.kids.drop z.1) (d+1) z.2.1∧z.2.2=fun i=>selW i 0 1) (fun z=>t.kids.length-z.1) (0,c+1,fun i=>selW i 0 1) ⟨Nat.zero_le _,hc1,rfl,rfl⟩ ?_
  rintro ⟨k,c',g⟩ L ⟨h1,h2,h3,rfl⟩ again
  simp only at h1 h2 h3
  rw [h3]
  rcases Nat.lt_or_ge k t.kids.length with hi | hi
  ·obtain ⟨u,u1,u2⟩:=RepL_at a5 k hi
   rw [Nat.zero_add] at u1
   have c5:=ih k hi u c' h2.1 h2.2 hd17 u2
   rw [walkL_drop hi] at h3 ⊢
   have hr:=walkM_rng (t.kids.getD k .nil) (d+1) c' h2.1 h2.2
   generalize walkM (t.kids.getD k .nil) (d+1) c'=y at *
   obtain ⟨b,c''⟩:=y
   simp only at c5 h3 hr ⊢
   have e1:EqvD (.agg [x.f k 0,x.f k 1,x.f k 2,x.f k 3]) (.agg (encK u)):=eqvD_of (by rw [u1])
   have hg:(fun i=>sigOut [0,1] 498 (selW i 0 1))=fun i=>selW i 0 1:=funext fun i=>by cases i<;>rfl
   cases b with
   | true =>
    rw [if_pos rfl] at h3 ⊢
    have h64:=hr.2.2 rfl
    clear ih a5 u1 u2
    refine Wp.ent' kR (Ent.blkE (id:=1) (b':=bcW (fun i=>sigIn [0,1] (selW i 0 1))) kR eqW rfl) ?_
    refine zg [(7,{cs:=[(8,cb [0,1] c5)],fm:=[(5,.agg (encK u))]})] [true,false] [decide ((k:Int)<(x.m:Int))=true,(0:Int)≤(k:Int)∧(k:Int)<(x.m:Int),EqvD (.agg [x.f k 0,x.f k (0+1),x.f k (0+1+1),x.f k (0+1+1+1)]) (.agg (encK u)),inR .i64 (d+1),(!true)=false,inR .i64 ((k:Int)+1)] ⟨sO,oM,aS,i6,rfl,i6⟩ ?_
    exact za [] (again _ (k+1,c'',fun i=>sigOut [0,1] 498 (selW i 0 1)) ⟨aS,⟨⟨sO,aS⟩,⟨aS,aS⟩⟩⟩ oM)
   | false =>
    rw [if_neg dC] at h3 ⊢
    clear ih a5 u1 u2 again
    refine Wp.ent' kR (Ent.blkE (id:=1) (b':=bcW (fun i=>sigIn [0,1] (selW i 0 1))) kR eqW rfl) ?_
    refine zg [(7,{cs:=[(8,cb [0,1] c5)],fm:=[(5,.agg (encK u))]})] [true,true] [decide ((k:Int)<(x.m:Int))=true,(0:Int)≤(k:Int)∧(k:Int)<(x.m:Int),EqvD (.agg [x.f k 0,x.f k (0+1),x.f k (0+1+1),x.f k (0+1+1+1)]) (.agg (encK u)),inR .i64 (d+1),(!false)=true] ⟨sO,oM,aS,i6,rfl⟩ ?_
    refine Wp.ent' kR (Ent.blkE (id:=1) (b:=bcW (fun i=>sigOut [0,1] 498 (selW i 0 1))) (b':=bcW (fun i=>sigF 2 [] (selW i 0 1))) kR eqW2 rfl) ?_
    exact zb []
  ·rw [List.drop_eq_nil_of_le hi,walkL]
   clear ih a5 again h3
   refine zg [] [false] [decide ((k:Int)<(x.m:Int))=false] (oN sO) ?_
   refine Wp.ent' kR (Ent.blkE (id:=1) (b':=bcW (fun i=>sigF 2 [] (selW i 0 1))) kR eqW rfl) ?_
   exact zb []
theorem mayW1_ok {t:TT} (ht:LowR t):∀ (x:KT) (d c:Int),Rep t x→0≤d→d≤17→0≤c→c≤64 →
  FnB Tryz.prog G 184 [bxW c,bcW (fun i=>selW i 0 1)] [.agg (encK x),.c (.int .i64 d),.c (.ptr 0 0),.c (.ptr 1 0)] [.c (.bool (walkM t d c).1)] [(0,bxW (walkM t d c).2),(1,bcW (fun i=>selW i 0 1))]:=by
 induction ht with
 | @mk t h1 h2 ih =>
  intro x d c hx d0 d1 c0 c1
  exact may1_main t x d c hx (fun _=>h1) ⟨d0,d1⟩ ⟨c0,c1⟩ fun i hi u c' q0 q1 q2 hu=>ih _ (by rw [List.getD_eq_getElem?_getD,List.getElem?_eq_getElem hi];exact List.getElem_mem hi) u (d+1) c' hu oM q2 q0 q1
theorem cloW_D (f:FuncId) (g:Nat→Nat) (x y:Nat) (hx:g 0=x) (hy:g 1=y):EqvD (.c (cloRaw f [.c (.ptr x 0),.c (.ptr y 0)])) (.c (cloW f g)):=by
 intro D ρ u h
 obtain ⟨vs,e,hs,hv⟩:=(h:Den D ρ (cloRaw f [.c (.ptr x 0),.c (.ptr y 0)]) u)
 refine (⟨vs,e,hs,fun i hi => ?_⟩:Den D ρ (cloW f g) u)
 subst hx;subst hy
 match i,hi with
 | 0,_=>exact hv 0 (by show 0<2; decide)
 | 1,_=>exact hv 1 (by show 1<2; decide)
 | i+2,hi=>omega
theorem cloW_I (f:FuncId) (g:Nat→Nat) (x y:Nat) (hx:g 0=x) (hy:g 1=y):EqvI (.c (cloRaw f [.c (.ptr x 0),.c (.ptr y 0)])) (.c (cloW f g)):=by
 intro S h i hi
 subst hx;subst hy
 match i,hi with
 | 0,_=>exact h 0 (by show 0<2; decide)
 | 1,_=>exact h 1 (by show 1<2; decide)
 | i+2,hi=>omega
def mayTT (t:TT):Bool:=(walkM t 1 0).1
theorem mayT_ok {t:TT} (ht:LowR t) (x:KT) (hx:Rep t x):Pur Tryz.prog G 140 [.agg (encK x)] [.c (.bool (mayTT t))]:=by
 refine zp Tryz.func140 ?_
 have c:=mayW1_ok (G:=G) ht x 1 0 hx oM oM oM oM
 unfold mayTT
 generalize walkM t 1 0=y at *
 have f1:=cloW_I 184 (fun i=>sigIn [32,64] (selW i 0 1)) 32 64 rfl rfl
 have f2:=cloW_D 184 (fun i=>sigIn [32,64] (selW i 0 1)) 32 64 rfl rfl
 refine zg [(3,{fm:=[(0,.c (cloW 184 (fun i=>sigIn [32,64] (selW i 0 1))))]}),(4,{cs:=[(2,cb [32,64] c)]})] [] [type_of% f1,type_of% f2] ⟨f1,f2⟩ ?_
 exact zr
def byteS (k:Int) (m:Nat):UInt8:=UInt8.ofNat (IntKind.u8.wrap (k.fdiv (2^m))).toNat
theorem u8_wrap (x:Int):IntKind.u8.wrap x=((UInt8.ofNat (IntKind.u8.wrap x).toNat).toNat:Int):=by
 have h:0≤IntKind.u8.wrap x∧IntKind.u8.wrap x<256:=by simp [IntKind.wrap,IntKind.bits,IntKind.signed];omega
 obtain ⟨y,hy⟩:=Int.eq_ofNat_of_zero_le h.1
 rw [hy] at h ⊢
 simp only [Int.toNat_natCast]
 have:(UInt8.ofNat y).toNat=y:=by simp;omega
 rw [this]
def numF (v:Int) (w i:Nat):List UInt8:=(List.range i).map fun j=>byteS v (8*(w-1-j))
theorem numF_succ (v:Int) (w i:Nat):numF v w (i+1)=numF v w i++[byteS v (8*(w-1-i))]:=by unfold numF;rw [List.range_succ,List.map_append];rfl
theorem numF_len (v:Int) (w i:Nat):(numF v w i).length=i:=by unfold numF;simp
def nuP (v:Int) (w:Nat) (x:Nat×Nat×List UInt8):St:=match x.1 with
 | 0=>⟨[(0,.v (.c (.row 1 0 0 x.2.1))),(1,.v (.c (.int .i64 v))),(2,.v (.c (.int .i64 (w:Int)))),(8,.v (.c (.int .i64 (w:Int)))),(9,.v (.c (.int .i64 (x.1:Int))))],[(0,.row 5 1 x.2.1 (bytesF x.2.2))],65⟩
 | _+1=>⟨[(0,.v (.c (.row 1 49 0 x.2.1))),(1,.v (.c (.int .i64 v))),(2,.v (.c (.int .i64 (w:Int)))),(8,.v (.c (.int .i64 (w:Int)))),(9,.v (.c (.int .i64 (x.1:Int))))],[(49,.row 5 1 x.2.1 (bytesF x.2.2))],65⟩
theorem numberP_ok (v:Int) (w:Nat) (hw:1≤w) (hw4:w≤4) (n:Nat) (l:List UInt8) (hn:n=l.length) (hm:n≤1000000):FnB Tryz.prog G 186 [.row 5 1 n (bytesF l)] [.c (.row 1 0 0 n),.c (.int .i64 v),.c (.int .i64 (w:Int))] [.c (.row 1 1 0 (n+w))] [(1,.row 5 1 (n+w) (bytesF (l++numF v w w)))]:=by
 refine zf Tryz.func186 ?_
 refine z0 [] [] ?_
 refine zl (nuP v w) (fun x=>x.1≤w∧x.2.1=n+x.1∧x.2.2=l++numF v w x.1) (fun x=>w-x.1) (0,n,l) ⟨Nat.zero_le _,rfl,by show l=l++[];simp⟩ ?_
 rintro ⟨i,n',l'⟩ L ⟨h1,h2,h3⟩ again
 simp only at h1 h2 h3
 have hl':n'=l'.length:=by rw [h3,List.length_append,numF_len,h2,hn]
 rcases Nat.lt_or_ge i w with hi | hi
 ·have hsh:min (8*((w:Int)-1-(i:Int))).toNat IntKind.i64.bits=8*(w-1-i):=by
   show min (8*((w:Int)-1-(i:Int))).toNat 64=_
   omega
  have eb:IntKind.u8.wrap (v.fdiv (2^min (8*((w:Int)-1-(i:Int))).toNat IntKind.i64.bits))=((byteS v (8*(w-1-i))).toNat:Int):=by rw [hsh];exact u8_wrap _
  have hF:l'++[byteS v (8*(w-1-i))]=l++numF v w (i+1):=by rw [numF_succ,h3,List.append_assoc]
  rcases i with _ | j
  ·have hq:n'+1=n+1:=by omega
   have e1:BlkEqv (.row 5 1 (n'+1) (catF n' (bytesF l') (fun i j_1=>nthD [.int .u8 (IntKind.u8.wrap (v.fdiv (2^min (8*((w:Int)-1-(0:Nat))).toNat IntKind.i64.bits)))] ((0+i)*1+j_1)))) (.row 5 1 (n'+1) (bytesF (l'++[byteS v (8*(w-1-(0)))]))):=by
    rw [eb];exact bytes_app l' [_] hl'
   clear eb hsh
   refine zg [(4,{bs:=[(10,.row 5 1 (n'+1) (bytesF (l'++[byteS v (8*(w-1-(0)))])))]})] [true] [decide ((↑(0:Nat):Int)<(w:Int))=true,inR .i64 ((w:Int)-1),inR .i64 ((w:Int)-(1:Int)-(↑(0:Nat):Int)),inR .i64 ((8:Int)*((w:Int)-(1:Int)-(↑(0:Nat):Int))),(0:Int)≤(8:Int)*((w:Int)-(1:Int)-(↑(0:Nat):Int)),(n'+1)*1≤140737488355328,BlkEqv (.row 5 (1:Nat) (n'+(1:Nat)) (catF n' (bytesF l') fun i j=>nthD [.int .u8 (IntKind.u8.wrap (v.fdiv ((2:Int)^min ((8:Int)*((w:Int)-(1:Int)-(↑(0:Nat):Int))).toNat IntKind.i64.bits)))] (((0:Nat)+i)*(1:Nat)+j))) (.row 5 (1:Nat) (n'+(1:Nat)) (bytesF (l'++[byteS v ((8:Nat)*(w-(1:Nat)-(0:Nat)))]))),n'≤n',0+1≤1,inR .i64 ((↑(0:Nat):Int)+(1:Int))] ⟨sO,i6,i6,i6,oM,oM,aS,oM,oM,i6⟩ ?_
   exact za [(49,273)] (again _ (1,n'+1,l'++[byteS v (8*(w-1-(0)))]) ⟨aS,⟨aS,aS⟩⟩ oM)
  ·have hq:n'+1=n+(j+1+1):=by omega
   have e1:BlkEqv (.row 5 1 (n'+1) (catF n' (bytesF l') (fun i j_1=>nthD [.int .u8 (IntKind.u8.wrap (v.fdiv (2^min (8*((w:Int)-1-(j+1:Nat))).toNat IntKind.i64.bits)))] ((0+i)*1+j_1)))) (.row 5 1 (n'+1) (bytesF (l'++[byteS v (8*(w-1-(j+1)))]))):=by
    rw [eb];exact bytes_app l' [_] hl'
   clear eb hsh
   refine zg [(4,{bs:=[(10,.row 5 1 (n'+1) (bytesF (l'++[byteS v (8*(w-1-(j+1)))])))]})] [true] [decide ((↑(j+(1:Nat)):Int)<(w:Int))=true,inR .i64 ((w:Int)-1),inR .i64 ((w:Int)-(1:Int)-(↑(j+(1:Nat)):Int)),inR .i64 ((8:Int)*((w:Int)-(1:Int)-(↑(j+(1:Nat)):Int))),(0:Int)≤(8:Int)*((w:Int)-(1:Int)-(↑(j+(1:Nat)):Int)),(n'+1)*1≤140737488355328,BlkEqv (.row 5 (1:Nat) (n'+(1:Nat)) (catF n' (bytesF l') fun (i j_1:Nat)=>nthD [.int .u8 (IntKind.u8.wrap (v.fdiv ((2:Int)^min ((8:Int)*((w:Int)-(1:Int)-(↑(j+(1:Nat)):Int))).toNat IntKind.i64.bits)))] (((0:Nat)+i)*(1:Nat)+j_1))) (.row 5 (1:Nat) (n'+(1:Nat)) (bytesF (l'++[byteS v ((8:Nat)*(w-(1:Nat)-(j+(1:Nat))))]))),n'≤n',0+1≤1,inR .i64 ((↑(j+(1:Nat)):Int)+(1:Int))] ⟨sO,i6,i6,i6,oM,oM,aS,oM,oM,i6⟩ ?_
   exact za [(49,273)] (again _ (j+1+1,n'+1,l'++[byteS v (8*(w-1-(j+1)))]) ⟨aS,⟨aS,aS⟩⟩ oM)
 ·obtain rfl:i=w:=by omega
  obtain ⟨j,rfl⟩:∃ j,i=j+1:=⟨i-1,by omega⟩
  subst h2 h3
  refine zg [] [false] [decide ((↑(j+(1:Nat)):Int)<(↑(j+(1:Nat)):Int))=false] (show decide ((↑(j+(1:Nat)):Int)<(↑(j+(1:Nat)):Int))=false from (by simp;done)) ?_
  exact zb [49]
def nuR (v:Int) (w:Nat) (x:Nat×Nat×List UInt8):St:=match x.1 with
 | 0=>⟨[(0,.v (.c (.row 1 0 0 x.2.1))),(1,.v (.c (.int .i64 v))),(7,.v (.c (.int .i64 ((w:Int)-1-(x.1:Int)))))],[(0,.row 5 1 x.2.1 (bytesF x.2.2))],65⟩
 | _+1=>⟨[(0,.v (.c (.row 1 49 0 x.2.1))),(1,.v (.c (.int .i64 v))),(7,.v (.c (.int .i64 ((w:Int)-1-(x.1:Int)))))],[(49,.row 5 1 x.2.1 (bytesF x.2.2))],65⟩
theorem numberR_ok (v:Int) (w:Nat) (hw:1≤w) (hw4:w≤4) (n:Nat) (l:List UInt8) (hn:n=l.length) (hm:n≤1000000):FnB Tryz.prog G 181 [.row 5 1 n (bytesF l)] [.c (.row 1 0 0 n),.c (.int .i64 v),.c (.int .i64 (w:Int))] [.c (.row 1 1 0 (n+w))] [(1,.row 5 1 (n+w) (bytesF (l++numF v w w)))]:=by
 refine zf Tryz.func181 ?_
 have e0:EqvD (.c (.int .i64 ((w:Int)-1))) (.c (.int .i64 ((w:Int)-1-((0:Nat):Int)))):=eqvD_of (by rw [show (w:Int)-1-((0:Nat):Int)=(w:Int)-1 by omega])
 refine zg [(1,{fm:=[(1,.c (.int .i64 ((w:Int)-1-((0:Nat):Int))))]})] [] [EqvI (.c (.int .i64 ((w:Int)-1))) (.c (.int .i64 ((w:Int)-1-((0:Nat):Int)))),type_of% e0,inR .i64 ((w:Int)-1)] ⟨(fun _ _=>trivial),e0,i6⟩ ?_
 refine zl (nuR v w) (fun x=>x.1≤w∧x.2.1=n+x.1∧x.2.2=l++numF v w x.1) (fun x=>w-x.1) (0,n,l) ⟨Nat.zero_le _,rfl,by show l=l++[];simp⟩ ?_
 rintro ⟨i,n',l'⟩ L ⟨h1,h2,h3⟩ again
 simp only at h1 h2 h3
 have hl':n'=l'.length:=by rw [h3,List.length_append,numF_len,h2,hn]
 rcases Nat.lt_or_ge i w with hi | hi
 ·have hsh:min (8*((w:Int)-1-(i:Int))).toNat IntKind.i64.bits=8*(w-1-i):=by
   show min (8*((w:Int)-1-(i:Int))).toNat 64=_
   omega
  have eb:IntKind.u8.wrap (v.fdiv (2^min (8*((w:Int)-1-(i:Int))).toNat IntKind.i64.bits))=((byteS v (8*(w-1-i))).toNat:Int):=by rw [hsh];exact u8_wrap _
  have hF:l'++[byteS v (8*(w-1-i))]=l++numF v w (i+1):=by rw [numF_succ,h3,List.append_assoc]
  rcases i with _ | j
  ·have hq:n'+1=n+1:=by omega
   have e1:BlkEqv (.row 5 1 (n'+1) (catF n' (bytesF l') (fun i j_1=>nthD [.int .u8 (IntKind.u8.wrap (v.fdiv (2^min (8*((w:Int)-1-(0:Nat))).toNat IntKind.i64.bits)))] ((0+i)*1+j_1)))) (.row 5 1 (n'+1) (bytesF (l'++[byteS v (8*(w-1-(0)))]))):=by
    rw [eb];exact bytes_app l' [_] hl'
   have e2:EqvD (.c (.int .i64 ((w:Int)-1-((0:Nat):Int)-1))) (.c (.int .i64 ((w:Int)-1-((0+1:Nat):Int)))):=eqvD_of (by congr 2;omega)
   clear eb hsh
   refine zg [(4,{bs:=[(7,.row 5 1 (n'+1) (bytesF (l'++[byteS v (8*(w-1-(0)))])))]}),(3,{fm:=[(1,.c (.int .i64 ((w:Int)-1-((0+1:Nat):Int))))]})] [true] [decide ((w:Int)-(1:Int)-(↑(0:Nat):Int)≥(0:Int))=true,inR .i64 ((8:Int)*((w:Int)-(1:Int)-(↑(0:Nat):Int))),(0:Int)≤(8:Int)*((w:Int)-(1:Int)-(↑(0:Nat):Int)),(n'+1)*1≤140737488355328,BlkEqv (.row 5 (1:Nat) (n'+(1:Nat)) (catF n' (bytesF l') fun i j=>nthD [.int .u8 (IntKind.u8.wrap (v.fdiv ((2:Int)^min ((8:Int)*((w:Int)-(1:Int)-(↑(0:Nat):Int))).toNat IntKind.i64.bits)))] (((0:Nat)+i)*(1:Nat)+j))) (.row 5 (1:Nat) (n'+(1:Nat)) (bytesF (l'++[byteS v ((8:Nat)*(w-(1:Nat)-(0:Nat)))]))),n'≤n',0+1≤1,EqvI (.c (.int .i64 ((w:Int)-(1:Int)-(↑(0:Nat):Int)-(1:Int)))) (.c (.int .i64 ((w:Int)-(1:Int)-(↑((0:Nat)+(1:Nat)):Int)))),EqvD (.c (.int .i64 ((w:Int)-(1:Int)-(↑(0:Nat):Int)-(1:Int)))) (.c (.int .i64 ((w:Int)-(1:Int)-(↑((0:Nat)+(1:Nat)):Int)))),inR .i64 ((w:Int)-(1:Int)-(↑(0:Nat):Int)-(1:Int))] ⟨sO,i6,oM,oM,aS,oM,oM,fun _ _=>trivial,aS,i6⟩ ?_
   exact za [(49,209)] (again _ (0+1,n'+1,l'++[byteS v (8*(w-1-(0)))]) ⟨aS,⟨aS,aS⟩⟩ oM)
  ·have hq:n'+1=n+(j+1+1):=by omega
   have e1:BlkEqv (.row 5 1 (n'+1) (catF n' (bytesF l') (fun i j_1=>nthD [.int .u8 (IntKind.u8.wrap (v.fdiv (2^min (8*((w:Int)-1-(j+1:Nat))).toNat IntKind.i64.bits)))] ((0+i)*1+j_1)))) (.row 5 1 (n'+1) (bytesF (l'++[byteS v (8*(w-1-(j+1)))]))):=by
    rw [eb];exact bytes_app l' [_] hl'
   have e2:EqvD (.c (.int .i64 ((w:Int)-1-((j+1:Nat):Int)-1))) (.c (.int .i64 ((w:Int)-1-((j+1+1:Nat):Int)))):=eqvD_of (by congr 2;omega)
   clear eb hsh
   refine zg [(4,{bs:=[(7,.row 5 1 (n'+1) (bytesF (l'++[byteS v (8*(w-1-(j+1)))])))]}),(3,{fm:=[(1,.c (.int .i64 ((w:Int)-1-((j+1+1:Nat):Int))))]})] [true] [decide ((w:Int)-(1:Int)-(↑(j+(1:Nat)):Int)≥(0:Int))=true,inR .i64 ((8:Int)*((w:Int)-(1:Int)-(↑(j+(1:Nat)):Int))),(0:Int)≤(8:Int)*((w:Int)-(1:Int)-(↑(j+(1:Nat)):Int)),(n'+1)*1≤140737488355328,BlkEqv (.row 5 (1:Nat) (n'+(1:Nat)) (catF n' (bytesF l') fun (i j_1:Nat)=>nthD [.int .u8 (IntKind.u8.wrap (v.fdiv ((2:Int)^min ((8:Int)*((w:Int)-(1:Int)-(↑(j+(1:Nat)):Int))).toNat IntKind.i64.bits)))] (((0:Nat)+i)*(1:Nat)+j_1))) (.row 5 (1:Nat) (n'+(1:Nat)) (bytesF (l'++[byteS v ((8:Nat)*(w-(1:Nat)-(j+(1:Nat))))]))),n'≤n',0+1≤1,EqvI (.c (.int .i64 ((w:Int)-(1:Int)-(↑(j+(1:Nat)):Int)-(1:Int)))) (.c (.int .i64 ((w:Int)-(1:Int)-(↑(j+(1:Nat)+(1:Nat)):Int)))),EqvD (.c (.int .i64 ((w:Int)-(1:Int)-(↑(j+(1:Nat)):Int)-(1:Int)))) (.c (.int .i64 ((w:Int)-(1:Int)-(↑(j+(1:Nat)+(1:Nat)):Int)))),inR .i64 ((w:Int)-(1:Int)-(↑(j+(1:Nat)):Int)-(1:Int))] ⟨sO,i6,oM,oM,aS,oM,oM,fun _ _=>trivial,aS,i6⟩ ?_
   exact za [(49,209)] (again _ (j+1+1,n'+1,l'++[byteS v (8*(w-1-(j+1)))]) ⟨aS,⟨aS,aS⟩⟩ oM)
 ·obtain rfl:i=w:=by omega
  obtain ⟨j,rfl⟩:∃ j,i=j+1:=⟨i-1,by omega⟩
  subst h2 h3
  refine zg [] [false] [decide ((↑(j+(1:Nat)):Int)-(1:Int)-(↑(j+(1:Nat)):Int)≥(0:Int))=false] (oN sO) ?_
  exact zb [49]
def kindU (k:Int):UInt8:=UInt8.ofNat (IntKind.u8.wrap k).toNat
def bodyB (k n:Int) (s:List UInt8):List UInt8:=if k=1 then numF (s.length:Int) 2 2++s else if k=2 then numF n 4 4 else []
mutual
def putB:TT→List UInt8
 | .mk k n s ks=>kindU k::(bodyB k n s++putL ks)
def putL:List TT→List UInt8
 | []=>[]
 | x::r=>putB x++putL r
end
theorem putB_eq (t:TT):putB t=kindU t.k::(bodyB t.k t.n t.s++putL t.kids):=by cases t;rw [putB];rfl
theorem putL_take:∀ {l:List TT} {i:Nat},i<l.length→putL (l.take (i+1))=putL (l.take i)++putB (l.getD i .nil)
 | [],i,h=>by simp at h
 | x::r,0,h=>by simp [putL]
 | x::r,i+1,h=>by
  rw [List.take_succ_cons,List.take_succ_cons,putL,putL,putL_take (by simpa using h),List.append_assoc];rfl
theorem putL_le:∀ (l:List TT) (i:Nat),(putL (l.take i)).length≤(putL l).length
 | [],i=>by simp
 | x::r,0=>by rw [List.take_zero,putL]; simp
 | x::r,i+1=>by rw [List.take_succ_cons,putL,putL,List.length_append,List.length_append]; have:=putL_le r i; omega
theorem putL_at {l:List TT} {i:Nat} (h:i<l.length):(putL (l.take i)).length+(putB (l.getD i .nil)).length≤(putL l).length:=by
 have:=putL_le l (i+1)
 rw [putL_take h,List.length_append] at this
 exact this
def putS (L:List UInt8) (ks:List TT):Nat→List UInt8
 | 0=>L
 | k+1=>putS L ks k++putB (ks.getD k .nil)
def putC (m:Nat) (ks:List TT):Nat→Nat
 | 0=>m
 | k+1=>putC m ks k+(putB (ks.getD k .nil)).length
theorem putS_eq (L:List UInt8) (ks:List TT):∀ k,k≤ks.length→putS L ks k=L++putL (ks.take k)
 | 0,_=>by rw [putS,List.take_zero,putL,List.append_nil]
 | k+1,h=>by rw [putS,putS_eq L ks k oM,putL_take oM,List.append_assoc]
theorem putC_eq (m:Nat) (ks:List TT):∀ k,k≤ks.length→putC m ks k=m+(putL (ks.take k)).length
 | 0,_=>by rw [putC,List.take_zero,putL]; rfl
 | k+1,h=>by rw [putC,putC_eq m ks k oM,putL_take oM,List.length_append,Nat.add_assoc]
theorem putC_succ (m:Nat) (ks:List TT) (k:Nat):putC m ks k+(putB (ks.getD k .nil)).length=putC m ks (k+1):=rfl
theorem putS_succ (L:List UInt8) (ks:List TT) (k:Nat):putS L ks k++putB (ks.getD k .nil)=putS L ks (k+1):=rfl
inductive OkP:TT→Prop
 | mk {t:TT}:(t.k=1∨t.k=2→t.kids=[])→(∀ x∈t.kids,OkP x)→OkP t
theorem bytes_cat {e:TypeId} {n k:Nat} (a b:List UInt8) (hk:k=a.length):BlkEqv (.row e 1 n (catF k (bytesF a) (bytesF b))) (.row e 1 n (bytesF (a++b))):=by
 refine BlkEqv.row_ext rfl fun i hi j hj => ?_
 unfold catF bytesF
 by_cases h:i<k
 ·rw [if_pos h];simp [List.getD,List.getElem?_append_left (show i<a.length by omega)]
 ·rw [if_neg h];simp [List.getD,List.getElem?_append_right (show a.length≤i by omega),hk]
theorem one_row {e:TypeId} (x:Int) (hx:IntKind.u8.wrap x=((kindU x).toNat:Int)):BlkEqv (.row e 1 1 (fun i j=>nthD [.int .u8 (IntKind.u8.wrap x)] (i*1+j))) (.row e 1 1 (bytesF [kindU x])):=by
 refine BlkEqv.row_ext rfl fun i hi j hj => ?_
 obtain rfl:i=0:=by omega
 obtain rfl:j=0:=by omega
 rw [hx];rfl
theorem putsP_row (t:TT) (x:KT) (hx:Rep t x) (h12:t.k=1∨t.k=2→t.kids=[]) (hkl:t.kids.length≤1000000) (n:Nat) (l:List UInt8) (hn:n=l.length) (hm:n+(putB t).length≤500000)
  (ih:∀ i,i<t.kids.length→∀ u n' l',n'=l'.length→n'+(putB (t.kids.getD i .nil)).length≤500000→Rep (t.kids.getD i .nil) u→FnB Tryz.prog G 141 [.row 5 1 n' (bytesF l')] [.c (.row 1 0 0 n'),.agg (encK u)] [.c (.row 1 1 0 (n'+(putB (t.kids.getD i .nil)).length))] [(1,.row 5 1 (n'+(putB (t.kids.getD i .nil)).length) (bytesF (l'++putB (t.kids.getD i .nil))))]) :
  FnB Tryz.prog G 141 [.row 5 1 n (bytesF l)] [.c (.row 1 0 0 n),.agg (encK x)] [.c (.row 1 1 0 (n+(putB t).length))] [(1,.row 5 1 (n+(putB t).length) (bytesF (l++putB t)))]:=by
 refine zf Tryz.func141 ?_
 obtain ⟨a1,a2,a3,a4,a5⟩:=(Rep_eq t x).1 hx
 have hB:=putB_eq t
 rw [← a1,← a2,← a3] at hB
 have hlen:(putB t).length=1+(bodyB x.k x.n x.s).length+(putL t.kids).length:=by rw [hB,List.length_cons,List.length_append];omega
 have e1:BlkEqv (.row 5 1 (n+1) (catF n (bytesF l) (fun i j=>nthD [.int .u8 (IntKind.u8.wrap x.k)] ((0+i)*1+j)))) (.row 5 1 (n+1) (bytesF (l++[kindU x.k]))):=by
  rw [u8_wrap x.k];exact bytes_app l [kindU x.k] hn
 have q1:n+1=(l++[kindU x.k]).length:=by simp [hn]
 by_cases h1:x.k=1
 ·have hb:bodyB x.k x.n x.s=numF (x.s.length:Int) 2 2++x.s:=by unfold bodyB;rw [if_pos h1]
  have hk0:t.kids=[]:=h12 (.inl oM)
  have hm0:x.m=0:=by rw [a4,hk0];rfl
  have hBB:l++putB t=(l++[kindU x.k])++numF (x.s.length:Int) 2 2++x.s:=by rw [hB,hb,hk0,putL];simp
  have hls:=hlen
  rw [hb,hk0,putL,List.length_append,numF_len] at hls
  have hls:(putB t).length=1+(2+x.s.length):=hls
  have c1:=numberP_ok (G:=G) (x.s.length:Int) 2 oM oM (n+1) (l++[kindU x.k]) q1 oM
  have q2:n+1+2=((l++[kindU x.k])++numF (x.s.length:Int) 2 2).length:=by rw [List.length_append,← q1,numF_len]
  have e2:=bytes_cat (e:=5) (n:=n+1+2+x.s.length) ((l++[kindU x.k])++numF (x.s.length:Int) 2 2) x.s q2
  have hk:(x.k==1)=true:=by simpa using h1
  have hfin:n+(putB t).length=n+1+2+x.s.length:=by omega
  have hnn:n+1+2+x.s.length≤500000:=by omega
  rw [hfin,hBB]
  clear ih hB hb hk0 hBB hlen hls hfin hm a5 h12
  refine zg [(1,{bs:=[(5,.row 5 1 (n+1) (bytesF (l++[kindU x.k])))]}),(4,{cs:=[(4,cb [113] c1)],bs:=[(7,.row 5 1 (n+1+2+x.s.length) (bytesF ((l++[kindU x.k])++numF (x.s.length:Int) 2 2++x.s)))]})] [true] [(n+1)*1≤140737488355328,BlkEqv (.row 5 (1:Nat) (n+(1:Nat)) (catF n (bytesF l) fun i j=>nthD [.int .u8 (IntKind.u8.wrap x.k)] (((0:Nat)+i)*(1:Nat)+j))) (.row 5 (1:Nat) (n+(1:Nat)) (bytesF (l++[kindU x.k]))),n≤n,0+1≤1,(x.k==(1:Int))=true,(n+1+2+x.s.length)*1≤140737488355328,BlkEqv (.row 5 (1:Nat) (n+(1:Nat)+(2:Nat)+x.s.length) (catF (n+(1:Nat)+(2:Nat)) (bytesF (l++[kindU x.k]++numF (x.s.length:Int) (2:Nat) (2:Nat))) fun (i x_1:Nat) => .int .u8 (↑(x.s.getD i (0:UInt8)).toNat:Int))) (.row 5 (1:Nat) (n+(1:Nat)+(2:Nat)+x.s.length) (bytesF (l++[kindU x.k]++numF (x.s.length:Int) (2:Nat) (2:Nat)++x.s))),n+1+2≤n+1+2] ⟨oM,aS,oM,oM,aS,oM,aS,(show n+(1:Nat)+(2:Nat)≤n+(1:Nat)+(2:Nat) from oM)⟩ ?_
  refine Wp.unrK kR 1 (fun UL0 uUL0 => ?_)
  refine zg [(1,{bs:=[(5,.row 5 1 (n+1) (bytesF (l++[kindU x.k])))]}),(4,{bs:=[(7,.row 5 1 (n+1+2+x.s.length) (bytesF ((l++[kindU x.k])++numF (x.s.length:Int) 2 2++x.s)))]})] [false] [decide (0<(x.m:Int))=false] (oN sO) ?_
  exact zb [321]
 have hk:(x.k==1)=false:=by simpa using h1
 by_cases h2:x.k=2
 ·have hb:bodyB x.k x.n x.s=numF x.n 4 4:=by unfold bodyB;rw [if_neg h1,if_pos h2]
  have hk0:t.kids=[]:=h12 (.inr oM)
  have hm0:x.m=0:=by rw [a4,hk0];rfl
  have hBB:l++putB t=(l++[kindU x.k])++numF x.n 4 4:=by rw [hB,hb,hk0,putL];simp
  have hls:=hlen
  rw [hb,hk0,putL,numF_len] at hls
  have hls:(putB t).length=1+4:=hls
  have c1:=numberP_ok (G:=G) x.n 4 oM oM (n+1) (l++[kindU x.k]) q1 oM
  have hk2:(x.k==2)=true:=by simpa using h2
  have hfin:n+(putB t).length=n+1+4:=by omega
  have hnn:n+5≤500000:=by omega
  rw [hfin,hBB]
  clear ih hB hb hk0 hBB hlen hls hfin hm a5 h12
  refine zg [(1,{bs:=[(5,.row 5 1 (n+1) (bytesF (l++[kindU x.k])))]}),(6,{cs:=[(3,cb [113] c1)]})] [false,true] [(n+1)*1≤140737488355328,BlkEqv (.row 5 (1:Nat) (n+(1:Nat)) (catF n (bytesF l) fun i j=>nthD [.int .u8 (IntKind.u8.wrap x.k)] (((0:Nat)+i)*(1:Nat)+j))) (.row 5 (1:Nat) (n+(1:Nat)) (bytesF (l++[kindU x.k]))),n≤n,0+1≤1,(x.k==(1:Int))=false,(x.k==(2:Int))=true] ⟨oM,aS,oM,oM,aS,(show (x.k==(2:Int))=true from aS)⟩ ?_
  refine Wp.unrK kR 1 (fun UL0 uUL0 => ?_)
  refine zg [(1,{bs:=[(5,.row 5 1 (n+1) (bytesF (l++[kindU x.k])))]})] [false] [decide (0<(x.m:Int))=false] (oN sO) ?_
  exact zb [289]
 have hk2:(x.k==2)=false:=by simpa using h2
 have hb:bodyB x.k x.n x.s=[]:=by unfold bodyB;rw [if_neg h1,if_neg h2]
 have hBB:l++putB t=(l++[kindU x.k])++putL t.kids:=by rw [hB,hb];simp
 rw [hb] at hlen
 have hfin:n+(putB t).length=n+1+(putL t.kids).length:=by have h:=hlen;simp only [List.length_nil] at h;omega
 rw [hfin,hBB]
 rw [hfin] at hm
 clear hB hb hBB hlen hfin h1 h2 h12
 refine zg [(1,{bs:=[(5,.row 5 1 (n+1) (bytesF (l++[kindU x.k])))]})] [false,false] [(n+1)*1≤140737488355328,BlkEqv (.row 5 (1:Nat) (n+(1:Nat)) (catF n (bytesF l) fun i j=>nthD [.int .u8 (IntKind.u8.wrap x.k)] (((0:Nat)+i)*(1:Nat)+j))) (.row 5 (1:Nat) (n+(1:Nat)) (bytesF (l++[kindU x.k]))),n≤n,0+1≤1,(x.k==(1:Int))=false,(x.k==(2:Int))=false] ⟨oM,aS,oM,oM,aS,(show (x.k==(2:Int))=false from aS)⟩ ?_
 refine zl (fun (k:Nat)=>⟨[(0,.v (.c (.row 1 113 0 (putC (n+1) t.kids k)))),(32,.v (.c (.sl 4 x.m x.f))),(33,.v (.c (.int .i64 (x.m:Int)))),(34,.v (.c (.int .i64 (k:Int))))],[(1,.box 64 (encK x)),(113,.row 5 1 (putC (n+1) t.kids k) (bytesF (putS (l++[kindU x.k]) t.kids k)))],305⟩) (fun k=>k≤t.kids.length) (fun k=>t.kids.length-k) 0 (Nat.zero_le _) ?_
 rintro k W hk' again
 rcases Nat.lt_or_ge k t.kids.length with hi | hi
 ·obtain ⟨u,u1,u2⟩:=RepL_at a5 k hi
  rw [Nat.zero_add] at u1
  have hle:=putL_at hi
  have hC:=putC_eq (n+1) t.kids k hk'
  have hS:=putS_eq (l++[kindU x.k]) t.kids k hk'
  have q3:putC (n+1) t.kids k=(putS (l++[kindU x.k]) t.kids k).length:=by rw [hC,hS,List.length_append,← q1]
  have c5:=ih k hi u _ _ q3 oM u2
  have e5:EqvD (.agg [x.f k 0,x.f k 1,x.f k 2,x.f k 3]) (.agg (encK u)):=eqvD_of (by rw [u1])
  rw [putC_succ,putS_succ] at c5
  clear ih a5 u1 u2 hC hS q3 e1
  refine zg [(9,{fm:=[(1,.agg (encK u))]}),(10,{cs:=[(2,cb [113] c5)]})] [true] [decide ((k:Int)<(x.m:Int))=true,(0:Int)≤(k:Int)∧(k:Int)<(x.m:Int),EqvD (.agg [x.f k 0,x.f k (0+1),x.f k (0+1+1),x.f k (0+1+1+1)]) (.agg (encK u)),inR .i64 ((k:Int)+1)] ⟨sO,oM,aS,i6⟩ ?_
  exact za [(113,417)] (again _ (k+1) aS oM)
 ·obtain rfl:k=t.kids.length:=by omega
  have hC:=putC_eq (n+1) t.kids t.kids.length hk'
  have hS:=putS_eq (l++[kindU x.k]) t.kids t.kids.length hk'
  rw [List.take_length] at hC hS
  rw [hC,hS]
  clear ih a5 again e1 hC hS
  refine zg [] [false] [decide ((t.kids.length:Int)<(x.m:Int))=false] (oN sO) ?_
  exact zb [113]
theorem putsP_nil (t:TT) (x:KT) (hx:Rep t x) (h12:t.k=1∨t.k=2→t.kids=[]) (hkl:t.kids.length≤1000000) (hm:(putB t).length≤400000)
  (ih:∀ i,i<t.kids.length→∀ u n' l',n'=l'.length→n'+(putB (t.kids.getD i .nil)).length≤500000→Rep (t.kids.getD i .nil) u→FnB Tryz.prog G 141 [.row 5 1 n' (bytesF l')] [.c (.row 1 0 0 n'),.agg (encK u)] [.c (.row 1 1 0 (n'+(putB (t.kids.getD i .nil)).length))] [(1,.row 5 1 (n'+(putB (t.kids.getD i .nil)).length) (bytesF (l'++putB (t.kids.getD i .nil))))]) :
  FnB Tryz.prog G 141 [] [.c .nilsl,.agg (encK x)] [.c (.row 1 0 0 (putB t).length)] [(0,.row 5 1 (putB t).length (bytesF (putB t)))]:=by
 refine zf Tryz.func141 ?_
 obtain ⟨a1,a2,a3,a4,a5⟩:=(Rep_eq t x).1 hx
 have hB:=putB_eq t
 rw [← a1,← a2,← a3] at hB
 have hlen:(putB t).length=1+(bodyB x.k x.n x.s).length+(putL t.kids).length:=by rw [hB,List.length_cons,List.length_append];omega
 have e1:BlkEqv (.row 5 1 1 (fun i j=>nthD [.int .u8 (IntKind.u8.wrap x.k)] ((0+i)*1+j))) (.row 5 1 1 (bytesF [kindU x.k])):=by
  simp only [Nat.zero_add];exact one_row x.k (u8_wrap x.k)
 have q1:1=[kindU x.k].length:=by simp
 by_cases h1:x.k=1
 ·have hb:bodyB x.k x.n x.s=numF (x.s.length:Int) 2 2++x.s:=by unfold bodyB;rw [if_pos h1]
  have hk0:t.kids=[]:=h12 (.inl oM)
  have hm0:x.m=0:=by rw [a4,hk0];rfl
  have hBB:putB t=[kindU x.k]++numF (x.s.length:Int) 2 2++x.s:=by rw [hB,hb,hk0,putL];simp
  have hls:=hlen
  rw [hb,hk0,putL,List.length_append,numF_len] at hls
  have hls:(putB t).length=1+(2+x.s.length):=hls
  have c1:=numberP_ok (G:=G) (x.s.length:Int) 2 oM oM 1 [kindU x.k] q1 oM
  have q2:1+2=([kindU x.k]++numF (x.s.length:Int) 2 2).length:=by rw [List.length_append,← q1,numF_len]
  have e2:=bytes_cat (e:=5) (n:=1+2+x.s.length) ([kindU x.k]++numF (x.s.length:Int) 2 2) x.s q2
  have hk:(x.k==1)=true:=by simpa using h1
  have hfin:(putB t).length=1+2+x.s.length:=by omega
  have hnn:1+2+x.s.length≤500000:=by omega
  rw [hfin,hBB]
  clear ih hB hb hk0 hBB hlen hls hfin hm a5 h12
  refine zg [(1,{bs:=[(5,.row 5 1 1 (bytesF [kindU x.k]))]}),(4,{cs:=[(4,cb [112] c1)],bs:=[(7,.row 5 1 (1+2+x.s.length) (bytesF ([kindU x.k]++numF (x.s.length:Int) 2 2++x.s)))]})] [true] [1≤140737488355328,BlkEqv (.row 5 (1:Nat) (1:Nat) (catF (0:Nat) (fun (x x_1:Nat) => .nilif) fun i j=>nthD [.int .u8 (IntKind.u8.wrap x.k)] (((0:Nat)+i)*(1:Nat)+j))) (.row 5 (1:Nat) (1:Nat) (bytesF [kindU x.k])),0+1≤1,(x.k==(1:Int))=true,(1+2+x.s.length)*1≤140737488355328,BlkEqv (.row 5 (1:Nat) ((1:Nat)+(2:Nat)+x.s.length) (catF ((1:Nat)+(2:Nat)) (bytesF ([kindU x.k]++numF (x.s.length:Int) (2:Nat) (2:Nat))) fun (i x_1:Nat) => .int .u8 (↑(x.s.getD i (0:UInt8)).toNat:Int))) (.row 5 (1:Nat) ((1:Nat)+(2:Nat)+x.s.length) (bytesF ([kindU x.k]++numF (x.s.length:Int) (2:Nat) (2:Nat)++x.s))),1+2≤1+2] ⟨oM,aS,oM,aS,oM,aS,(show (1:Nat)+(2:Nat)≤(1:Nat)+(2:Nat) from oM)⟩ ?_
  refine Wp.unrK kR 1 (fun UL0 uUL0 => ?_)
  refine zg [(1,{bs:=[(5,.row 5 1 1 (bytesF [kindU x.k]))]}),(4,{bs:=[(7,.row 5 1 (1+2+x.s.length) (bytesF ([kindU x.k]++numF (x.s.length:Int) 2 2++x.s)))]})] [false] [decide (0<(x.m:Int))=false] (oN sO) ?_
  exact zb [320]
 have hk:(x.k==1)=false:=by simpa using h1
 by_cases h2:x.k=2
 ·have hb:bodyB x.k x.n x.s=numF x.n 4 4:=by unfold bodyB;rw [if_neg h1,if_pos h2]
  have hk0:t.kids=[]:=h12 (.inr oM)
  have hm0:x.m=0:=by rw [a4,hk0];rfl
  have hBB:putB t=[kindU x.k]++numF x.n 4 4:=by rw [hB,hb,hk0,putL];simp
  have hls:=hlen
  rw [hb,hk0,putL,numF_len] at hls
  have hls:(putB t).length=1+4:=hls
  have c1:=numberP_ok (G:=G) x.n 4 oM oM 1 [kindU x.k] q1 oM
  have hk2:(x.k==2)=true:=by simpa using h2
  have hfin:(putB t).length=1+4:=by omega
  have hnn:5≤500000:=by omega
  rw [hfin,hBB]
  clear ih hB hb hk0 hBB hlen hls hfin hm a5 h12
  refine zg [(1,{bs:=[(5,.row 5 1 1 (bytesF [kindU x.k]))]}),(6,{cs:=[(3,cb [112] c1)]})] [false,true] [1≤140737488355328,BlkEqv (.row 5 (1:Nat) (1:Nat) (catF (0:Nat) (fun (x x_1:Nat) => .nilif) fun i j=>nthD [.int .u8 (IntKind.u8.wrap x.k)] (((0:Nat)+i)*(1:Nat)+j))) (.row 5 (1:Nat) (1:Nat) (bytesF [kindU x.k])),0+1≤1,(x.k==(1:Int))=false,(x.k==(2:Int))=true] ⟨oM,aS,oM,aS,(show (x.k==(2:Int))=true from aS)⟩ ?_
  refine Wp.unrK kR 1 (fun UL0 uUL0 => ?_)
  refine zg [(1,{bs:=[(5,.row 5 1 1 (bytesF [kindU x.k]))]})] [false] [decide (0<(x.m:Int))=false] (oN sO) ?_
  exact zb [288]
 have hk2:(x.k==2)=false:=by simpa using h2
 have hb:bodyB x.k x.n x.s=[]:=by unfold bodyB;rw [if_neg h1,if_neg h2]
 have hBB:putB t=[kindU x.k]++putL t.kids:=by rw [hB,hb];simp
 rw [hb] at hlen
 have hfin:(putB t).length=1+(putL t.kids).length:=by have h:=hlen;simp only [List.length_nil] at h;omega
 rw [hfin,hBB]
 rw [hfin] at hm
 clear hB hb hBB hlen hfin h1 h2 h12
 refine zg [(1,{bs:=[(5,.row 5 1 1 (bytesF [kindU x.k]))]})] [false,false] [1≤140737488355328,BlkEqv (.row 5 (1:Nat) (1:Nat) (catF (0:Nat) (fun (x x_1:Nat) => .nilif) fun i j=>nthD [.int .u8 (IntKind.u8.wrap x.k)] (((0:Nat)+i)*(1:Nat)+j))) (.row 5 (1:Nat) (1:Nat) (bytesF [kindU x.k])),0+1≤1,(x.k==(1:Int))=false,(x.k==(2:Int))=false] ⟨oM,aS,oM,aS,(show (x.k==(2:Int))=false from aS)⟩ ?_
 refine zl (fun (k:Nat)=>⟨[(0,.v (.c (.row 1 112 0 (putC 1 t.kids k)))),(32,.v (.c (.sl 4 x.m x.f))),(33,.v (.c (.int .i64 (x.m:Int)))),(34,.v (.c (.int .i64 (k:Int))))],[(0,.box 64 (encK x)),(112,.row 5 1 (putC 1 t.kids k) (bytesF (putS [kindU x.k] t.kids k)))],304⟩) (fun k=>k≤t.kids.length) (fun k=>t.kids.length-k) 0 (Nat.zero_le _) ?_
 rintro k W hk' again
 rcases Nat.lt_or_ge k t.kids.length with hi | hi
 ·obtain ⟨u,u1,u2⟩:=RepL_at a5 k hi
  rw [Nat.zero_add] at u1
  have hle:=putL_at hi
  have hC:=putC_eq 1 t.kids k hk'
  have hS:=putS_eq [kindU x.k] t.kids k hk'
  have q3:putC 1 t.kids k=(putS [kindU x.k] t.kids k).length:=by rw [hC,hS,List.length_append,← q1]
  have c5:=ih k hi u _ _ q3 oM u2
  have e5:EqvD (.agg [x.f k 0,x.f k 1,x.f k 2,x.f k 3]) (.agg (encK u)):=eqvD_of (by rw [u1])
  rw [putC_succ,putS_succ] at c5
  clear ih a5 u1 u2 hC hS q3 e1
  refine zg [(9,{fm:=[(1,.agg (encK u))]}),(10,{cs:=[(2,cb [112] c5)]})] [true] [decide ((k:Int)<(x.m:Int))=true,(0:Int)≤(k:Int)∧(k:Int)<(x.m:Int),EqvD (.agg [x.f k 0,x.f k (0+1),x.f k (0+1+1),x.f k (0+1+1+1)]) (.agg (encK u)),inR .i64 ((k:Int)+1)] ⟨sO,oM,aS,i6⟩ ?_
  exact za [(112,416)] (again _ (k+1) aS oM)
 ·obtain rfl:k=t.kids.length:=by omega
  have hC:=putC_eq 1 t.kids t.kids.length hk'
  have hS:=putS_eq [kindU x.k] t.kids t.kids.length hk'
  rw [List.take_length] at hC hS
  rw [hC,hS]
  clear ih a5 again e1 hC hS
  refine zg [] [false] [decide ((t.kids.length:Int)<(x.m:Int))=false] (oN sO) ?_
  exact zb [112]
theorem putsR_row (t:TT) (x:KT) (hx:Rep t x) (h12:t.k=1∨t.k=2→t.kids=[]) (hkl:t.kids.length≤1000000) (n:Nat) (l:List UInt8) (hn:n=l.length) (hm:n+(putB t).length≤500000)
  (ih:∀ i,i<t.kids.length→∀ u n' l',n'=l'.length→n'+(putB (t.kids.getD i .nil)).length≤500000→Rep (t.kids.getD i .nil) u→FnB Tryz.prog G 134 [.row 5 1 n' (bytesF l')] [.c (.row 1 0 0 n'),.agg (encK u)] [.c (.row 1 1 0 (n'+(putB (t.kids.getD i .nil)).length))] [(1,.row 5 1 (n'+(putB (t.kids.getD i .nil)).length) (bytesF (l'++putB (t.kids.getD i .nil))))]) :
  FnB Tryz.prog G 134 [.row 5 1 n (bytesF l)] [.c (.row 1 0 0 n),.agg (encK x)] [.c (.row 1 1 0 (n+(putB t).length))] [(1,.row 5 1 (n+(putB t).length) (bytesF (l++putB t)))]:=by
 refine zf Tryz.func134 ?_
 obtain ⟨a1,a2,a3,a4,a5⟩:=(Rep_eq t x).1 hx
 have hB:=putB_eq t
 rw [← a1,← a2,← a3] at hB
 have hlen:(putB t).length=1+(bodyB x.k x.n x.s).length+(putL t.kids).length:=by rw [hB,List.length_cons,List.length_append];omega
 have e1:BlkEqv (.row 5 1 (n+1) (catF n (bytesF l) (fun i j=>nthD [.int .u8 (IntKind.u8.wrap x.k)] ((0+i)*1+j)))) (.row 5 1 (n+1) (bytesF (l++[kindU x.k]))):=by
  rw [u8_wrap x.k];exact bytes_app l [kindU x.k] hn
 have q1:n+1=(l++[kindU x.k]).length:=by simp [hn]
 by_cases h1:x.k=1
 ·have hb:bodyB x.k x.n x.s=numF (x.s.length:Int) 2 2++x.s:=by unfold bodyB;rw [if_pos h1]
  have hk0:t.kids=[]:=h12 (.inl oM)
  have hm0:x.m=0:=by rw [a4,hk0];rfl
  have hBB:l++putB t=(l++[kindU x.k])++numF (x.s.length:Int) 2 2++x.s:=by rw [hB,hb,hk0,putL];simp
  have hls:=hlen
  rw [hb,hk0,putL,List.length_append,numF_len] at hls
  have hls:(putB t).length=1+(2+x.s.length):=hls
  have c1:=numberR_ok (G:=G) (x.s.length:Int) 2 oM oM (n+1) (l++[kindU x.k]) q1 oM
  have q2:n+1+2=((l++[kindU x.k])++numF (x.s.length:Int) 2 2).length:=by rw [List.length_append,← q1,numF_len]
  have e2:=bytes_cat (e:=5) (n:=n+1+2+x.s.length) ((l++[kindU x.k])++numF (x.s.length:Int) 2 2) x.s q2
  have hk:(x.k==1)=true:=by simpa using h1
  have hfin:n+(putB t).length=n+1+2+x.s.length:=by omega
  have hnn:n+1+2+x.s.length≤500000:=by omega
  rw [hfin,hBB]
  clear ih hB hb hk0 hBB hlen hls hfin hm a5 h12
  refine zg [(1,{bs:=[(5,.row 5 1 (n+1) (bytesF (l++[kindU x.k])))]}),(4,{cs:=[(4,cb [113] c1)],bs:=[(7,.row 5 1 (n+1+2+x.s.length) (bytesF ((l++[kindU x.k])++numF (x.s.length:Int) 2 2++x.s)))]})] [true] [(n+1)*1≤140737488355328,BlkEqv (.row 5 (1:Nat) (n+(1:Nat)) (catF n (bytesF l) fun i j=>nthD [.int .u8 (IntKind.u8.wrap x.k)] (((0:Nat)+i)*(1:Nat)+j))) (.row 5 (1:Nat) (n+(1:Nat)) (bytesF (l++[kindU x.k]))),n≤n,0+1≤1,(x.k==(1:Int))=true,(n+1+2+x.s.length)*1≤140737488355328,BlkEqv (.row 5 (1:Nat) (n+(1:Nat)+(2:Nat)+x.s.length) (catF (n+(1:Nat)+(2:Nat)) (bytesF (l++[kindU x.k]++numF (x.s.length:Int) (2:Nat) (2:Nat))) fun (i x_1:Nat) => .int .u8 (↑(x.s.getD i (0:UInt8)).toNat:Int))) (.row 5 (1:Nat) (n+(1:Nat)+(2:Nat)+x.s.length) (bytesF (l++[kindU x.k]++numF (x.s.length:Int) (2:Nat) (2:Nat)++x.s))),n+1+2≤n+1+2] ⟨oM,aS,oM,oM,aS,oM,aS,(show n+(1:Nat)+(2:Nat)≤n+(1:Nat)+(2:Nat) from oM)⟩ ?_
  refine Wp.unrK kR 1 (fun UL0 uUL0 => ?_)
  refine zg [(1,{bs:=[(5,.row 5 1 (n+1) (bytesF (l++[kindU x.k])))]}),(4,{bs:=[(7,.row 5 1 (n+1+2+x.s.length) (bytesF ((l++[kindU x.k])++numF (x.s.length:Int) 2 2++x.s)))]})] [false] [decide (0<(x.m:Int))=false] (oN sO) ?_
  exact zb [321]
 have hk:(x.k==1)=false:=by simpa using h1
 by_cases h2:x.k=2
 ·have hb:bodyB x.k x.n x.s=numF x.n 4 4:=by unfold bodyB;rw [if_neg h1,if_pos h2]
  have hk0:t.kids=[]:=h12 (.inr oM)
  have hm0:x.m=0:=by rw [a4,hk0];rfl
  have hBB:l++putB t=(l++[kindU x.k])++numF x.n 4 4:=by rw [hB,hb,hk0,putL];simp
  have hls:=hlen
  rw [hb,hk0,putL,numF_len] at hls
  have hls:(putB t).length=1+4:=hls
  have c1:=numberR_ok (G:=G) x.n 4 oM oM (n+1) (l++[kindU x.k]) q1 oM
  have hk2:(x.k==2)=true:=by simpa using h2
  have hfin:n+(putB t).length=n+1+4:=by omega
  have hnn:n+5≤500000:=by omega
  rw [hfin,hBB]
  clear ih hB hb hk0 hBB hlen hls hfin hm a5 h12
  refine zg [(1,{bs:=[(5,.row 5 1 (n+1) (bytesF (l++[kindU x.k])))]}),(6,{cs:=[(3,cb [113] c1)]})] [false,true] [(n+1)*1≤140737488355328,BlkEqv (.row 5 (1:Nat) (n+(1:Nat)) (catF n (bytesF l) fun i j=>nthD [.int .u8 (IntKind.u8.wrap x.k)] (((0:Nat)+i)*(1:Nat)+j))) (.row 5 (1:Nat) (n+(1:Nat)) (bytesF (l++[kindU x.k]))),n≤n,0+1≤1,(x.k==(1:Int))=false,(x.k==(2:Int))=true] ⟨oM,aS,oM,oM,aS,(show (x.k==(2:Int))=true from aS)⟩ ?_
  refine Wp.unrK kR 1 (fun UL0 uUL0 => ?_)
  refine zg [(1,{bs:=[(5,.row 5 1 (n+1) (bytesF (l++[kindU x.k])))]})] [false] [decide (0<(x.m:Int))=false] (oN sO) ?_
  exact zb [289]
 have hk2:(x.k==2)=false:=by simpa using h2
 have hb:bodyB x.k x.n x.s=[]:=by unfold bodyB;rw [if_neg h1,if_neg h2]
 have hBB:l++putB t=(l++[kindU x.k])++putL t.kids:=by rw [hB,hb];simp
 rw [hb] at hlen
 have hfin:n+(putB t).length=n+1+(putL t.kids).length:=by have h:=hlen;simp only [List.length_nil] at h;omega
 rw [hfin,hBB]
 rw [hfin] at hm
 clear hB hb hBB hlen hfin h1 h2 h12
 refine zg [(1,{bs:=[(5,.row 5 1 (n+1) (bytesF (l++[kindU x.k])))]})] [false,false] [(n+1)*1≤140737488355328,BlkEqv (.row 5 (1:Nat) (n+(1:Nat)) (catF n (bytesF l) fun i j=>nthD [.int .u8 (IntKind.u8.wrap x.k)] (((0:Nat)+i)*(1:Nat)+j))) (.row 5 (1:Nat) (n+(1:Nat)) (bytesF (l++[kindU x.k]))),n≤n,0+1≤1,(x.k==(1:Int))=false,(x.k==(2:Int))=false] ⟨oM,aS,oM,oM,aS,(show (x.k==(2:Int))=false from aS)⟩ ?_
 refine zl (fun (k:Nat)=>⟨[(0,.v (.c (.row 1 113 0 (putC (n+1) t.kids k)))),(3,.v (.c (.ptr 1 0))),(5,.v (.c (.int .i64 (k:Int))))],[(1,.box 64 (encK x)),(113,.row 5 1 (putC (n+1) t.kids k) (bytesF (putS (l++[kindU x.k]) t.kids k)))],257⟩) (fun k=>k≤t.kids.length) (fun k=>t.kids.length-k) 0 (Nat.zero_le _) ?_
 rintro k W hk' again
 rcases Nat.lt_or_ge k t.kids.length with hi | hi
 ·obtain ⟨u,u1,u2⟩:=RepL_at a5 k hi
  rw [Nat.zero_add] at u1
  have hle:=putL_at hi
  have hC:=putC_eq (n+1) t.kids k hk'
  have hS:=putS_eq (l++[kindU x.k]) t.kids k hk'
  have q3:putC (n+1) t.kids k=(putS (l++[kindU x.k]) t.kids k).length:=by rw [hC,hS,List.length_append,← q1]
  have c5:=ih k hi u _ _ q3 oM u2
  have e5:EqvD (.agg [x.f k 0,x.f k 1,x.f k 2,x.f k 3]) (.agg (encK u)):=eqvD_of (by rw [u1])
  rw [putC_succ,putS_succ] at c5
  clear ih a5 u1 u2 hC hS q3 e1
  refine zg [(10,{cs:=[(6,cb [113] c5)],fm:=[(5,.agg (encK u))]})] [true] [decide ((k:Int)<(x.m:Int))=true,(0:Int)≤(k:Int)∧(k:Int)<(x.m:Int),EqvD (.agg [x.f k 0,x.f k (0+1),x.f k (0+1+1),x.f k (0+1+1+1)]) (.agg (encK u)),inR .i64 ((k:Int)+1)] ⟨sO,oM,aS,i6⟩ ?_
  exact za [(113,433)] (again _ (k+1) aS oM)
 ·obtain rfl:k=t.kids.length:=by omega
  have hC:=putC_eq (n+1) t.kids t.kids.length hk'
  have hS:=putS_eq (l++[kindU x.k]) t.kids t.kids.length hk'
  rw [List.take_length] at hC hS
  rw [hC,hS]
  clear ih a5 again e1 hC hS
  refine zg [] [false] [decide ((t.kids.length:Int)<(x.m:Int))=false] (oN sO) ?_
  exact zb [113]
theorem putsR_nil (t:TT) (x:KT) (hx:Rep t x) (h12:t.k=1∨t.k=2→t.kids=[]) (hkl:t.kids.length≤1000000) (hm:(putB t).length≤400000)
  (ih:∀ i,i<t.kids.length→∀ u n' l',n'=l'.length→n'+(putB (t.kids.getD i .nil)).length≤500000→Rep (t.kids.getD i .nil) u→FnB Tryz.prog G 134 [.row 5 1 n' (bytesF l')] [.c (.row 1 0 0 n'),.agg (encK u)] [.c (.row 1 1 0 (n'+(putB (t.kids.getD i .nil)).length))] [(1,.row 5 1 (n'+(putB (t.kids.getD i .nil)).length) (bytesF (l'++putB (t.kids.getD i .nil))))]) :
  FnB Tryz.prog G 134 [] [.c .nilsl,.agg (encK x)] [.c (.row 1 0 0 (putB t).length)] [(0,.row 5 1 (putB t).length (bytesF (putB t)))]:=by
 refine zf Tryz.func134 ?_
 obtain ⟨a1,a2,a3,a4,a5⟩:=(Rep_eq t x).1 hx
 have hB:=putB_eq t
 rw [← a1,← a2,← a3] at hB
 have hlen:(putB t).length=1+(bodyB x.k x.n x.s).length+(putL t.kids).length:=by rw [hB,List.length_cons,List.length_append];omega
 have e1:BlkEqv (.row 5 1 1 (fun i j=>nthD [.int .u8 (IntKind.u8.wrap x.k)] ((0+i)*1+j))) (.row 5 1 1 (bytesF [kindU x.k])):=by
  simp only [Nat.zero_add];exact one_row x.k (u8_wrap x.k)
 have q1:1=[kindU x.k].length:=by simp
 by_cases h1:x.k=1
 ·have hb:bodyB x.k x.n x.s=numF (x.s.length:Int) 2 2++x.s:=by unfold bodyB;rw [if_pos h1]
  have hk0:t.kids=[]:=h12 (.inl oM)
  have hm0:x.m=0:=by rw [a4,hk0];rfl
  have hBB:putB t=[kindU x.k]++numF (x.s.length:Int) 2 2++x.s:=by rw [hB,hb,hk0,putL];simp
  have hls:=hlen
  rw [hb,hk0,putL,List.length_append,numF_len] at hls
  have hls:(putB t).length=1+(2+x.s.length):=hls
  have c1:=numberR_ok (G:=G) (x.s.length:Int) 2 oM oM 1 [kindU x.k] q1 oM
  have q2:1+2=([kindU x.k]++numF (x.s.length:Int) 2 2).length:=by rw [List.length_append,← q1,numF_len]
  have e2:=bytes_cat (e:=5) (n:=1+2+x.s.length) ([kindU x.k]++numF (x.s.length:Int) 2 2) x.s q2
  have hk:(x.k==1)=true:=by simpa using h1
  have hfin:(putB t).length=1+2+x.s.length:=by omega
  have hnn:1+2+x.s.length≤500000:=by omega
  rw [hfin,hBB]
  clear ih hB hb hk0 hBB hlen hls hfin hm a5 h12
  refine zg [(1,{bs:=[(5,.row 5 1 1 (bytesF [kindU x.k]))]}),(4,{cs:=[(4,cb [112] c1)],bs:=[(7,.row 5 1 (1+2+x.s.length) (bytesF ([kindU x.k]++numF (x.s.length:Int) 2 2++x.s)))]})] [true] [1≤140737488355328,BlkEqv (.row 5 (1:Nat) (1:Nat) (catF (0:Nat) (fun (x x_1:Nat) => .nilif) fun i j=>nthD [.int .u8 (IntKind.u8.wrap x.k)] (((0:Nat)+i)*(1:Nat)+j))) (.row 5 (1:Nat) (1:Nat) (bytesF [kindU x.k])),0+1≤1,(x.k==(1:Int))=true,(1+2+x.s.length)*1≤140737488355328,BlkEqv (.row 5 (1:Nat) ((1:Nat)+(2:Nat)+x.s.length) (catF ((1:Nat)+(2:Nat)) (bytesF ([kindU x.k]++numF (x.s.length:Int) (2:Nat) (2:Nat))) fun (i x_1:Nat) => .int .u8 (↑(x.s.getD i (0:UInt8)).toNat:Int))) (.row 5 (1:Nat) ((1:Nat)+(2:Nat)+x.s.length) (bytesF ([kindU x.k]++numF (x.s.length:Int) (2:Nat) (2:Nat)++x.s))),1+2≤1+2] ⟨oM,aS,oM,aS,oM,aS,(show (1:Nat)+(2:Nat)≤(1:Nat)+(2:Nat) from oM)⟩ ?_
  refine Wp.unrK kR 1 (fun UL0 uUL0 => ?_)
  refine zg [(1,{bs:=[(5,.row 5 1 1 (bytesF [kindU x.k]))]}),(4,{bs:=[(7,.row 5 1 (1+2+x.s.length) (bytesF ([kindU x.k]++numF (x.s.length:Int) 2 2++x.s)))]})] [false] [decide (0<(x.m:Int))=false] (oN sO) ?_
  exact zb [320]
 have hk:(x.k==1)=false:=by simpa using h1
 by_cases h2:x.k=2
 ·have hb:bodyB x.k x.n x.s=numF x.n 4 4:=by unfold bodyB;rw [if_neg h1,if_pos h2]
  have hk0:t.kids=[]:=h12 (.inr oM)
  have hm0:x.m=0:=by rw [a4,hk0];rfl
  have hBB:putB t=[kindU x.k]++numF x.n 4 4:=by rw [hB,hb,hk0,putL];simp
  have hls:=hlen
  rw [hb,hk0,putL,numF_len] at hls
  have hls:(putB t).length=1+4:=hls
  have c1:=numberR_ok (G:=G) x.n 4 oM oM 1 [kindU x.k] q1 oM
  have hk2:(x.k==2)=true:=by simpa using h2
  have hfin:(putB t).length=1+4:=by omega
  have hnn:5≤500000:=by omega
  rw [hfin,hBB]
  clear ih hB hb hk0 hBB hlen hls hfin hm a5 h12
  refine zg [(1,{bs:=[(5,.row 5 1 1 (bytesF [kindU x.k]))]}),(6,{cs:=[(3,cb [112] c1)]})] [false,true] [1≤140737488355328,BlkEqv (.row 5 (1:Nat) (1:Nat) (catF (0:Nat) (fun (x x_1:Nat) => .nilif) fun i j=>nthD [.int .u8 (IntKind.u8.wrap x.k)] (((0:Nat)+i)*(1:Nat)+j))) (.row 5 (1:Nat) (1:Nat) (bytesF [kindU x.k])),0+1≤1,(x.k==(1:Int))=false,(x.k==(2:Int))=true] ⟨oM,aS,oM,aS,(show (x.k==(2:Int))=true from aS)⟩ ?_
  refine Wp.unrK kR 1 (fun UL0 uUL0 => ?_)
  refine zg [(1,{bs:=[(5,.row 5 1 1 (bytesF [kindU x.k]))]})] [false] [decide (0<(x.m:Int))=false] (oN sO) ?_
  exact zb [288]
 have hk2:(x.k==2)=false:=by simpa using h2
 have hb:bodyB x.k x.n x.s=[]:=by unfold bodyB;rw [if_neg h1,if_neg h2]
 have hBB:putB t=[kindU x.k]++putL t.kids:=by rw [hB,hb];simp
 rw [hb] at hlen
 have hfin:(putB t).length=1+(putL t.kids).length:=by have h:=hlen;simp only [List.length_nil] at h;omega
 rw [hfin,hBB]
 rw [hfin] at hm
 clear hB hb hBB hlen hfin h1 h2 h12
 refine zg [(1,{bs:=[(5,.row 5 1 1 (bytesF [kindU x.k]))]})] [false,false] [1≤140737488355328,BlkEqv (.row 5 (1:Nat) (1:Nat) (catF (0:Nat) (fun (x x_1:Nat) => .nilif) fun i j=>nthD [.int .u8 (IntKind.u8.wrap x.k)] (((0:Nat)+i)*(1:Nat)+j))) (.row 5 (1:Nat) (1:Nat) (bytesF [kindU x.k])),0+1≤1,(x.k==(1:Int))=false,(x.k==(2:Int))=false] ⟨oM,aS,oM,aS,(show (x.k==(2:Int))=false from aS)⟩ ?_
 refine zl (fun (k:Nat)=>⟨[(0,.v (.c (.row 1 112 0 (putC 1 t.kids k)))),(3,.v (.c (.ptr 0 0))),(5,.v (.c (.int .i64 (k:Int))))],[(0,.box 64 (encK x)),(112,.row 5 1 (putC 1 t.kids k) (bytesF (putS [kindU x.k] t.kids k)))],256⟩) (fun k=>k≤t.kids.length) (fun k=>t.kids.length-k) 0 (Nat.zero_le _) ?_
 rintro k W hk' again
 rcases Nat.lt_or_ge k t.kids.length with hi | hi
 ·obtain ⟨u,u1,u2⟩:=RepL_at a5 k hi
  rw [Nat.zero_add] at u1
  have hle:=putL_at hi
  have hC:=putC_eq 1 t.kids k hk'
  have hS:=putS_eq [kindU x.k] t.kids k hk'
  have q3:putC 1 t.kids k=(putS [kindU x.k] t.kids k).length:=by rw [hC,hS,List.length_append,← q1]
  have c5:=ih k hi u _ _ q3 oM u2
  have e5:EqvD (.agg [x.f k 0,x.f k 1,x.f k 2,x.f k 3]) (.agg (encK u)):=eqvD_of (by rw [u1])
  rw [putC_succ,putS_succ] at c5
  clear ih a5 u1 u2 hC hS q3 e1
  refine zg [(10,{cs:=[(6,cb [112] c5)],fm:=[(5,.agg (encK u))]})] [true] [decide ((k:Int)<(x.m:Int))=true,(0:Int)≤(k:Int)∧(k:Int)<(x.m:Int),EqvD (.agg [x.f k 0,x.f k (0+1),x.f k (0+1+1),x.f k (0+1+1+1)]) (.agg (encK u)),inR .i64 ((k:Int)+1)] ⟨sO,oM,aS,i6⟩ ?_
  exact za [(112,432)] (again _ (k+1) aS oM)
 ·obtain rfl:k=t.kids.length:=by omega
  have hC:=putC_eq 1 t.kids t.kids.length hk'
  have hS:=putS_eq [kindU x.k] t.kids t.kids.length hk'
  rw [List.take_length] at hC hS
  rw [hC,hS]
  clear ih a5 again e1 hC hS
  refine zg [] [false] [decide ((t.kids.length:Int)<(x.m:Int))=false] (oN sO) ?_
  exact zb [112]
theorem OkP.kid {t:TT} (h:OkP t) {i:Nat} (hi:i<t.kids.length):OkP (t.kids.getD i .nil):=by
 cases h with
 | mk _ h2=>exact h2 _ (by rw [List.getD_eq_getElem?_getD,List.getElem?_eq_getElem hi]; exact List.getElem_mem hi)
theorem OkP.no {t:TT} (h:OkP t):t.k=1∨t.k=2→t.kids=[]:=by cases h;assumption
theorem putsPr_ok {t:TT} (ht:LowR t):OkP t→∀ (x:KT) (n:Nat) (l:List UInt8),Rep t x→n=l.length→n+(putB t).length≤500000 →
  FnB Tryz.prog G 141 [.row 5 1 n (bytesF l)] [.c (.row 1 0 0 n),.agg (encK x)] [.c (.row 1 1 0 (n+(putB t).length))] [(1,.row 5 1 (n+(putB t).length) (bytesF (l++putB t)))]:=by
 induction ht with
 | @mk t h1 h2 ih =>
  intro ho x n l hx hn hm
  refine putsP_row t x hx ho.no h1 n l hn hm fun i hi u n' l' hn' hm' hu => ?_
  exact ih _ (by rw [List.getD_eq_getElem?_getD,List.getElem?_eq_getElem hi];exact List.getElem_mem hi) (ho.kid hi) u n' l' hu hn' hm'
theorem putsRr_ok {t:TT} (ht:LowR t):OkP t→∀ (x:KT) (n:Nat) (l:List UInt8),Rep t x→n=l.length→n+(putB t).length≤500000 →
  FnB Tryz.prog G 134 [.row 5 1 n (bytesF l)] [.c (.row 1 0 0 n),.agg (encK x)] [.c (.row 1 1 0 (n+(putB t).length))] [(1,.row 5 1 (n+(putB t).length) (bytesF (l++putB t)))]:=by
 induction ht with
 | @mk t h1 h2 ih =>
  intro ho x n l hx hn hm
  refine putsR_row t x hx ho.no h1 n l hn hm fun i hi u n' l' hn' hm' hu => ?_
  exact ih _ (by rw [List.getD_eq_getElem?_getD,List.getElem?_eq_getElem hi];exact List.getElem_mem hi) (ho.kid hi) u n' l' hu hn' hm'
theorem putsP_ok {t:TT} (ht:LowR t) (ho:OkP t) (x:KT) (hx:Rep t x) (hm:(putB t).length≤400000) :
  FnB Tryz.prog G 141 [] [.c .nilsl,.agg (encK x)] [.c (.row 1 0 0 (putB t).length)] [(0,.row 5 1 (putB t).length (bytesF (putB t)))] :=
 putsP_nil t x hx ho.no ht.len hm fun i hi u n' l' hn' hm' hu=>putsPr_ok (ht.kid hi) (ho.kid hi) u n' l' hu hn' hm'
theorem putsR_ok {t:TT} (ht:LowR t) (ho:OkP t) (x:KT) (hx:Rep t x) (hm:(putB t).length≤400000) :
  FnB Tryz.prog G 134 [] [.c .nilsl,.agg (encK x)] [.c (.row 1 0 0 (putB t).length)] [(0,.row 5 1 (putB t).length (bytesF (putB t)))] :=
 putsR_nil t x hx ho.no ht.len hm fun i hi u n' l' hn' hm' hu=>putsRr_ok (ht.kid hi) (ho.kid hi) u n' l' hu hn' hm'
theorem right_kids {k n:Int} {s:List UInt8} {m:Int} (h:rightK k n s m=true):m=kidsI k∧(s=[]∨(k=1∧s.length≤1024)):=by
 unfold rightK at h
 by_cases h1:m=kidsI k
 ·refine ⟨h1,?_⟩
  by_cases h2:s=[]
  ·exact .inl h2
  ·right
   by_cases h3:k=1
   ·refine ⟨h3,?_⟩
    have e1:(m==kidsI k)=true:=by simpa using h1
    have e2:(s==[])=false:=by simpa using h2
    have e3:(k==1)=true:=by simpa using h3
    rw [e1,e2,e3] at h
    simp only [cond_true,cond_false] at h
    by_cases h4:s.length≤1024
    ·exact h4
    ·rw [show decide ((s.length:Int)≤1024)=false by simp;omega] at h
     simp at h
   ·have e2:(s==[])=false:=by simpa using h2
    have e3:(k==1)=false:=by simpa using h3
    rw [e2,e3] at h
    simp at h
 ·have e1:(m==kidsI k)=false:=by simpa using h1
  rw [e1] at h
  simp at h
theorem body_le {k n:Int} {s:List UInt8} (h:s=[]∨(k=1∧s.length≤1024)):(bodyB k n s).length≤1026:=by
 unfold bodyB
 split
 ·rw [List.length_append,numF_len]
  rcases h with rfl | h
  ·simp
  ·omega
 ·split
  ·rw [numF_len];omega
  ·simp
mutual
theorem walkM_ok:∀ (t:TT) (d c:Int),(walkM t d c).1=true→OkP t∧((putB t).length:Int)≤1027*((walkM t d c).2-c)
 | .mk k n s ks,d,c,h=>by
  rw [walkM] at h ⊢
  by_cases hs:stopW (.mk k n s ks) d (c+1)=true
  ·rw [if_pos hs] at h;cases h
  ·rw [if_neg hs] at h ⊢
   have h3:=(stop3 _ _ _ (by simpa using hs:stopW (.mk k n s ks) d (c+1)=false)).2.2
   have h4:rightK k n s (ks.length:Int)=true:=by
    cases e:rightK k n s (ks.length:Int) with
    | true=>rfl
    | false =>
     have h5:(!(rightK k n s (ks.length:Int)))=false:=h3
     rw [e] at h5;cases h5
   obtain ⟨r1,r2⟩:=right_kids h4
   obtain ⟨l1,l2⟩:=walkL_ok ks (d+1) (c+1) h
   refine ⟨.mk (fun hk => ?_) l1,?_⟩
   ·have hk:k=1∨k=2:=hk
    rw [show kidsI k=0 by unfold kidsI;rw [if_pos hk]] at r1
    show ks=[]
    exact List.length_eq_zero_iff.1 oM
   ·have hb:=body_le (n:=n) r2
    rw [putB,List.length_cons,List.length_append]
    omega
theorem walkL_ok:∀ (l:List TT) (d c:Int),(walkL l d c).1=true→(∀ x∈l,OkP x)∧((putL l).length:Int)≤1027*((walkL l d c).2-c)
 | [],d,c,h=>by
  rw [walkL,putL]
  exact ⟨fun x hx=>absurd hx (by simp),by show ((0:Nat):Int)≤1027*(c-c);omega⟩
 | x::r,d,c,h=>by
  rw [walkL] at h ⊢
  by_cases h1:(walkM x d c).1=true
  ·rw [if_pos h1] at h ⊢
   obtain ⟨a1,a2⟩:=walkM_ok x d c h1
   obtain ⟨b1,b2⟩:=walkL_ok r d _ h
   refine ⟨fun y hy => ?_,?_⟩
   ·rcases List.mem_cons.1 hy with rfl | hy
    ·exact a1
    ·exact b1 y hy
   ·rw [putL,List.length_append];omega
  ·rw [if_neg h1] at h;cases h
end
theorem may_okP {t:TT} (h:mayTT t=true):OkP t∧(putB t).length≤65728:=by
 obtain ⟨a,b⟩:=walkM_ok t 1 0 h
 have:=(walkM_rng t 1 0 oM oM).2.2 h
 exact ⟨a,by omega⟩
end Go.Proofs.Tw
end
section
open Go Go.Sv Go.RowKit
namespace Go.Proofs.Tw
set_option maxRecDepth 100000
set_option maxHeartbeats 4000000
theorem sgI_sgn6 (v:Int) (k:Nat):sgI (sgn6 v k)=six v k:=by
 have h:=six_rng v k
 unfold sgn6
 rw [sgI_at _ oM]
 omega
theorem sgI_sgn6_0 (v:Int) (k:Nat):0≤sgI (sgn6 v k):=by rw [sgI_sgn6];exact (six_rng v k).1
theorem u8I_eq (x:UInt8) {y:Int} (h:y=(x.toNat:Int)):u8I y=x:=by
 rw [h];unfold u8I;simp
theorem rd_enc:∀ b:List UInt8,rd8 (enc8 b) 0 0 []=some b
 | []=>rfl
 | [x]=>by
  have hx:=UInt8.toNat_lt x
  rw [enc8_one,sgs6_2,rd8_2 (sgI_sgn6_0 _ _) (sgI_sgn6_0 _ _)]
  unfold rd8
  simp only [sgI_sgn6,six0,six1,t0]
  rw [u8I_eq x oM]
 | [x,y]=>by
  have hx:=UInt8.toNat_lt x
  have hy:=UInt8.toNat_lt y
  rw [enc8_two,sgs6_3,rd8_3 (sgI_sgn6_0 _ _) (sgI_sgn6_0 _ _) (sgI_sgn6_0 _ _)]
  unfold rd8
  simp only [sgI_sgn6,six0,six1,six2,t0,t1]
  rw [u8I_eq x oM,u8I_eq y oM]
 | x::y::z::o=>by
  have hx:=UInt8.toNat_lt x
  have hy:=UInt8.toNat_lt y
  have hz:=UInt8.toNat_lt z
  rw [enc8_step,sgs6_4]
  simp only [List.cons_append,List.nil_append]
  rw [rd8_4 (sgI_sgn6_0 _ _) (sgI_sgn6_0 _ _) (sgI_sgn6_0 _ _) (sgI_sgn6_0 _ _),rd8_acc,rd_enc o]
  simp only [sgI_sgn6,six0,six1,six2,six3,t0,t1,t2,w3]
  rw [u8I_eq x oM,u8I_eq y oM,u8I_eq z oM]
  rfl
theorem dec_enc (b:List UInt8):dec8 (enc8 b)=some b:=by
 unfold dec8
 rw [rd_enc]
 exact if_pos rfl
theorem enc_inj {a b:List UInt8} (h:enc8 a=enc8 b):a=b:=by
 have:=dec_enc a
 rw [h,dec_enc b] at this
 exact (Option.some.inj this).symm
theorem sgs6_sgn (v:Int):∀ n,∀ c∈sgs6 v n,0≤sgI c
 | 0,c,h=>by simp [sgs6] at h
 | n+1,c,h=>by
  rw [sgs6] at h
  rcases List.mem_append.1 h with h | h
  ·exact sgs6_sgn v n c h
  ·rw [List.mem_singleton.1 h];exact sgI_sgn6_0 _ _
theorem encG_sgn (b:List UInt8):∀ g,∀ c∈encG b g,0≤sgI c
 | 0,c,h=>by simp [encG] at h
 | g+1,c,h=>by
  rw [encG] at h
  rcases List.mem_append.1 h with h | h
  ·exact encG_sgn b g c h
  ·exact sgs6_sgn _ _ c h
theorem enc8_sgn (b:List UInt8):∀ c∈enc8 b,0≤sgI c:=encG_sgn b _
end Go.Proofs.Tw
end
section
open Go Go.Sv Go.RowKit
namespace Go.Proofs.Tw
set_option maxRecDepth 100000
set_option maxHeartbeats 4000000
theorem byteS_nat (v:Int) (k:Nat) (h:0≤v):((byteS v k).toNat:Int)=v / 2^k%256:=by
 unfold byteS
 rw [fdiv_is v k h,wrap_mod]
 have:0≤v / 2^k%256∧v / 2^k%256<256:=by omega
 rw [u8_of this]
theorem get_mid (pre m post:List UInt8) (i:Nat) (h:i<m.length):(pre++(m++post)).getD (pre.length+i) 0=m.getD i 0:=by
 rw [List.getD_eq_getElem?_getD,List.getElem?_append_right oM,show pre.length+i-pre.length=i by omega,List.getElem?_append_left h,List.getD_eq_getElem?_getD]
theorem beN_two (pre post:List UInt8) (v:Int) (h:0≤v∧v<65536):beN (pre++(numF v 2 2++post)) pre.length 2=v:=by
 have e:numF v 2 2=[byteS v 8,byteS v 0]:=rfl
 have g0:=get_mid pre (numF v 2 2) post 0 (by rw [numF_len];omega)
 have g1:=get_mid pre (numF v 2 2) post 1 (by rw [numF_len];omega)
 simp only [beN]
 rw [g0,g1,e]
 show (0*256+((byteS v 8).toNat:Int))*256+((byteS v 0).toNat:Int)=v
 rw [byteS_nat v 8 h.1,byteS_nat v 0 h.1]
 simp only [show (2:Int)^8=256 from rfl,show (2:Int)^0=1 from rfl]
 omega
theorem beN_four (pre post:List UInt8) (v:Int) (h:0≤v∧v<4294967296):beN (pre++(numF v 4 4++post)) pre.length 4=v:=by
 have e:numF v 4 4=[byteS v 24,byteS v 16,byteS v 8,byteS v 0]:=rfl
 have g0:=get_mid pre (numF v 4 4) post 0 (by rw [numF_len];omega)
 have g1:=get_mid pre (numF v 4 4) post 1 (by rw [numF_len];omega)
 have g2:=get_mid pre (numF v 4 4) post 2 (by rw [numF_len];omega)
 have g3:=get_mid pre (numF v 4 4) post 3 (by rw [numF_len];omega)
 simp only [beN]
 rw [g0,g1,g2,g3,e]
 show (((0*256+((byteS v 24).toNat:Int))*256+((byteS v 16).toNat:Int))*256+((byteS v 8).toNat:Int))*256+((byteS v 0).toNat:Int)=v
 rw [byteS_nat v 24 h.1,byteS_nat v 16 h.1,byteS_nat v 8 h.1,byteS_nat v 0 h.1]
 simp only [show (2:Int)^24=16777216 from rfl,show (2:Int)^16=65536 from rfl,show (2:Int)^8=256 from rfl,show (2:Int)^0=1 from rfl]
 omega
theorem right_iff {k n:Int} {s:List UInt8} {m:Int} (h:rightK k n s m=true):m=kidsI k∧(s=[]∨(k=1∧s.length≤1024))∧(n=0∨(k=2∧0<n∧n≤1073741824)):=by
 have h0:=right_kids h
 refine ⟨h0.1,h0.2,?_⟩
 unfold rightK at h
 by_cases hn:n=0
 ·exact .inl hn
 ·have e:(n==0)=false:=by simpa using hn
  rw [e] at h
  cases h1:(bif m==kidsI k then (bif s==[] then true else bif k==1 then decide ((s.length:Int)≤1024) else false) else false) with
  | false=>rw [h1] at h; cases h
  | true =>
   rw [h1] at h
   by_cases h2:k=2
   ·subst h2
    by_cases h3:n>0
    ·simp [h3] at h;exact .inr ⟨rfl,h3,h⟩
    ·simp [h3] at h
   ·simp [h2] at h
theorem kindU_nat {k:Int} (h:0≤k∧k≤7):(kindU k).toNat=k.toNat:=by
 unfold kindU
 rw [wrap_mod]
 have:=u8_of (x:=k%256) oM
 omega
theorem kidsI_rng {k:Int} (h:0≤kidsI k):(1≤k∧k≤7):=by
 unfold kidsI at h
 split at h
 ·omega
 ·split at h
  ·omega
  ·split at h<;>omega
theorem stopW_no {t:TT} {d c:Int} (h:stopW t d c=false):c≤64∧d≤16∧rightK t.k t.n t.s (t.kids.length:Int)=true:=by
 have h3:=stop3 _ _ _ (show (bif bif decide (c>64) then true else decide (d>16) then true else !(rightK t.k t.n t.s (t.kids.length:Int)))=false from h)
 have h1:=h3.1
 have h2:=h3.2.1
 have h4:=h3.2.2
 simp at h1 h2 h4
 exact ⟨h1,h2,h4⟩
def Took (t:TT) (d c:Int):Prop:=(walkM t d c).1=true→0≤c→1≤d→∀ (pre post:List UInt8) (f left:Nat),(f:Int)=17-d→(left:Int)=64-c →
 ∃ (tm:Tm) (l2:Nat),toT tm=t∧(l2:Int)=64-(walkM t d c).2∧rdT (pre++(putB t++post)) f pre.length left=some (tm,pre.length+(putB t).length,l2)
theorem took:∀ (t:TT) (d c:Int),Took t d c
 | .mk k n s ks,d,c=>by
  intro hw h0 hd pre post f left hf hl
  rw [walkM] at hw ⊢
  by_cases hs:stopW (.mk k n s ks) d (c+1)=true
  ·rw [if_pos hs] at hw;cases hw
  rw [if_neg hs] at hw ⊢
  obtain ⟨hc,hd2,hr⟩:=stopW_no (by simpa using hs)
  have hr:rightK k n s (ks.length:Int)=true:=hr
  obtain ⟨r1,r2,r3⟩:=right_iff hr
  obtain ⟨f,rfl⟩:∃ f',f=f'+1:=⟨f-1,by omega⟩
  have hk:=kidsI_rng (k:=k) oM
  have hkn:=kindU_nat (k:=k) oM
  have hb0:(pre++(putB (.mk k n s ks)++post)).getD pre.length 0=kindU k:=by
   have:=get_mid pre (putB (.mk k n s ks)) post 0 (by rw [putB];simp)
   rw [Nat.add_zero] at this
   rw [this,putB];rfl
  have hlen:¬ (pre++(putB (.mk k n s ks)++post)).length≤pre.length:=by rw [putB];simp
  rw [rdT,if_neg oM,if_neg hlen,hb0,hkn]
  have hB:pre++(putB (.mk k n s ks)++post)=(pre++[kindU k])++((bodyB k n s++putL ks)++post):=by rw [putB];simp
  have hP:pre.length+1=(pre++[kindU k]).length:=by simp
  have hL:(putB (.mk k n s ks)).length=1+(bodyB k n s).length+(putL ks).length:=by rw [putB];simp;omega
  rw [hB,hL]
  by_cases k1:k=1
  ·subst k1
   have hks:ks=[]:=List.length_eq_zero_iff.1 (by have:kidsI 1=0:=rfl;omega)
   subst hks
   have hn:n=0:=by omega
   have hs2:s.length≤1024:=by rcases r2 with rfl | h<;>simp_all
   have hbd:bodyB 1 n s=numF (s.length:Int) 2 2++s:=rfl
   have hv:=beN_two (pre++[kindU 1]) (s++post) (s.length:Int) oM
   have hpl:putL []=[]:=by rw [putL]
   rw [if_pos (show (1:Int).toNat=1 from rfl),hbd,hpl,hP]
   simp only [List.append_nil,List.append_assoc] at hv ⊢
   rw [hv]
   rw [if_neg (by simp [numF_len]<;>omega),if_neg oM,if_neg (by simp [numF_len]<;>omega)]
   refine ⟨.at_ s,left-1,by rw [toT,hn],by rw [walkL];show _=64-(c+1);omega,?_⟩
   have hd3:List.drop ((pre++[kindU 1]).length+2) (pre++([kindU 1]++(numF (s.length:Int) 2 2++(s++post))))=s++post:=by
    rw [show pre++([kindU 1]++(numF (s.length:Int) 2 2++(s++post)))=(pre++[kindU 1]++numF (s.length:Int) 2 2)++(s++post) by simp]
    exact List.drop_left' (by simp [numF_len]<;>omega)
   rw [hd3,show ((s.length:Int)).toNat=s.length by omega,List.take_left']
   ·congr 2
    simp [numF_len];omega
   ·rfl
  by_cases k2:k=2
  ·subst k2
   have hks:ks=[]:=List.length_eq_zero_iff.1 (by have:kidsI 2=0:=rfl;omega)
   subst hks
   have hs2:s=[]:=by rcases r2 with h | h;exact h;omega
   subst hs2
   have hbd:bodyB 2 n []=numF n 4 4:=rfl
   have hv:=beN_four (pre++[kindU 2]) post n oM
   have hpl:putL []=[]:=by rw [putL]
   rw [if_neg dC,if_pos (show (2:Int).toNat=2 from rfl),hbd,hpl,hP]
   simp only [List.append_nil,List.append_assoc] at hv ⊢
   rw [hv]
   rw [if_neg (by simp [numF_len]<;>omega),if_neg oM]
   refine ⟨.no n.toNat,left-1,by rw [toT,show ((n.toNat:Nat):Int)=n by omega],by rw [walkL];show _=64-(c+1);omega,?_⟩
   congr 2
   simp [numF_len]<;>omega
  have hbd:bodyB k n s=[]:=by unfold bodyB;rw [if_neg k1,if_neg k2]
  have hn:n=0:=by omega
  have hs2:s=[]:=by rcases r2 with h | h;exact h;omega
  subst hs2
  rw [if_neg oM,if_neg oM,hbd,hP]
  simp only [List.nil_append,List.length_nil,Nat.add_zero]
  by_cases k34:k=3∨k=4
  ·have hkk:kidsI k=1:=by rcases k34 with rfl | rfl<;>rfl
   rw [hkk] at r1
   obtain ⟨x,rfl⟩:∃ x,ks=[x]:=List.length_eq_one_iff.1 oM
   have hpl:putL [x]=putB x:=by rw [putL,putL,List.append_nil]
   rw [walkL] at hw ⊢
   by_cases hx:(walkM x (d+1) (c+1)).1=true
   ·rw [if_pos hx,walkL] at hw ⊢
    obtain ⟨tm,l2,e1,e2,e3⟩:=took x (d+1) (c+1) hx oM oM (pre++[kindU k]) post f (left-1) oM oM
    rw [if_pos oM,hpl,e3]
    refine ⟨.one ((k.toNat:Nat):Int) tm,l2,by rw [toT,e1,hn,show ((k.toNat:Nat):Int)=k by omega],e2,?_⟩
    simp only [Option.some.injEq,Prod.mk.injEq,true_and,and_true]
    simp;omega
   ·rw [if_neg hx] at hw;cases hw
  have hkk:kidsI k=2:=by unfold kidsI;rw [if_neg oM,if_neg k34,if_pos oM]
  rw [hkk] at r1
  obtain ⟨x,y,rfl⟩:∃ x y,ks=[x,y]:=(by match ks,r1 with | [x,y],_=>exact ⟨x,y,rfl⟩ | [],h=>simp at h | [_],h=>simp at h | _::_::_::_,h=>simp at h;omega)
  have hpl:putL [x,y]=putB x++putB y:=by rw [putL,putL,putL,List.append_nil]
  rw [walkL] at hw ⊢
  by_cases hx:(walkM x (d+1) (c+1)).1=true
  ·rw [if_pos hx,walkL] at hw ⊢
   have hrx:=(walkM_rng x (d+1) (c+1) oM hc).2.2 hx
   have hrx0:=(walkM_rng x (d+1) (c+1) oM hc).1
   by_cases hy:(walkM y (d+1) (walkM x (d+1) (c+1)).2).1=true
   ·rw [if_pos hy,walkL] at hw ⊢
    obtain ⟨tm,l2,e1,e2,e3⟩:=took x (d+1) (c+1) hx oM oM (pre++[kindU k]) (putB y++post) f (left-1) oM oM
    obtain ⟨tn,l3,f1,f2,f3⟩:=took y (d+1) (walkM x (d+1) (c+1)).2 hy oM oM (pre++[kindU k]++putB x) post f l2 oM oM
    rw [if_neg oM,if_pos oM,hpl]
    have q1:pre++[kindU k]++(putB x++putB y++post)=pre++[kindU k]++(putB x++(putB y++post)):=by simp
    have q2:pre++[kindU k]++(putB x++(putB y++post))=pre++[kindU k]++putB x++(putB y++post):=by simp
    rw [q1,e3]
    have q3:(pre++[kindU k]).length+(putB x).length=(pre++[kindU k]++putB x).length:=by simp<;>omega
    simp only []
    rw [q3,q2,f3]
    refine ⟨.two ((k.toNat:Nat):Int) tm tn,l3,by rw [toT,e1,f1,hn,show ((k.toNat:Nat):Int)=k by omega],f2,?_⟩
    simp only [Option.some.injEq,Prod.mk.injEq,true_and,and_true]
    simp;omega
   ·rw [if_neg hy] at hw;cases hw
  ·rw [if_neg hx] at hw;cases hw
theorem one_put {t:TT} (h:mayTT t=true):∃ tm,toT tm=t∧oneT (putB t)=some tm:=by
 obtain ⟨tm,l2,e1,e2,e3⟩:=took t 1 0 h oM oM [] [] 16 64 oM oM
 simp only [List.nil_append,List.append_nil,List.length_nil,Nat.zero_add] at e3
 refine ⟨tm,e1,?_⟩
 unfold oneT
 rw [e3]
 simp
theorem toT_inj:∀ {a b:Tm},toT a=toT b→a=b
 | .at_ s,.at_ t,h=>by rw [toT,toT] at h; injection h with _ _ h; rw [h]
 | .no n,.no m,h=>by rw [toT,toT] at h; injection h with _ h; rw [Int.ofNat.inj h]
 | .one k t,.one j u,h=>by
  rw [toT,toT] at h;injection h with h1 _ _ h2;injection h2 with h2
  rw [h1,toT_inj h2]
 | .two k t x,.two j u y,h=>by
  rw [toT,toT] at h;injection h with h1 _ _ h2;injection h2 with h2 h3;injection h3 with h3
  rw [h1,toT_inj h2,toT_inj h3]
 | .at_ s,.no _,h=>by rw [toT,toT] at h; injection h with h; omega
 | .at_ s,.one _ _,h=>by rw [toT,toT] at h; injection h with _ _ _ h; cases h
 | .at_ s,.two _ _ _,h=>by rw [toT,toT] at h; injection h with _ _ _ h; cases h
 | .no _,.at_ s,h=>by rw [toT,toT] at h; injection h with h; omega
 | .no _,.one _ _,h=>by rw [toT,toT] at h; injection h with _ _ _ h; cases h
 | .no _,.two _ _ _,h=>by rw [toT,toT] at h; injection h with _ _ _ h; cases h
 | .one _ _,.at_ s,h=>by rw [toT,toT] at h; injection h with _ _ _ h; cases h
 | .one _ _,.no s,h=>by rw [toT,toT] at h; injection h with _ _ _ h; cases h
 | .one _ _,.two _ _ _,h=>by rw [toT,toT] at h; injection h with _ _ _ h; injection h with _ h; cases h
 | .two _ _ _,.at_ s,h=>by rw [toT,toT] at h; injection h with _ _ _ h; cases h
 | .two _ _ _,.no s,h=>by rw [toT,toT] at h; injection h with _ _ _ h; cases h
 | .two _ _ _,.one _ _,h=>by rw [toT,toT] at h; injection h with _ _ _ h; injection h with _ h; cases h
theorem inn_put {t:TT} (h:mayTT t=true):∃ tm,toT tm=t∧innT (enc8 (putB t))=some tm:=by
 obtain ⟨tm,e1,e2⟩:=one_put h
 refine ⟨tm,e1,?_⟩
 unfold innT
 rw [dec_enc]
 exact e2
theorem putB_inj {t u:TT} (ht:mayTT t=true) (hu:mayTT u=true) (h:putB t=putB u):t=u:=by
 obtain ⟨a,e1,e2⟩:=one_put ht
 obtain ⟨b,f1,f2⟩:=one_put hu
 rw [h,f2] at e2
 rw [← e1,← f1,Option.some.inj e2]
def TookM (b:List UInt8) (f p left:Nat):Prop:=∀ t p' l',rdT b f p left=some (t,p',l')→f≤16→left≤64→(walkM (toT t) (17-(f:Int)) (64-(left:Int)))=(true,64-(l':Int))
theorem walk_in {k n:Int} {s:List UInt8} {ks:List TT} {d c:Int} (h1:c+1≤64) (h2:d≤16) (h3:rightK k n s (ks.length:Int)=true):walkM (.mk k n s ks) d c=walkL ks (d+1) (c+1):=by
 rw [walkM,if_neg]
 unfold stopW
 have a1:decide (c+1>64)=false:=by simp;omega
 have a2:decide (d>16)=false:=by simp;omega
 rw [a1,a2,show rightK (TT.mk k n s ks).k (TT.mk k n s ks).n (TT.mk k n s ks).s ((TT.mk k n s ks).kids.length:Int)=true from h3]
 simp
theorem tookM (b:List UInt8):∀ f p left,TookM b f p left
 | 0,p,left=>by intro t p' l' h; simp [rdT] at h
 | f+1,p,left=>by
  intro t p' l' h hf hl
  unfold rdT at h
  split at h;· cases h
  split at h;· cases h
  split at h
  ·split at h;· cases h
   split at h;· cases h
   split at h;· cases h
   rename_i g1 g2 g3 g4 g5 g6
   simp only [Option.some.injEq,Prod.mk.injEq] at h
   obtain ⟨rfl,rfl,rfl⟩:=h
   rw [toT,walk_in oM oM,walkL]
   ·simp only [Prod.mk.injEq,true_and];omega
   ·have hsl:(((b.drop (p+1+2)).take (beN b (p+1) 2).toNat).length:Int)≤1024:=by rw [List.length_take];omega
    generalize (b.drop (p+1+2)).take (beN b (p+1) 2).toNat=s at hsl
    unfold rightK
    cases s with
    | nil=>rfl
    | cons x r =>
     have:decide (((x::r).length:Int)≤1024)=true:=by simpa using hsl
     rw [this];rfl
  split at h
  ·split at h;· cases h
   split at h;· cases h
   rename_i g1 g2 g3 g4 g5 g6
   simp only [Option.some.injEq,Prod.mk.injEq] at h
   obtain ⟨rfl,rfl,rfl⟩:=h
   rw [toT,walk_in oM oM,walkL]
   ·simp only [Prod.mk.injEq,true_and];omega
   ·generalize hn:(beN b (p+1) 4).toNat=n at g6
    unfold rightK
    by_cases h0:n=0
    ·subst h0;rfl
    ·have a1:((n:Int)==0)=false:=by simp;omega
     have a2:decide ((n:Int)>0)=true:=by simp;omega
     have a3:decide ((n:Int)≤1073741824)=true:=by simp;omega
     rw [a1,a2,a3];rfl
  split at h
  ·rename_i g1 g2 g3 g4 g5
   split at h
   ·cases h
   ·rename_i t1 p1 l1 h1
    simp only [Option.some.injEq,Prod.mk.injEq] at h
    obtain ⟨rfl,rfl,rfl⟩:=h
    have i1:=tookM b f _ _ _ _ _ h1 oM oM
    rw [toT,walk_in oM oM,walkL]
    ·rw [show (17:Int)-((f+1:Nat):Int)+1=17-(f:Int) by omega,show (64:Int)-(left:Int)+1=64-((left-1:Nat):Int) by omega,i1,if_pos rfl,walkL]
    ·rcases g5 with e | e<;>rw [e]<;>rfl
  split at h
  ·rename_i g1 g2 g3 g4 g5 g6
   split at h
   ·cases h
   ·rename_i t1 p1 l1 h1
    split at h
    ·cases h
    ·rename_i t2 p2 l2 h2
     simp only [Option.some.injEq,Prod.mk.injEq] at h
     obtain ⟨rfl,rfl,rfl⟩:=h
     have b1:=rdT_le b f _ _ _ _ _ h1
     have i1:=tookM b f _ _ _ _ _ h1 oM oM
     have i2:=tookM b f _ _ _ _ _ h2 oM oM
     rw [toT,walk_in oM oM,walkL]
     ·rw [show (17:Int)-((f+1:Nat):Int)+1=17-(f:Int) by omega,show (64:Int)-(left:Int)+1=64-((left-1:Nat):Int) by omega,i1,if_pos rfl,walkL]
      simp only []
      rw [i2,if_pos rfl,walkL]
     ·rcases g6 with e | e | e<;>rw [e]<;>rfl
  ·cases h
theorem inn_may {s:List UInt8} {t:Tm} (h:innT s=some t):mayTT (toT t)=true:=by
 unfold innT at h
 cases ho:dec8 s with
 | none=>rw [ho] at h; cases h
 | some o =>
  rw [ho] at h
  have h:oneT o=some t:=h
  unfold oneT at h
  cases hr:rdT o 16 0 64 with
  | none=>rw [hr] at h; cases h
  | some r =>
   obtain ⟨t1,p1,l1⟩:=r
   rw [hr] at h
   have:=tookM o 16 0 64 _ _ _ hr oM oM
   simp only at h
   split at h
   ·simp only [Option.some.injEq] at h
    subst h
    unfold mayTT
    rw [show (17:Int)-((16:Nat):Int)=1 by omega,show (64:Int)-((64:Nat):Int)=0 by omega] at this
    rw [this]
   ·cases h
end Go.Proofs.Tw
end
section
open Go Go.Sv Go.RowKit
namespace Go.Proofs.Tw
set_option maxRecDepth 100000
set_option maxHeartbeats 4000000
def sgB (c:UInt8):Bool:=decide (0≤sgI c)
def runsF:List UInt8→List UInt8→List (List UInt8)
 | [],cur=>if cur=[] then [] else [cur]
 | c::r,cur=>if sgB c=true then runsF r (cur++[c]) else (if cur=[] then runsF r [] else cur::runsF r [])
def closeF (cur:List UInt8):List (List UInt8):=if cur=[] then [] else [cur]
theorem runsF_no {c:UInt8} {r cur:List UInt8} (h:sgB c=false):runsF (c::r) cur=closeF cur++runsF r []:=by
 rw [runsF,if_neg (by rw [h];decide)]
 unfold closeF
 split<;>rfl
theorem runsF_skip:∀ (x r:List UInt8),(∀ c∈x,sgB c=false)→runsF (x++r) []=runsF r []
 | [],r,_=>rfl
 | c::x,r,h=>by
  rw [List.cons_append,runsF_no (h c (by simp)),runsF_skip x r (fun c hc=>h c (by simp [hc]))]
  rfl
theorem runsF_gap (x r cur:List UInt8) (hx:x≠[]) (h:∀ c∈x,sgB c=false):runsF (x++r) cur=closeF cur++runsF r []:=by
 cases x with
 | nil=>exact (hx rfl).elim
 | cons c x=>rw [List.cons_append,runsF_no (h c (by simp)),runsF_skip x r (fun c hc=>h c (by simp [hc]))]
theorem high_no (c:UInt8) (h:128≤c.toNat):sgB c=false:=by
 have:=byte_all (fun c => !decide (128≤c.toNat) || !sgB c) kR c
 simp [h] at this
 exact this
def runP (x:Nat):Bool:=decide (127<x) || !sgB (UInt8.ofNat x)
theorem get_mkL (s:List UInt8) (i:Nat):(⟨s.toArray⟩:ByteArray).get! i=s.getD i 0:=by
 show ((s.toArray)[i]!)=_
 rw [List.getD_eq_getElem?_getD]
 by_cases h:i<s.length
 ·rw [getElem!_pos _ _ (by simpa using h)];simp [h]
 ·rw [getElem!_neg _ _ (by simpa using h),List.getElem?_eq_none oM];rfl
theorem dec_at (s:List UInt8) (pos:Nat) (h:pos<s.length):((s.getD pos 0).toNat<128∧Utf8.decode ⟨s.toArray⟩ pos=((s.getD pos 0).toNat,1)) ∨
  (∃ r w,Utf8.decode ⟨s.toArray⟩ pos=(r,w)∧128≤r∧1≤w∧pos+w≤s.length∧∀ i,i<w→128≤(s.getD (pos+i) 0).toNat):=by
 have hz:(⟨s.toArray⟩:ByteArray).size=s.length:=size_mk s
 rw [Lib.decode_at,hz,get_mkL,get_mkL,get_mkL,get_mkL]
 have hb:=UInt8.toNat_lt (s.getD pos 0)
 rcases Lib.decodeN_shape (s.length-pos) (s.getD pos 0).toNat (s.getD (pos+1) 0).toNat (s.getD (pos+2) 0).toNat (s.getD (pos+3) 0).toNat with ⟨h0,h1⟩ | ⟨a1,a2,a3,a4,h1⟩ | ⟨a1,a2,a3,a4,a5,a6,h1⟩ | ⟨a1,a2,a3,a4,a5,a6,a7,h1⟩ | h1
 ·exact .inl ⟨h0,h1⟩
 ·refine .inr ⟨_,_,h1,by omega,by omega,by omega,fun i hi => ?_⟩
  obtain rfl | rfl:i=0∨i=1:=by omega
  ·rw [Nat.add_zero];omega
  ·omega
 ·refine .inr ⟨_,_,h1,by omega,by omega,by omega,fun i hi => ?_⟩
  obtain rfl | rfl | rfl:i=0∨i=1∨i=2:=by omega
  ·rw [Nat.add_zero];omega
  ·omega
  ·omega
 ·refine .inr ⟨_,_,h1,by omega,by omega,by omega,fun i hi => ?_⟩
  obtain rfl | rfl | rfl | rfl:i=0∨i=1∨i=2∨i=3:=by omega
  ·rw [Nat.add_zero];omega
  ·omega
  ·omega
  ·omega
 ·by_cases h0:(s.getD pos 0).toNat<128
  ·refine .inl ⟨h0,?_⟩
   unfold Lib.decodeN
   rw [if_pos h0]
  ·refine .inr ⟨_,_,h1,by omega,by omega,by omega,fun i hi => ?_⟩
   obtain rfl:i=0:=by omega
   rw [Nat.add_zero];omega
def cutP (s:List UInt8) (x:Nat×Nat):List UInt8:=(s.drop x.1).take (x.2-x.1)
def openF (s:List UInt8) (pos:Nat):Option Nat→List UInt8
 | none=>[]
 | some a=>cutP s (a,pos)
theorem cutP_more (s:List UInt8) (a pos:Nat) (ha:a≤pos) (h:pos<s.length):cutP s (a,pos+1)=cutP s (a,pos)++[s.getD pos 0]:=by
 unfold cutP
 show (s.drop a).take (pos+1-a)=(s.drop a).take (pos-a)++[s.getD pos 0]
 rw [show pos+1-a=pos-a+1 by omega,List.take_add_one,List.getElem?_drop,show a+(pos-a)=pos by omega,List.getElem?_eq_getElem h,List.getD_eq_getElem?_getD,List.getElem?_eq_getElem h]
 rfl
theorem cutP_ne (s:List UInt8) (a pos:Nat) (ha:a<pos) (h:pos≤s.length):cutP s (a,pos)≠[]:=by
 unfold cutP
 intro e
 have:=congrArg List.length e
 simp at this
 omega
theorem drop_consL (s:List UInt8) (pos:Nat) (h:pos<s.length):s.drop pos=s.getD pos 0::s.drop (pos+1):=by
 rw [List.drop_eq_getElem_cons h,List.getD_eq_getElem?_getD,List.getElem?_eq_getElem h];rfl
theorem spans_runs (s:List UInt8):∀ (f pos:Nat) (st:Option Nat) (acc:List (Nat×Nat)),s.length-pos≤f→pos≤s.length→(∀ a,st=some a→a<pos) →
  (Lib.closeSpans ⟨s.toArray⟩ (Lib.spansFromP runP ⟨s.toArray⟩ f pos st acc)).map (cutP s)=acc.map (cutP s)++runsF (s.drop pos) (openF s pos st)
 | 0,pos,st,acc,hf,hp,hst=>by
  obtain rfl:pos=s.length:=by omega
  have hS:Lib.spansFromP runP ⟨s.toArray⟩ 0 s.length st acc=(acc,st):=rfl
  rw [hS,List.drop_length,runsF]
  have hz:(⟨s.toArray⟩:ByteArray).size=s.length:=size_mk s
  cases st with
  | none=>simp [Lib.closeSpans,openF]
  | some a =>
   have:=hst a rfl
   have hne:=cutP_ne s a s.length this (Nat.le_refl _)
   simp [Lib.closeSpans,openF,hz,hne]
 | f+1,pos,st,acc,hf,hp,hst=>by
  have hz:(⟨s.toArray⟩:ByteArray).size=s.length:=size_mk s
  unfold Lib.spansFromP
  rw [hz]
  by_cases hlt:pos<s.length
  ·rw [if_pos hlt]
   rcases dec_at s pos hlt with ⟨h0,h1⟩ | ⟨r,w,h1,hr,hw,hpw,hall⟩
   ·rw [h1]
    simp only []
    have hpp:runP (s.getD pos 0).toNat = !sgB (s.getD pos 0):=by
     unfold runP
     rw [decide_eq_false oM]
     simp
    rw [hpp,drop_consL s pos hlt]
    cases hs:sgB (s.getD pos 0) with
    | true =>
     rw [if_neg dC,runsF,if_pos hs]
     cases st with
     | none =>
      simp only []
      rw [spans_runs s f (pos+1) (some pos) acc oM oM (fun a h=>by cases h;omega)]
      congr 2
      show cutP s (pos,pos+1)=[]++[s.getD pos 0]
      rw [cutP_more s pos pos (Nat.le_refl _) hlt]
      congr 1
      unfold cutP;simp
     | some a =>
      simp only []
      have:=hst a rfl
      rw [spans_runs s f (pos+1) (some a) acc oM oM (fun a' h=>by cases h;omega)]
      congr 2
      exact cutP_more s a pos oM hlt
    | false =>
     rw [if_pos dC,runsF_no hs]
     cases st with
     | none =>
      simp only []
      rw [spans_runs s f (pos+1) none acc oM oM (fun a h=>by cases h)]
      simp [openF,closeF]
     | some a =>
      simp only []
      have:=hst a rfl
      rw [spans_runs s f (pos+1) none _ oM oM (fun a h=>by cases h)]
      have hne:=cutP_ne s a pos this hp
      simp [openF,closeF,hne]
   ·rw [h1]
    simp only []
    have hpp:runP r=true:=by unfold runP;rw [decide_eq_true oM];rfl
    have hx:s.drop pos=(s.drop pos).take w++s.drop (pos+w):=by rw [← List.drop_drop,List.take_append_drop]
    have hxn:(s.drop pos).take w≠[]:=by
     intro e
     have:=congrArg List.length e
     simp at this
     omega
    have hxa:∀ c∈(s.drop pos).take w,sgB c=false:=by
     intro c hc
     obtain ⟨i,hi,rfl⟩:=List.getElem_of_mem hc
     have hi':i<w:=by simp at hi;omega
     have:=hall i hi'
     apply high_no
     rw [List.getD_eq_getElem?_getD,List.getElem?_eq_getElem oM] at this
     simpa using this
    rw [hpp,if_pos rfl,hx,runsF_gap _ _ _ hxn hxa]
    cases st with
    | none =>
     simp only []
     rw [spans_runs s f (pos+w) none acc oM oM (fun a h=>by cases h)]
     simp [openF,closeF]
    | some a =>
     simp only []
     have:=hst a rfl
     rw [spans_runs s f (pos+w) none _ oM oM (fun a h=>by cases h)]
     have hne:=cutP_ne s a pos this hp
     simp [openF,closeF,hne]
  ·rw [if_neg hlt]
   obtain rfl:pos=s.length:=by omega
   rw [List.drop_length,runsF]
   cases st with
   | none=>simp [Lib.closeSpans,openF]
   | some a =>
    have:=hst a rfl
    have hne:=cutP_ne s a s.length this (Nat.le_refl _)
    simp [Lib.closeSpans,openF,hz,hne]
theorem fields_runs (s:List UInt8):(Lib.goFieldsP runP ⟨s.toArray⟩).map (fun b=>b.data.toList)=runsF s []:=by
 have h:=spans_runs s s.length 0 none [] oM oM (fun a h=>by cases h)
 have hz:(⟨s.toArray⟩:ByteArray).size=s.length:=size_mk s
 rw [List.map_nil,List.nil_append,List.drop_zero] at h
 show _=runsF s (openF s 0 none)
 rw [← h]
 unfold Lib.goFieldsP Lib.spansOfP
 rw [hz,List.map_map]
 refine List.map_congr_left fun x _ => ?_
 show ((⟨s.toArray⟩:ByteArray).extract x.1 x.2).data.toList=cutP s x
 rw [Lib.extract_data]
 simp [cutP]
end Go.Proofs.Tw
end
section
open Go Go.Sv Go.RowKit
namespace Go.Proofs.Tw
set_option maxRecDepth 100000
set_option maxHeartbeats 4000000
abbrev TP:=TT×KT
def addP:List TP→TP→List TP
 | [],t=>[t]
 | a::r,t=>if cmpT a.1 t.1<0 then a::addP r t else if cmpT a.1 t.1=0 then a::r else t::a::r
def Up (l:List TP):Prop:=l.Pairwise (fun a b=>cmpT a.1 b.1<0)
theorem addP_mem:∀ (l:List TP) (t x:TP),x∈addP l t→x∈l∨x=t
 | [],t,x,h=>by rw [addP] at h; exact .inr (List.mem_singleton.1 h)
 | a::r,t,x,h=>by
  rw [addP] at h
  split at h
  ·rcases List.mem_cons.1 h with rfl | h
   ·exact .inl (by simp)
   ·rcases addP_mem r t x h with h | h
    ·exact .inl (by simp [h])
    ·exact .inr h
  ·split at h
   ·exact .inl h
   ·rcases List.mem_cons.1 h with rfl | h
    ·exact .inr rfl
    ·exact .inl h
theorem addP_has:∀ (l:List TP) (t:TP) (u:TT),(∃ x∈l,x.1=u)∨u=t.1→∃ x∈addP l t,x.1=u
 | [],t,u,h=>by
  rcases h with ⟨x,h,_⟩ | h
  ·cases h
  ·exact ⟨t,by rw [addP];simp,h.symm⟩
 | a::r,t,u,h=>by
  rw [addP]
  split
  ·rcases h with ⟨x,h,e⟩ | h
   ·rcases List.mem_cons.1 h with rfl | h
    ·exact ⟨x,by simp,e⟩
    ·obtain ⟨y,hy,e2⟩:=addP_has r t u (.inl ⟨x,h,e⟩)
     exact ⟨y,by simp [hy],e2⟩
   ·obtain ⟨y,hy,e2⟩:=addP_has r t u (.inr h)
    exact ⟨y,by simp [hy],e2⟩
  ·split
   ·rename_i h0
    rcases h with h | h
    ·exact h
    ·exact ⟨a,by simp,(cmpT_iff.1 h0).trans h.symm⟩
   ·rcases h with ⟨x,h,e⟩ | h
    ·exact ⟨x,by simp [List.mem_cons.1 h],e⟩
    ·exact ⟨t,by simp,h.symm⟩
theorem addP_up:∀ (l:List TP) (t:TP),Up l→Up (addP l t)
 | [],t,_=>by rw [addP]; exact List.pairwise_singleton _ _
 | a::r,t,h=>by
  unfold Up at h
  rw [List.pairwise_cons] at h
  rw [addP]
  split
  ·rename_i h0
   refine List.pairwise_cons.2 ⟨fun x hx => ?_,addP_up r t h.2⟩
   rcases addP_mem r t x hx with hx | rfl
   ·exact h.1 x hx
   ·exact h0
  ·rename_i h0
   split
   ·exact List.pairwise_cons.2 h
   ·rename_i h1
    have h2:cmpT t.1 a.1<0:=(cmpT_anti _ _).2 oM
    refine List.pairwise_cons.2 ⟨fun x hx => ?_,List.pairwise_cons.2 h⟩
    rcases List.mem_cons.1 hx with rfl | hx
    ·exact h2
    ·exact cmpT_trans h2 (h.1 x hx)
theorem addP_at:∀ (l:List TP) (t:TP) (i:Nat),i≤l.length→(∀ j,j<i→cmpT (l.getD j (.nil,.nil)).1 t.1<0)→(i<l.length→¬ cmpT (l.getD i (.nil,.nil)).1 t.1<0) →
  addP l t=if i<l.length∧cmpT (l.getD i (.nil,.nil)).1 t.1=0 then l else l.take i++t::l.drop i
 | [],t,i,h,_,_=>by
  obtain rfl:i=0:=by simpa using h
  rfl
 | a::r,t,0,h,h1,h2=>by
  have h2:¬ cmpT a.1 t.1<0:=h2 (by simp)
  rw [addP,if_neg h2]
  by_cases h3:cmpT a.1 t.1=0
  ·rw [if_pos h3,if_pos ⟨by simp,h3⟩]
  ·rw [if_neg h3,if_neg (fun h=>h3 h.2)];rfl
 | a::r,t,i+1,h,h1,h2=>by
  have h0:cmpT a.1 t.1<0:=h1 0 oM
  rw [addP,if_pos h0,addP_at r t i (by simpa using h) (fun j hj=>h1 (j+1) oM) (fun hi=>h2 (by simpa using hi))]
  by_cases h3:i<r.length∧cmpT (r.getD i (.nil,.nil)).1 t.1=0
  ·rw [if_pos h3,if_pos ⟨by simpa using h3.1,h3.2⟩]
  ·rw [if_neg h3,if_neg (fun h=>h3 ⟨by simpa using h.1,h.2⟩)];rfl
theorem addP_len (l:List TP) (t:TP):(addP l t).length≤l.length+1:=by
 induction l with
 | nil=>simp [addP]
 | cons a r ih =>
  rw [addP];split
  ·simp;omega
  ·split<;>simp
def midL {α:Type} (l:List α):List α:=(l.take (l.length-1)).drop 1
def partsT (s:List UInt8):List (List UInt8):=Lib.split s [126]
def plainT (s:List UInt8):List Tm:=(midL (partsT s)).filterMap innT
def tellT (r:List UInt8):List Tm:=match dec8 r with
 | some b=>plainT b
 | none=>[]
def allM (s:List UInt8):List Tm:=plainT s++(runsF s []).flatMap tellT
def tp (t:Tm):TP:=(toT t,toK t)
def foldP (l:List TP) (m:List Tm):List TP:=m.foldl (fun l t=>addP l (tp t)) l
def findP (s:List UInt8):List TP:=foldP [] (allM s)
theorem foldP_app (l:List TP) (a b:List Tm):foldP l (a++b)=foldP (foldP l a) b:=List.foldl_append
theorem foldP_up:∀ (m:List Tm) (l:List TP),Up l→Up (foldP l m)
 | [],l,h=>h
 | t::m,l,h=>foldP_up m (addP l (tp t)) (addP_up l _ h)
theorem foldP_mem:∀ (m:List Tm) (l:List TP) (x:TP),x∈foldP l m→x∈l∨∃ t∈m,x=tp t
 | [],l,x,h => .inl h
 | t::m,l,x,h=>by
  rcases foldP_mem m (addP l (tp t)) x h with h | ⟨u,hu,e⟩
  ·rcases addP_mem l _ x h with h | h
   ·exact .inl h
   ·exact .inr ⟨t,by simp,h⟩
  ·exact .inr ⟨u,by simp [hu],e⟩
theorem foldP_has:∀ (m:List Tm) (l:List TP) (u:TT),(∃ x∈l,x.1=u)∨(∃ t∈m,toT t=u)→∃ x∈foldP l m,x.1=u
 | [],l,u,h=>by
  rcases h with h | ⟨t,h,_⟩
  ·exact h
  ·cases h
 | t::m,l,u,h=>by
  refine foldP_has m (addP l (tp t)) u ?_
  rcases h with h | ⟨v,hv,e⟩
  ·exact .inl (addP_has l _ u (.inl h))
  ·rcases List.mem_cons.1 hv with rfl | hv
   ·exact .inl (addP_has l _ u (.inr e.symm))
   ·exact .inr ⟨v,hv,e⟩
theorem findP_up (s:List UInt8):Up (findP s):=foldP_up _ _ List.Pairwise.nil
theorem findP_mem {s:List UInt8} {x:TP} (h:x∈findP s):∃ t∈allM s,x=tp t:=by
 rcases foldP_mem _ _ x h with h | h
 ·cases h
 ·exact h
theorem findP_has {s:List UInt8} {t:Tm} (h:t∈allM s):∃ x∈findP s,x.1=toT t:=foldP_has _ _ _ (.inr ⟨t,h,rfl⟩)
theorem all_may {s:List UInt8} {t:Tm} (h:t∈allM s):mayTT (toT t)=true:=by
 have hp:∀ {s:List UInt8} {t:Tm},t∈plainT s→mayTT (toT t)=true:=by
  intro s t h
  unfold plainT at h
  obtain ⟨x,_,hx⟩:=List.mem_filterMap.1 h
  exact inn_may hx
 unfold allM at h
 rcases List.mem_append.1 h with h | h
 ·exact hp h
 ·obtain ⟨r,_,h⟩:=List.mem_flatMap.1 h
  unfold tellT at h
  split at h
  ·exact hp h
  ·cases h
theorem up_nodup {l:List TP} (h:Up l):(l.map Prod.fst).Nodup:=by
 have:(l.map Prod.fst).Pairwise (fun a b=>cmpT a b<0):=List.pairwise_map.2 h
 refine this.imp fun {a b} h e => ?_
 subst e
 rw [cmpT_self] at h
 omega
theorem find_perm {s:List UInt8} {l:List TT} (hn:l.Nodup) (h:∀ x,x∈l↔∃ t∈allM s,toT t=x):((findP s).map Prod.fst).Perm l:=by
 refine (List.perm_ext_iff_of_nodup (up_nodup (findP_up s)) hn).2 fun x => ?_
 rw [h]
 constructor
 ·intro hx
  obtain ⟨y,hy,rfl⟩:=List.mem_map.1 hx
  obtain ⟨t,ht,rfl⟩:=findP_mem hy
  exact ⟨t,ht,rfl⟩
 ·rintro ⟨t,ht,rfl⟩
  obtain ⟨y,hy,e⟩:=findP_has ht
  exact List.mem_map.2 ⟨y,hy,e⟩
theorem find_fst_up (s:List UInt8):((findP s).map Prod.fst).Pairwise (fun a b=>cmpT a b<0):=List.pairwise_map.2 (findP_up s)
end Go.Proofs.Tw
end
