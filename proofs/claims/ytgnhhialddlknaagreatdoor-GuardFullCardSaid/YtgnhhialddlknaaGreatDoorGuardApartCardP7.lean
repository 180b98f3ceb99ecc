/- Own texts for this claim: Te3, Sto, Ms, Ck0, Ck1, Ck2, Ck3, Pct2, Ck4, Dec7, Pcd, Dec8, Pce, Qry, Unl, Ury, Prs, Qpr, Nums, Jp0, Jp1, Jq1, Jq2, Jq3, Jq4, Jp2, Coo, Ans, Gen, Gen2, Jq5, Jq6, Pj0, Pjw, Pj1, Pj2, Pj3, Nmk. -/
import Derived.Test.YtgnhhialddlknaaGreatDoorGuardApartCardP3
import Derived.Test.YtgnhhialddlknaaGreatDoorGuardApartCardP6
import Derived.Test.YtgnhhialddlknaaGreatDoorGuardApartCardP4
import Derived.Lib.AtoiAll
import Derived.Lib.AtoiErrMem
set_option linter.all false
section
open Go Go.Sv Go.RowKit
namespace Go.Proofs.Tw
attribute [local irreducible] Wp FinQ resV Ent Pur Go.Sv.Fn Sat0
set_option maxRecDepth 100000
set_option maxHeartbeats 4000000
variable {G:Nat→Option (List Cell)} [Back G]
def markB (t:TT):List UInt8:=if mayTT t=true then [126]++enc8 (putB t)++[126] else []
theorem putB_pos (t:TT):0<(putB t).length:=by rw [putB_eq];simp
theorem encG_len (b:List UInt8):∀ g,(encG b g).length≤4*g
 | 0=>by simp [encG]
 | g+1=>by
  have h1:=encG_len b g
  have h2:∀ v n,(sgs6 v n).length=n:=by intro v n;induction n with | zero=>rfl | succ n ih=>rw [sgs6];simp [ih]
  have h3:=n3_le b (3*g) 3
  rw [encG,List.length_append]
  unfold grp
  rw [h2];omega
theorem enc8_len (b:List UInt8):(enc8 b).length≤2*b.length+4:=by
 have:=encG_len b ((b.length+2) / 3)
 unfold enc8;omega
theorem textT_ok {t:TT} (ht:LowR t) (x:KT) (hx:Rep t x):Pur Tryz.prog G 85 [.agg (encK x)] [.c (.str (markB t))]:=by
 refine zp Tryz.func85 ?_
 unfold markB
 by_cases h:mayTT t=true
 ·rw [if_pos h]
  have c1:=putP_ok (G:=G) ht x hx h
  have hm:=(may_okP h).2
  have c2:=encE_ok (G:=G) (putB t) oM
  have hp:=putB_pos t
  have hl:=enc8_len (putB t)
  generalize enc8 (putB t)=o at *
  generalize putB t=b at *
  clear hx h ht
  refine z0 [(1,{cs:=[(1,cb [] c1)]})] [] ?_
  refine zc ((↑b.length:Int)==(0:Int)) (fun h0 => ?_) (fun h0 => ?_)
  ·have g0:=eq_of_beq h0
   refine z0 [] [] ?_
   exact zS [.c (.str [])] (by simp_all;done)
  ·have g0:=ne_of_beq_false h0
   refine zg [(4,{cs:=[(1,lc [48] [.row 5 1 b.length (bytesF b)] [.c (.row 1 0 0 b.length)] c2 kR kR kR (show 0+b.length≤b.length from oM))]})] [] [1+o.length≤9223372036854775807,([(126:UInt8)]++o).length+(1:Nat)≤(9223372036854775807:Nat)] ⟨oM,(show ([(126:UInt8)]++o).length+(1:Nat)≤(9223372036854775807:Nat) from sO)⟩ ?_
   exact zr
 ·rw [if_neg h]
  have c1:=putP_no (G:=G) ht x hx (by simpa using h)
  clear hx h ht
  refine zg [(1,{cs:=[(1,pc c1)]})] [true] [((0:Int)==(0:Int))=true] rfl ?_
  exact zr
def numTT (n:Int):TT := .mk 2 n [] []
def kNum (n:Int):KT:=⟨2,n,[],0,fun _ _ => .nilif⟩
theorem low_num (n:Int):LowR (numTT n) := .mk (by show 0≤1000000;omega) (fun x h=>by cases h)
theorem rep_num (n:Int):Rep (numTT n) (kNum n):=by unfold numTT kNum;rw [Rep];exact ⟨rfl,rfl,rfl,rfl,by rw [RepL];trivial⟩
def kAt (s:List UInt8):KT:=⟨1,0,s,0,fun _ _ => .nilif⟩
theorem keyC_ok (n:Int):Pur Tryz.prog G 154 [.c (.int .i64 n)] [.c (.str (markB (numTT n)))]:=by
 refine zp Tryz.func154 ?_
 have c:=textT_ok (G:=G) (low_num n) (kNum n) (rep_num n)
 have e1:EqvD (.agg [.int .i64 2,.int .i64 n,.str [],.nilsl]) (.agg (encK (kNum n))):=kids_D
 have e2:EqvI (.agg [.int .i64 2,.int .i64 n,.str [],.nilsl]) (.agg (encK (kNum n))):=kids_I
 refine zg [(1,{cs:=[(2,pc c)],fm:=[(1,.agg (encK (kNum n)))]})] [] [EqvI (.agg [.int .i64 2,.int .i64 n,.str [],.nilsl]) (.agg (encK (kNum n))),EqvD (.agg [.int .i64 2,.int .i64 n,.str [],.nilsl]) (.agg (encK (kNum n)))] ⟨eqvI_flat _ _ kR,(show EqvD (.agg [.int .i64 (2:Int),.int .i64 n,.str [],.nilsl]) (.agg (encK (kNum n))) from aS)⟩ ?_
 exact zr
theorem num1_ok (n:Int):Pur Tryz.prog G 33 [.c (.int .i64 n)] [.agg (encK (kNum n))]:=by
 refine zp Tryz.func33 ?_
 have e1:EqvD (.agg [.int .i64 2,.int .i64 n,.str [],.nilsl]) (.agg (encK (kNum n))):=kids_D
 have e2:EqvI (.agg [.int .i64 2,.int .i64 n,.str [],.nilsl]) (.agg (encK (kNum n))):=kids_I
 refine zg [(1,{fm:=[(1,.agg (encK (kNum n)))]})] [] [EqvI (.agg [.int .i64 2,.int .i64 n,.str [],.nilsl]) (.agg (encK (kNum n))),EqvD (.agg [.int .i64 2,.int .i64 n,.str [],.nilsl]) (.agg (encK (kNum n)))] ⟨eqvI_flat _ _ kR,(show EqvD (.agg [.int .i64 (2:Int),.int .i64 n,.str [],.nilsl]) (.agg (encK (kNum n))) from aS)⟩ ?_
 exact zr
theorem at1_ok (s:List UInt8):Pur Tryz.prog G 34 [.c (.str s)] [.agg (encK (kAt s))]:=by
 refine zp Tryz.func34 ?_
 have e1:EqvD (.agg [.int .i64 1,.int .i64 0,.str s,.nilsl]) (.agg (encK (kAt s))):=kids_D
 have e2:EqvI (.agg [.int .i64 1,.int .i64 0,.str s,.nilsl]) (.agg (encK (kAt s))):=kids_I
 refine zg [(1,{fm:=[(1,.agg (encK (kAt s)))]})] [] [EqvI (.agg [.int .i64 1,.int .i64 0,.str s,.nilsl]) (.agg (encK (kAt s))),EqvD (.agg [.int .i64 1,.int .i64 0,.str s,.nilsl]) (.agg (encK (kAt s)))] ⟨eqvI_flat _ _ kR,(show EqvD (.agg [.int .i64 (1:Int),.int .i64 (0:Int),.str s,.nilsl]) (.agg (encK (kAt s))) from aS)⟩ ?_
 exact zr
theorem tm1_ok (k:Int) (n:Nat) (f:Nat→Nat→Cell):Pur Tryz.prog G 32 [.c (.int .i64 k),.c (.sl 4 n f)] [.agg (encK ⟨k,0,[],n,f⟩)]:=by
 refine zp Tryz.func32 ?_
 refine z0 [] [] ?_
 exact zr
structure SoT where (n conn now:Int)
def encSo (s:SoT):List Cell:=[.int .i64 s.n,.int .i64 s.conn,.int .i64 s.now]
theorem dnext_ok (n:Int) (h:n≤1073741824) (h0 : -1000000000000≤n):Pur Tryz.prog G 256 [.c (.int .i64 n)] [.c (.int .i64 (n+1))]:=by
 refine zp Tryz.func256 ?_
 refine zg [] [false] [decide (n>(1073741824:Int))=false,inR .i64 (n+1)] ⟨sO,i6⟩ ?_
 exact zr
structure MgT where
 (conn who:Int) (host:List UInt8) (back:Bool) (data:List UInt8)
def MgT.nil:MgT:=⟨0,0,[],false,[]⟩
def encMg (m:MgT):List Cell:=[.int .i64 m.conn,.int .i64 m.who,.str m.host,.bool m.back,.str m.data]
def mgB (l:List MgT):Blk := .row 33 5 l.length (rowF encMg .nil l)
theorem drawnC_ok (k:Int) (s:SoT) (c:Int) (h:c≠s.conn):Pur Tryz.prog G 257 [.c (.int .i64 k),.agg (encSo s),.agg (encSo ⟨s.n,c,s.now⟩)] [.c (.int .i64 k),.agg (encSo ⟨s.n,c,s.now⟩),.c (.bool true)]:=by
 refine zp Tryz.func257 ?_
 have hb:(c==s.conn)=false:=by simpa using h
 have ht:((s.n==s.n)&&((c==s.conn)&&((s.now==s.now)&&true)))=false:=by simp [hb]
 refine zg [] [false] [((SoT.mk s.n c s.now).n==s.n&&((SoT.mk s.n c s.now).conn==s.conn&&((SoT.mk s.n c s.now).now==s.now&&true)))=false] (oN aS) ?_
 exact zr
theorem conn_ok (s:SoT) (h:s.conn≤1073741824) (h0 : -1000000000000≤s.conn):Pur Tryz.prog G 211 [.agg (encSo s)] [.c (.int .i64 s.conn),.agg (encSo ⟨s.n,s.conn+1,s.now⟩),.c (.bool true)]:=by
 refine zp Tryz.func211 ?_
 have c:Pur Tryz.prog G 257 [.c (.int .i64 s.conn),.agg (encSo s),.agg [.int .i64 s.n,.int .i64 (s.conn+1),.int .i64 s.now]] [.c (.int .i64 s.conn),.agg [.int .i64 s.n,.int .i64 (s.conn+1),.int .i64 s.now],.c (.bool true)]:=drawnC_ok (G:=G) s.conn s (s.conn+1) oM
 have c2:=dnext_ok (G:=G) s.conn h h0
 refine z0 [(2,{cs:=[(2,pc c2)]}),(3,{cs:=[(4,pc c)]})] [] ?_
 exact zr
theorem poolAsk_ok (s:SoT) (who:Int) (host data:List UInt8) (h:s.conn≤1073741824) (h0 : -1000000000000≤s.conn) :
  Pur Tryz.prog G 155 [.agg (encSo s),.c (.int .i64 who),.c (.str host),.c (.str data)] [.agg (encMg ⟨s.conn,who,host,false,data⟩),.agg (encSo ⟨s.n,s.conn+1,s.now⟩),.c (.bool true)]:=by
 refine zp Tryz.func155 ?_
 have c:=conn_ok (G:=G) s h h0
 refine zg [(1,{cs:=[(1,pc c)]})] [false] [(!true)=false] rfl ?_
 exact zr
theorem poolBack_ok (conn who:Int) (host data:List UInt8):Pur Tryz.prog G 129 [.c (.int .i64 conn),.c (.int .i64 who),.c (.str host),.c (.str data)] [.agg (encMg ⟨conn,who,host,true,data⟩)]:=by
 refine zp Tryz.func129 ?_
 refine z0 [] [] ?_
 exact zr
end Go.Proofs.Tw
end
section
open Go Go.Sv Go.RowKit
namespace Go.Proofs.Tw
attribute [local irreducible] Wp FinQ resV Ent Pur Go.Sv.Fn Sat0
set_option maxRecDepth 100000
set_option maxHeartbeats 4000000
variable {G:Nat→Option (List Cell)}
def wdT (s:List UInt8):Bool:=s.all plainB&&(decide (1≤s.length)&&decide (s.length≤128))
theorem wd_b1 (s:List UInt8):(bif bif !s==[] then decide ((s.length:Int)≤128) else false then s.all plainB else false)=wdT s:=by
 unfold wdT
 cases s with
 | nil=>rfl
 | cons a r =>
  rw [show ((!(a::r)==[])=true) from rfl,show decide (((a::r).length:Int)≤128)=decide ((a::r).length≤128) from decide_eq_decide.2 oM,show decide (1≤(a::r).length)=true from decide_eq_true (by simp)]
  cases decide ((a::r).length≤128)<;>simp
theorem word_ok {G:Nat→Option (List Cell)} [Back G] (s:List UInt8) (hl:s.length<4611686018427387904):Pur Tryz.prog G 151 [.c (.str s)] [.c (.bool (wdT s))]:=by
 refine Pur.of Tryz.func151 (by kernel_rfl) (by kernel_rfl) (by kernel_rfl) ?_
 rw [← wd_b1]
 refine Wp.go (mx:=true) (fun _=>mixed) [(1,{cs:=[(9,pc (All_plain s (by assumption)))]})] 100 [] [] (by kernel_rfl) (by kernel_rfl) (by kernel_rfl) trivial ?_
 exact zr
end Go.Proofs.Tw
end
section

end
section
open Go Go.Sv Go.RowKit
namespace Go.Proofs.Tw
attribute [local irreducible] Wp FinQ resV Ent Pur Go.Sv.Fn Sat0
set_option maxRecDepth 100000
set_option maxHeartbeats 4000000
variable {G:Nat→Option (List Cell)} [Back G]
theorem cut_len (s p:List UInt8):(Lib.cut s p).1.length≤s.length∧(Lib.cut s p).2.1.length≤s.length:=by
 unfold Lib.cut
 split
 ·simp only [List.length_take,List.length_drop];omega
 ·simp
theorem nil_eqv (sz:Nat) (f:Nat→Nat→Cell):EqvD (.c .nilsl) (.c (.sl sz 0 f)):=fun D ρ u h=>⟨none,0,h,Nat.le_refl _,Nat.zero_le _,.inl rfl⟩
theorem split_hit {s sep:List UInt8} {i:Nat} (hs:sep≠[]) (h:Lib.index s sep=i):Lib.split s sep=s.take i::Lib.split (s.drop (i+sep.length)) sep:=by
 have hne:((i:Int) == -1)=false:=by rw [beq_eq_false_iff_ne];omega
 unfold Lib.split
 rw [Lib.count_hit hs h,Nat.add_comm 1,Lib.splitK,h,hne]
 simp
theorem split_miss {s sep:List UInt8} (h:Lib.index s sep = -1):Lib.split s sep=[s]:=by
 unfold Lib.split;rw [Lib.count_miss h];rfl
theorem occ_drop (s sep:List UInt8) (a j:Nat):Lib.occAt (s.drop a) sep j=Lib.occAt s sep (a+j):=by
 unfold Lib.occAt;rw [List.drop_drop]
theorem split_at {s sep:List UInt8} (hs:sep≠[]) {a i:Nat} (hai:a≤i) (hi:i≤s.length) (ho:Lib.occAt s sep i=true) (hall:∀ j,a≤j→j<i→Lib.occAt s sep j=false) :
  Lib.split (s.drop a) sep=(s.take i).drop a::Lib.split (s.drop (i+sep.length)) sep:=by
 have h:Lib.index (s.drop a) sep=((i-a:Nat):Int):=Lib.index_first (by rw [List.length_drop];omega) (by rw [occ_drop,show a+(i-a)=i from by omega];exact ho) (fun j hj=>by rw [occ_drop];exact hall _ oM oM)
 rw [split_hit hs h,List.drop_drop,show a+(i-a+sep.length)=i+sep.length from by omega,List.drop_take]
theorem split_end {s sep:List UInt8} (hs:sep≠[]) {a i:Nat} (hi:s.length<i+sep.length) (hall:∀ j,a≤j→j<i→Lib.occAt s sep j=false):Lib.split (s.drop a) sep=[(s.take s.length).drop a]:=by
 rw [List.take_length]
 refine split_miss (Lib.index_none fun j hj => ?_)
 cases hq:Lib.occAt (s.drop a) sep j with
 | false=>rfl
 | true =>
  rcases Lib.occAt_room hq with h' | h'
  ·rw [List.length_drop] at h'
   have hp:0<sep.length:=List.length_pos_iff.2 hs
   have:=hall (a+j) oM oM
   rw [occ_drop,this] at hq;cases hq
  ·exact (hs h').elim
theorem parts_ok (s sep:List UInt8) (hl:s.length<1000000000) (hs:sep≠[]) (hn:sep.length<1000):Pur Tryz.prog G 58 [.c (.str s),.c (.str sep)] [.c (.sl 1 (Lib.split s sep).length (strsF (Lib.split s sep)))]:=by
 refine zp Tryz.func58 ?_
 have hp:0<sep.length:=List.length_pos_iff.2 hs
 refine z0 [] [] ?_
 refine Wp.loopK kR (fun (x:Nat×Nat×Nat×List (List UInt8))=>⟨[(0,.v (.c (.str s))),(1,.v (.c (.str sep))),(5,.v (.c (.row 1 64 0 x.2.2.1))),(6,.v (.c (.int .i64 (x.2.1:Int)))),(7,.v (.c (.int .i64 (x.1:Int))))],[(64,.row 9 1 x.2.2.1 (strsF x.2.2.2))],80⟩) (fun x=>x.1≤s.length∧x.2.1≤s.length∧x.2.2.1=x.2.2.2.length∧x.2.2.1≤x.1∧Lib.split s sep=x.2.2.2++Lib.split (s.drop x.2.1) sep∧∀ j,x.2.1≤j→j<x.1→Lib.occAt s sep j=false) (fun x=>s.length-x.1) (0,0,0,[]) (Ent.trans (Ent.empT (t:=5) (sz:=1) (e:=9) (f:=(strsF [])) dC kR rfl) (Ent.of [] kR kR kR trivial)) ⟨Nat.zero_le _,Nat.zero_le _,rfl,Nat.le_refl _,rfl,fun j _ h=>absurd h (Nat.not_lt_zero _)⟩ ?_
 rintro ⟨i,a,n,acc⟩ L ⟨hi,ha,hna,hni,hq,hall⟩ again
 simp only at hi ha hna hni hq hall
 by_cases hlt:i+sep.length≤s.length
 ·have ho:=occ_at s sep i hlt
  by_cases hai:a≤i
  ·cases hoc:Lib.occAt s sep i with
   | true =>
    rw [hoc] at ho
    have ht:(bif decide ((i:Int)≥(a:Int)) then List.drop i (List.take (i+sep.length) s)==sep else false)=true:=by rw [decide_eq_true oM];exact ho.symm
    rw [split_at hs hai hi hoc hall] at hq
    have hq2:Lib.split s sep=(acc++[(s.take i).drop a])++Lib.split (s.drop (i+sep.length)) sep:=by rw [hq];simp
    have hall2:∀ j,i+sep.length≤j→j<i+1→Lib.occAt s sep j=false:=fun j h1 h2=>by omega
    have e1:BlkEqv (.row 9 1 (n+1) (catF n (strsF acc) (fun i' j=>nthD [.str ((s.take i).drop a)] ((0+i')*1+j)))) (.row 9 1 (n+1) (strsF (acc++[(s.take i).drop a]))):=strs_app acc _ hna
    have q2:n+1=(acc++[(s.take i).drop a]).length:=by simp [hna]
    clear hq hall hoc ho
    refine zg [(7,{bs:=[(6,.row 9 1 (n+1) (strsF (acc++[(s.take i).drop a])))]})] [true,true] [inR .i64 ((i:Int)+(sep.length:Int)),decide ((i:Int)+(sep.length:Int)≤(s.length:Int))=true,decide ((i:Int)≥(a:Int))=true→inR .i64 ((i:Int)+(sep.length:Int)),decide ((i:Int)≥(a:Int))=true→(0:Int)≤Int.ofNat i∧Int.ofNat i≤Int.ofNat (i+sep.length)∧Int.ofNat (i+sep.length)≤(s.length:Int),(bif decide ((i:Int)≥(a:Int)) then List.drop (Int.ofNat i).toNat (List.take (Int.ofNat (i+sep.length)).toNat s)==sep else false)=true,(0:Int)≤Int.ofNat a∧Int.ofNat a≤Int.ofNat i∧Int.ofNat i≤(s.length:Int),(n+1)*16≤140737488355328,BlkEqv (.row 9 (1:Nat) (n+(1:Nat)) (catF n (strsF acc) fun (i_1 j:Nat)=>nthD [.str (List.drop (Int.ofNat a).toNat (List.take (Int.ofNat i).toNat s))] (((0:Nat)+i_1)*(1:Nat)+j))) (.row 9 (1:Nat) (n+(1:Nat)) (strsF (acc++[List.drop a (List.take i s)]))),n≤n,0+1≤1,inR .i64 ((i:Int)+(sep.length:Int)),inR .i64 ((i:Int)+1)] ⟨i6,sO,(fun _=>i6),sO,aS,⟨(by simp;done),⟨sO,sO⟩⟩,oM,aS,oM,oM,i6,i6⟩ ?_
    exact za [(64,512)] (again _ (i+1,i+sep.length,n+1,acc++[(s.take i).drop a]) ⟨oM,⟨aS,⟨aS,⟨sO,⟨aS,aS⟩⟩⟩⟩⟩ oM)
   | false =>
    rw [hoc] at ho
    have ht:(bif decide ((i:Int)≥(a:Int)) then List.drop i (List.take (i+sep.length) s)==sep else false)=false:=by rw [decide_eq_true oM];exact ho.symm
    have hall2:∀ j,a≤j→j<i+1→Lib.occAt s sep j=false:=fun j h1 h2=>by
     rcases Nat.lt_or_ge j i with h | h
     ·exact hall j h1 h
     ·rw [show j=i from by omega];exact hoc
    clear hall hoc ho
    refine zg [] [true,false] [inR .i64 ((i:Int)+(sep.length:Int)),decide ((i:Int)+(sep.length:Int)≤(s.length:Int))=true,decide ((i:Int)≥(a:Int))=true→inR .i64 ((i:Int)+(sep.length:Int)),decide ((i:Int)≥(a:Int))=true→(0:Int)≤Int.ofNat i∧Int.ofNat i≤Int.ofNat (i+sep.length)∧Int.ofNat (i+sep.length)≤(s.length:Int),(bif decide ((i:Int)≥(a:Int)) then List.drop (Int.ofNat i).toNat (List.take (Int.ofNat (i+sep.length)).toNat s)==sep else false)=false,inR .i64 ((i:Int)+1)] ⟨i6,sO,(fun _=>i6),sO,aS,i6⟩ ?_
    exact za [] (again _ (i+1,a,n,acc) ⟨oM,⟨aS,⟨aS,⟨sO,⟨aS,aS⟩⟩⟩⟩⟩ oM)
  ·have hall2:∀ j,a≤j→j<i+1→Lib.occAt s sep j=false:=fun j h1 h2=>by omega
   clear hall ho
   refine zg [] [true,false] [inR .i64 ((i:Int)+(sep.length:Int)),decide ((i:Int)+(sep.length:Int)≤(s.length:Int))=true,decide ((i:Int)≥(a:Int))=true→inR .i64 ((i:Int)+(sep.length:Int)),decide ((i:Int)≥(a:Int))=true→(0:Int)≤Int.ofNat i∧Int.ofNat i≤Int.ofNat (i+sep.length)∧Int.ofNat (i+sep.length)≤(s.length:Int),(bif decide ((i:Int)≥(a:Int)) then List.drop (Int.ofNat i).toNat (List.take (Int.ofNat (i+sep.length)).toNat s)==sep else false)=false,inR .i64 ((i:Int)+1)] ⟨i6,sO,(fun _=>i6),sO,sO,i6⟩ ?_
   exact za [] (again _ (i+1,a,n,acc) ⟨oM,⟨aS,⟨aS,⟨sO,⟨aS,aS⟩⟩⟩⟩⟩ oM)
 ·rw [split_end hs oM hall] at hq
  rw [hq]
  have e1:BlkEqv (.row 9 1 (n+1) (catF n (strsF acc) (fun i' j=>nthD [.str ((s.take s.length).drop a)] ((0+i')*1+j)))) (.row 9 1 (n+1) (strsF (acc++[(s.take s.length).drop a]))):=strs_app acc _ hna
  have q2:n+1=(acc++[(s.take s.length).drop a]).length:=by simp [hna]
  clear hq hall
  refine zg [(9,{bs:=[(5,.row 9 1 (n+1) (strsF (acc++[(s.take s.length).drop a])))]})] [false] [inR .i64 ((i:Int)+(sep.length:Int)),decide ((i:Int)+(sep.length:Int)≤(s.length:Int))=false,(0:Int)≤Int.ofNat a∧Int.ofNat a≤Int.ofNat s.length∧Int.ofNat s.length≤(s.length:Int),(n+1)*16≤140737488355328,BlkEqv (.row 9 (1:Nat) (n+(1:Nat)) (catF n (strsF acc) fun i j=>nthD [.str (List.drop (Int.ofNat a).toNat (List.take (Int.ofNat s.length).toNat s))] (((0:Nat)+i)*(1:Nat)+j))) (.row 9 (1:Nat) (n+(1:Nat)) (strsF (acc++[List.drop a (List.take s.length s)]))),n≤n,0+1≤1] ⟨i6,sO,⟨(by simp;done),⟨sO,(by simp;done)⟩⟩,oM,aS,oM,(show (0:Nat)+(1:Nat)≤(1:Nat) from oM)⟩ ?_
  refine Wp.ent' kR (Ent.pubT (t:=4) (e:=9) (sz:=(1:Nat)) (id:=272) (off:=(0:Nat)) (m:=n+(1:Nat)) (n:=n+(1:Nat)) (f:=strsF (acc++[List.drop a (List.take s.length s)])) (m':=(acc++[List.drop a (List.take s.length s)]).length) (f':=strsF (acc++[List.drop a (List.take s.length s)])) kR kR oM aS (fun i _ j _=>by rw [Nat.zero_add]) rfl) ?_
  exact zr
def ckB (l:List FT):Blk := .row 103 2 l.length (rowF encF .nil l)
def ckX (q:FT):Blk := .box 103 (encF q)
def ckP (q:FT) (x:FT):Bool:=x.name==q.name
end Go.Proofs.Tw
end
section
open Go Go.Sv Go.RowKit
namespace Go.Proofs.Tw
attribute [local irreducible] Wp FinQ resV Ent Pur Go.Sv.Fn Sat0
set_option maxRecDepth 100000
set_option maxHeartbeats 4000000
variable {G:Nat→Option (List Cell)}
def digC:List Cell:=hexU.map fun c => .int .i32 (c.toNat:Int)
def Gp:Nat→Option (List Cell)
 | 1=>some digC
 | n=>Tw.Gd n
instance back_Gp:Back Gp:=⟨fun h=>by cases h⟩
theorem Pur.grow {P:Program} {G G':Nat→Option (List Cell)} [hG:Back G'] {f:FuncId} {args rs:List V1} (h:∀ g cs,G g=some cs→G' g=some cs) (hp:Pur P G f args rs):Pur P G' f args rs:=by
 unfold Pur Go.Sv.Fn at hp ⊢
 intro D ρ w vs h1 h2 h3
 intro h4 h5 h6
 refine (hp D ρ w vs h1 (fun g cs hg=>h2 g cs (h g cs hg)) (fun g cs hg=>h3 g cs (h g cs hg)) h4 h5 h6).mono ?_
 rintro e w' ⟨rs,ho,D',ρ',v,e1,e2,e3,e4,e5⟩
 exact ⟨rs,ho,D',ρ',v,e1,e2,e3,e4,{ e5 with drawn:=fun n=>absurd n hG.no }⟩
theorem Gd_Gp:∀ g cs,Tw.Gd g=some cs→Gp g=some cs:=by
 intro g cs h
 unfold Gp
 split
 ·cases h
 ·exact h
def bareR (form:Bool) (c:UInt8):UInt8:=if form&&c==32 then 43 else c
def bareB (form:Bool) (c:UInt8):Bool:=(form&&c==32)||plainB c
theorem bare_ok {G:Nat→Option (List Cell)} [Back G] (c:UInt8) (form:Bool):Pur Tryz.prog G 252 [.c (.int .u8 (c.toNat:Int)),.c (.bool form)] [.c (.int .i32 ((bareR form c).toNat:Int)),.c (.bool (bareB form c))]:=by
 refine zp Tryz.func252 ?_
 have hb:=UInt8.toNat_lt c
 have e1:EqvD (V1.c (Cell.int .i32 (IntKind.i32.wrap (c.toNat:Int)))) (.c (.int .i32 (c.toNat:Int))):=eqvD_of (by
  have:IntKind.i32.wrap (c.toNat:Int)=(c.toNat:Int):=by simp [IntKind.wrap,IntKind.bits,IntKind.signed];omega
  rw [this])
 cases hf:(bif form then (c.toNat:Int)==32 else false) with
 | true =>
  have h2:(form&&c==32)=true:=by
   rw [Bool.cond_false_right,show ((c.toNat:Int)==32)=(c==32) from byte_eq dC] at hf
   exact hf
  have h3:bareR form c=43:=by unfold bareR;rw [h2];rfl
  have h4:bareB form c=true:=by unfold bareB;rw [h2];rfl
  rw [h3,h4]
  refine zg [] [true] [(bif form then (c.toNat:Int)==(32:Int) else false)=true] (oN aS) ?_
  exact zr
 | false =>
  have h2:(form&&c==32)=false:=by
   rw [Bool.cond_false_right,show ((c.toNat:Int)==32)=(c==32) from byte_eq dC] at hf
   exact hf
  have h3:bareR form c=c:=by unfold bareR;rw [h2];rfl
  have h4:bareB form c=plainB c:=by unfold bareB;rw [h2];rfl
  rw [h3,h4]
  refine zg [(3,{cs:=[(3,pc (plain_ok c))],fm:=[(1,.c (.int .i32 (c.toNat:Int)))]})] [false] [(bif form then (c.toNat:Int)==(32:Int) else false)=false,EqvI (.c (.int .i32 (IntKind.i32.wrap (c.toNat:Int)))) (.c (.int .i32 (c.toNat:Int))),EqvD (.c (.int .i32 (IntKind.i32.wrap (c.toNat:Int)))) (.c (.int .i32 (c.toNat:Int)))] ⟨aS,fun _ _=>trivial,(show EqvD (.c (.int .i32 (IntKind.i32.wrap (↑c.toNat:Int)))) (.c (.int .i32 (↑c.toNat:Int))) from aS)⟩ ?_
  exact zr
theorem pctB_bare (form:Bool) (c:UInt8) (h:bareB form c=true):pctB form c=[bareR form c]∧(bareR form c).toNat<128:=by
 have h32:∀ form,(!(bareB form c)||(pctB form c==[bareR form c]&&decide ((bareR form c).toNat<128)))=true:=by
  intro form
  cases form
  ·exact byte_all (fun c=>(!(bareB false c)||(pctB false c==[bareR false c]&&decide ((bareR false c).toNat<128)))) kR c
  ·exact byte_all (fun c=>(!(bareB true c)||(pctB true c==[bareR true c]&&decide ((bareR true c).toNat<128)))) kR c
 have:=h32 form
 rw [h,Bool.not_true,Bool.false_or,Bool.and_eq_true] at this
 exact ⟨eq_of_beq this.1,of_decide_eq_true this.2⟩
theorem pctB_hex (form:Bool) (c:UInt8) (h:bareB form c=false):pctB form c=[37,hexU.getD (c.toNat / 16) 0,hexU.getD (c.toNat%16) 0]:=by
 unfold bareB at h
 rw [Bool.or_eq_false_iff] at h
 unfold pctB
 rw [if_neg (by rw [h.2];decide),if_neg (by rw [h.1];decide)]
theorem hexU_lt:∀ k:Nat,(hexU.getD k 0).toNat<128:=by
 intro k
 rcases Nat.lt_or_ge k 16 with h | h
 ·have:∀ k:Nat,k<16→(hexU.getD k 0).toNat<128:=by decide
  exact this k h
 ·rw [List.getD_eq_getElem?_getD,List.getElem?_eq_none (by exact h)];decide
theorem dig_cell (j:Nat) (hj:j<16):nthD digC j = .int .i32 ((hexU.getD j 0).toNat:Int):=by
 have:j=0∨j=1∨j=2∨j=3∨j=4∨j=5∨j=6∨j=7∨j=8∨j=9∨j=10∨j=11∨j=12∨j=13∨j=14∨j=15:=by omega
 rcases this with rfl | rfl | rfl | rfl | rfl | rfl | rfl | rfl | rfl | rfl | rfl | rfl | rfl | rfl | rfl | rfl<;>rfl
def hiI (c:UInt8):Int:=(c.toNat:Int).fdiv (2^4)
def loI (c:UInt8):Int:=Int.ofNat ((BitVec.ofInt IntKind.u8.bits (c.toNat:Int) &&& BitVec.ofInt IntKind.u8.bits 15).toNat%(2^IntKind.u8.bits:Int).natAbs)
theorem hi_rng (c:UInt8):0≤Tw.hiI c∧Tw.hiI c<((16:Nat):Int):=of_decide_eq_true (byte_all (fun c=>decide (0≤Tw.hiI c∧Tw.hiI c<((16:Nat):Int))) kR c)
theorem lo_rng (c:UInt8):0≤Tw.loI c∧Tw.loI c<((16:Nat):Int):=of_decide_eq_true (byte_all (fun c=>decide (0≤Tw.loI c∧Tw.loI c<((16:Nat):Int))) kR c)
theorem hi_den (c:UInt8):EqvD (V1.c (nthD digC ((Tw.hiI c).toNat*1+0))) (.c (.int .i32 ((hexU.getD (c.toNat / 16) 0).toNat:Int))):=eqvD_of (by
 have h:(Tw.hiI c).toNat*1+0=c.toNat / 16:=eq_of_beq (byte_all (fun c=>(Tw.hiI c).toNat*1+0==c.toNat / 16) kR c)
 rw [h,dig_cell _ (by have:=UInt8.toNat_lt c;omega)])
theorem lo_den (c:UInt8):EqvD (V1.c (nthD digC ((Tw.loI c).toNat*1+0))) (.c (.int .i32 ((hexU.getD (c.toNat%16) 0).toNat:Int))):=eqvD_of (by
 have h:(Tw.loI c).toNat*1+0=c.toNat%16:=eq_of_beq (byte_all (fun c=>(Tw.loI c).toNat*1+0==c.toNat%16) kR c)
 rw [h,dig_cell _ oM])
theorem wr_37 {G:Nat→Option (List Cell)} [Back G]:FnB Tryz.prog G 253 [.box 224 [.nilptr,.nilsl]] [.c (.ptr 0 0),.c (.int .i32 37)] [.c (.int .i64 1),.c .nilif] [(0,.box 224 [.ptr 0 0,.row 1 1 0 1]),(1,.row 5 1 1 (bytesF [37]))]:=wr_a 37 dC
theorem wr_38 {G:Nat→Option (List Cell)} [Back G] (n:Nat) (l:List UInt8) (hn:n=l.length) (hm:n+1≤140737488355328):FnB Tryz.prog G 253 [.box 224 [.ptr 0 0,.row 1 1 0 n],.row 5 1 n (bytesF l)] [.c (.ptr 0 0),.c (.int .i32 37)] [.c (.int .i64 1),.c .nilif]
  [(0,.box 224 [.ptr 0 0,.row 1 2 0 (n+1)]),(2,.row 5 1 (n+1) (bytesF (l++[37])))]:=wr_b n l hn hm 37 dC
def encInv (s:List UInt8) (form:Bool):Nat×Option (Nat×List UInt8)→St
 | (k,none)=>⟨[(0,.v (.c (.str s))),(1,.v (.c (.bool form))),(5,.v (.c (.ptr 16 0))),(10,.v (.c (.int .i64 (s.length:Int)))),(11,.v (.c (.int .i64 (k:Int))))],[(16,.box 224 [.nilptr,.nilsl])],80⟩
 | (k,some (n,l))=>⟨[(0,.v (.c (.str s))),(1,.v (.c (.bool form))),(5,.v (.c (.ptr 16 0))),(10,.v (.c (.int .i64 (s.length:Int)))),(11,.v (.c (.int .i64 (k:Int))))],[(16,.box 224 [.ptr 16 0,.row 1 64 0 n]),(64,.row 5 1 n (bytesF l))],80⟩
def encFacts (s:List UInt8) (form:Bool):Nat×Option (Nat×List UInt8)→Prop
 | (k,none)=>k≤s.length∧k=0
 | (k,some (n,l))=>k≤s.length∧l=pctN form s k∧n=l.length∧0<n
theorem enc_ok (s:List UInt8) (form:Bool) (hl:s.length≤30000000000000):Pur Tryz.prog Gp 209 [.c (.str s),.c (.bool form)] [.c (.str (pctT form s))]:=by
 refine zp Tryz.func209 ?_
 refine z0 [] [] ?_
 refine zl (encInv s form) (encFacts s form) (fun x=>s.length-x.1) (0,none) ⟨Nat.zero_le _,rfl⟩ ?_
 rintro ⟨k,_ | ⟨n,l⟩⟩ L hf again
 ·obtain ⟨hk,h0⟩:=hf
  subst h0
  rcases Nat.lt_or_ge 0 s.length with hlt | hge
  ·have hs:=pctN_succ form s 0 hlt
   rw [show pctN form s 0=[] from rfl,List.nil_append] at hs
   have hcell:=pct_cells (s.getD 0 0)
   cases hB:bareB form (s.getD 0 0) with
   | true =>
    obtain ⟨h1,h2⟩:=pctB_bare form _ hB
    rw [h1] at hs
    have hnx:encFacts s form (1,some (1,[bareR form (s.getD 0 0)])):=⟨hlt,hs.symm,rfl,Nat.one_pos⟩
    have cbr:=bare_ok (G:=Gp) (s.getD 0 0) form
    rw [hB] at cbr
    refine zg [(5,{cs:=[(4,pc cbr)]}),(7,{cs:=[(1,cb [16] (wr_a (bareR form (s.getD (0:Nat) (0:UInt8))) aS))]})] [true,true] [decide ((↑(0:Nat):Int)<(s.length:Int))=true,(0:Int)≤(↑(0:Nat):Int)∧(↑(0:Nat):Int)<(s.length:Int),true=true,inR .i64 ((↑(0:Nat):Int)+(1:Int))] ⟨sO,oM,rfl,i6⟩ ?_
    exact za [(64,320)] (again _ (1,some (1,[bareR form (s.getD 0 0)])) aS oM)
   | false =>
    have h1:=pctB_hex form _ hB
    rw [h1] at hs
    have hnx:encFacts s form (1,some (3,[37,hexU.getD ((s.getD 0 0).toNat / 16) 0,hexU.getD ((s.getD 0 0).toNat%16) 0])):=⟨hlt,hs.symm,rfl,by omega⟩
    have cbr:=bare_ok (G:=Gp) (s.getD 0 0) form
    rw [hB] at cbr
    have r1:=hi_rng (s.getD 0 0)
    have r2:=hi_den (s.getD 0 0)
    have r3:=lo_rng (s.getD 0 0)
    have r4:=lo_den (s.getD 0 0)
    unfold Tw.hiI at r1 r2
    unfold Tw.loI at r3 r4
    have hx1:=hexU_lt ((s.getD 0 0).toNat / 16)
    have hx2:=hexU_lt ((s.getD 0 0).toNat%16)
    refine zg [(9,{cs:=[(6,cb [16,304] (wr_b (1:Nat) [(37:UInt8)] rfl oM (hexU.getD ((s.getD (0:Nat) (0:UInt8)).toNat / (16:Nat)) (0:UInt8)) aS))],fm:=[(5,.c (.int .i32 ((hexU.getD ((s.getD 0 0).toNat / 16) 0).toNat:Int)))]}),(10,{cs:=[(6,cb [16,416] (wr_b ((1:Nat)+(1:Nat)) ([(37:UInt8)]++[hexU.getD ((s.getD (0:Nat) (0:UInt8)).toNat / (16:Nat)) (0:UInt8)]) rfl oM (hexU.getD ((s.getD (0:Nat) (0:UInt8)).toNat%(16:Nat)) (0:UInt8)) aS))],fm:=[(5,.c (.int .i32 ((hexU.getD ((s.getD 0 0).toNat%16) 0).toNat:Int)))]}),(5,{cs:=[(4,pc cbr)]}),(8,{cs:=[(0,cb [16] wr_37)]})] [true,false] [decide ((↑(0:Nat):Int)<(s.length:Int))=true,(0:Int)≤(↑(0:Nat):Int)∧(↑(0:Nat):Int)<(s.length:Int),false=false,(0:Int)≤(↑(0:Nat):Int)∧(↑(0:Nat):Int)<(s.length:Int),(0:Int)≤(4:Int),(0:Int)≤(↑(s.getD (0:Nat) (0:UInt8)).toNat:Int).fdiv ((2:Int)^(4:Nat))∧(↑(s.getD (0:Nat) (0:UInt8)).toNat:Int).fdiv ((2:Int)^(4:Nat))<(↑(16:Nat):Int),EqvD (.c (nthD digC (((↑(s.getD (0:Nat) (0:UInt8)).toNat:Int).fdiv ((2:Int)^(4:Nat))).toNat*(1:Nat)+(0:Nat)))) (.c (.int .i32 (↑(hexU.getD ((s.getD (0:Nat) (0:UInt8)).toNat / (16:Nat)) (0:UInt8)).toNat:Int))),(0:Int)≤(↑(0:Nat):Int)∧(↑(0:Nat):Int)<(s.length:Int),(0:Int)≤Int.ofNat ((BitVec.ofInt IntKind.u8.bits (↑(s.getD (0:Nat) (0:UInt8)).toNat:Int) &&& BitVec.ofInt IntKind.u8.bits (15:Int)).toNat%((2:Int)^IntKind.u8.bits).natAbs)∧Int.ofNat ((BitVec.ofInt IntKind.u8.bits (↑(s.getD (0:Nat) (0:UInt8)).toNat:Int) &&& BitVec.ofInt IntKind.u8.bits (15:Int)).toNat%((2:Int)^IntKind.u8.bits).natAbs)<(↑(16:Nat):Int),EqvD (.c (nthD digC ((Int.ofNat ((BitVec.ofInt IntKind.u8.bits (↑(s.getD (0:Nat) (0:UInt8)).toNat:Int) &&& BitVec.ofInt IntKind.u8.bits (15:Int)).toNat%((2:Int)^IntKind.u8.bits).natAbs)).toNat*(1:Nat)+(0:Nat)))) (.c (.int .i32 (↑(hexU.getD ((s.getD (0:Nat) (0:UInt8)).toNat%(16:Nat)) (0:UInt8)).toNat:Int))),inR .i64 ((↑(0:Nat):Int)+(1:Int))] ⟨sO,oM,rfl,oM,oM,oM,aS,oM,oM,aS,i6⟩ ?_
    exact za [(64,528)] (again _ (1,some (3,[37,hexU.getD ((s.getD 0 0).toNat / 16) 0,hexU.getD ((s.getD 0 0).toNat%16) 0])) aS oM)
  ·have hs:pctT form s=[]:=by
    have:s=[]:=List.eq_nil_of_length_eq_zero oM
    rw [this];rfl
   rw [hs]
   refine zg [(12,{cs:=[(0,cb [16] str_a)]})] [false] [decide ((↑(0:Nat):Int)<(s.length:Int))=false] (show decide ((↑(0:Nat):Int)<(↑s.length:Int))=false from (by simp_all<;>omega)) ?_
   exact zr
 ·obtain ⟨hk,hq,hn,hpos⟩:=hf
  have hlen:=pctN_len form s k hk
  rw [← hq,← hn] at hlen
  rcases Nat.lt_or_ge k s.length with hlt | hge
  ·have hs:=pctN_succ form s k hlt
   rw [← hq] at hs
   have hcell:=pct_cells (s.getD k 0)
   cases hB:bareB form (s.getD k 0) with
   | true =>
    obtain ⟨h1,h2⟩:=pctB_bare form _ hB
    rw [h1] at hs
    have hnx:encFacts s form (k+1,some (n+1,l++[bareR form (s.getD k 0)])):=⟨hlt,hs.symm,by simp [hn],by omega⟩
    have cbr:=bare_ok (G:=Gp) (s.getD k 0) form
    rw [hB] at cbr
    clear hs
    refine zg [(5,{cs:=[(4,pc cbr)]}),(7,{cs:=[(1,cb [16,64] (wr_b n l aS oM (bareR form (s.getD k (0:UInt8))) aS))]})] [true,true] [decide ((k:Int)<(s.length:Int))=true,(0:Int)≤(k:Int)∧(k:Int)<(s.length:Int),true=true,inR .i64 ((k:Int)+1)] ⟨sO,oM,rfl,i6⟩ ?_
    exact za [(64,320)] (again _ (k+1,some (n+1,l++[bareR form (s.getD k 0)])) aS oM)
   | false =>
    have h1:=pctB_hex form _ hB
    rw [h1] at hs
    have hn1:n+1=(l++[37]).length:=by simp [hn]
    have hn2:n+1+1=((l++[37])++[hexU.getD ((s.getD k 0).toNat / 16) 0]).length:=by simp [hn]
    have hnx:encFacts s form (k+1,some (n+1+1+1,((l++[37])++[hexU.getD ((s.getD k 0).toNat / 16) 0])++[hexU.getD ((s.getD k 0).toNat%16) 0])):=⟨hlt,by rw [hs];simp,by simp [hn],by omega⟩
    have cbr:=bare_ok (G:=Gp) (s.getD k 0) form
    rw [hB] at cbr
    have r1:=hi_rng (s.getD k 0)
    have r2:=hi_den (s.getD k 0)
    have r3:=lo_rng (s.getD k 0)
    have r4:=lo_den (s.getD k 0)
    unfold Tw.hiI at r1 r2
    unfold Tw.loI at r3 r4
    have hx1:=hexU_lt ((s.getD k 0).toNat / 16)
    have hx2:=hexU_lt ((s.getD k 0).toNat%16)
    clear hs
    refine zg [(9,{cs:=[(6,cb [16,304] (wr_b (n+(1:Nat)) (l++[(37:UInt8)]) aS oM (hexU.getD ((s.getD k (0:UInt8)).toNat / (16:Nat)) (0:UInt8)) aS))],fm:=[(5,.c (.int .i32 ((hexU.getD ((s.getD k 0).toNat / 16) 0).toNat:Int)))]}),(10,{cs:=[(6,cb [16,416] (wr_b (n+(1:Nat)+(1:Nat)) (l++[(37:UInt8)]++[hexU.getD ((s.getD k (0:UInt8)).toNat / (16:Nat)) (0:UInt8)]) aS oM (hexU.getD ((s.getD k (0:UInt8)).toNat%(16:Nat)) (0:UInt8)) aS))],fm:=[(5,.c (.int .i32 ((hexU.getD ((s.getD k 0).toNat%16) 0).toNat:Int)))]}),(5,{cs:=[(4,pc cbr)]}),(8,{cs:=[(0,cb [16,64] (wr_38 n l aS oM))]})] [true,false] [decide ((k:Int)<(s.length:Int))=true,(0:Int)≤(k:Int)∧(k:Int)<(s.length:Int),false=false,(0:Int)≤(k:Int)∧(k:Int)<(s.length:Int),(0:Int)≤(4:Int),(0:Int)≤(↑(s.getD k (0:UInt8)).toNat:Int).fdiv ((2:Int)^(4:Nat))∧(↑(s.getD k (0:UInt8)).toNat:Int).fdiv ((2:Int)^(4:Nat))<(↑(16:Nat):Int),EqvD (.c (nthD digC (((↑(s.getD k (0:UInt8)).toNat:Int).fdiv ((2:Int)^(4:Nat))).toNat*(1:Nat)+(0:Nat)))) (.c (.int .i32 (↑(hexU.getD ((s.getD k (0:UInt8)).toNat / (16:Nat)) (0:UInt8)).toNat:Int))),(0:Int)≤(k:Int)∧(k:Int)<(s.length:Int),(0:Int)≤Int.ofNat ((BitVec.ofInt IntKind.u8.bits (↑(s.getD k (0:UInt8)).toNat:Int) &&& BitVec.ofInt IntKind.u8.bits (15:Int)).toNat%((2:Int)^IntKind.u8.bits).natAbs)∧Int.ofNat ((BitVec.ofInt IntKind.u8.bits (↑(s.getD k (0:UInt8)).toNat:Int) &&& BitVec.ofInt IntKind.u8.bits (15:Int)).toNat%((2:Int)^IntKind.u8.bits).natAbs)<(↑(16:Nat):Int),EqvD (.c (nthD digC ((Int.ofNat ((BitVec.ofInt IntKind.u8.bits (↑(s.getD k (0:UInt8)).toNat:Int) &&& BitVec.ofInt IntKind.u8.bits (15:Int)).toNat%((2:Int)^IntKind.u8.bits).natAbs)).toNat*(1:Nat)+(0:Nat)))) (.c (.int .i32 (↑(hexU.getD ((s.getD k (0:UInt8)).toNat%(16:Nat)) (0:UInt8)).toNat:Int))),inR .i64 ((k:Int)+1)] ⟨sO,oM,rfl,oM,oM,oM,aS,oM,oM,aS,i6⟩ ?_
    exact za [(64,528)] (again _ (k+1,some (n+1+1+1,((l++[37])++[hexU.getD ((s.getD k 0).toNat / 16) 0])++[hexU.getD ((s.getD k 0).toNat%16) 0])) aS oM)
  ·obtain rfl:k=s.length:=by omega
   rw [pctN_end] at hq
   rw [← hq]
   refine zg [(12,{cs:=[(0,cb [16,64] (str_b n l aS aS oM))]})] [false] [decide ((s.length:Int)<(s.length:Int))=false] (show decide ((↑s.length:Int)<(↑s.length:Int))=false from (by simp;done)) ?_
   exact zr
end Go.Proofs.Tw
end
section
open Go Go.Sv Go.RowKit
namespace Go.Proofs.Tw
attribute [local irreducible] Wp FinQ resV Ent Pur Go.Sv.Fn Sat0
set_option maxRecDepth 100000
set_option maxHeartbeats 4000000
variable {G:Nat→Option (List Cell)} [Back G]
theorem dropM {α:Type} (l:List α) (d:α) (k:Nat) (h:k<l.length):l.drop k=l.getD k d::l.drop (k+1):=by
 rw [List.drop_eq_getElem_cons h];simp [List.getD,h]
theorem splitK_len (sep:List UInt8):∀ (k:Nat) (s:List UInt8),∀ x∈Lib.splitK sep 0 k s,x.length≤s.length
 | 0,s,x,hx=>by simp [Lib.splitK] at hx; subst hx; exact Nat.le_refl _
 | k+1,s,x,hx=>by
  unfold Lib.splitK at hx
  split at hx
  ·simp at hx;subst hx;exact Nat.le_refl _
  ·rcases List.mem_cons.1 hx with rfl | hx
   ·simp only [List.length_take];omega
   ·have:=splitK_len sep k _ x hx
    rw [List.length_drop] at this
    omega
theorem split_el (s sep:List UInt8) (k:Nat):((Lib.split s sep).getD k []).length≤s.length:=by
 rw [List.getD_eq_getElem?_getD]
 cases h:(Lib.split s sep)[k]? with
 | none=>simp
 | some x=>exact splitK_len sep _ s x (List.mem_of_getElem? h)
theorem fGet_any (l:List FT) (q:FT):(fGet l q.name).isSome=l.any (ckP q):=by
 induction l with
 | nil=>rfl
 | cons x l ih =>
  rw [fGet_cons,List.any_cons,← ih]
  unfold ckP
  cases h:(x.name==q.name)<;>simp
def hexI (c:UInt8):Int:=if 48≤c∧c≤57 then (c.toNat:Int)-48 else if 65≤c∧c≤70 then (c.toNat:Int)-55 else -1
def decL (form:Bool):List UInt8→Option (List UInt8)
 | []=>some []
 | c::r=>if plainB c then (decL form r).map (c::·) else if form&&c==43 then (decL form r).map (32::·) else if c==37 then match r with
  | a::b::t=>if hexI a≥0∧hexI b≥0 then (decL form t).map (UInt8.ofNat (hexI a*16+hexI b).toNat::·) else none
  | _=>none
  else none
def decT (form:Bool) (s:List UInt8):List UInt8×Int:=match decL form s with
 | none=>([],3)
 | some t=>if pctT form t=s then (t,0) else ([],3)
theorem decL_plain {form:Bool} {c:UInt8} {r:List UInt8} (h:plainB c=true):decL form (c::r)=(decL form r).map (c::·):=by
 rw [decL.eq_def];simp only [h,if_true]
theorem decL_plus {form:Bool} {c:UInt8} {r:List UInt8} (h:plainB c=false) (h2:(form&&c==43)=true):decL form (c::r)=(decL form r).map (32::·):=by
 rw [decL.eq_def];simp only [h,h2,if_true];rfl
theorem decL_bad {form:Bool} {c:UInt8} {r:List UInt8} (h:plainB c=false) (h2:(form&&c==43)=false) (h3:(c==37)=false):decL form (c::r)=none:=by
 rw [decL.eq_def];simp only [h,h2,h3];rfl
theorem decL_hex {form:Bool} {a b:UInt8} {t:List UInt8} (ha:hexI a≥0) (hb:hexI b≥0):decL form (37::a::b::t)=(decL form t).map (UInt8.ofNat (hexI a*16+hexI b).toNat::·):=by
 rw [decL.eq_def]
 have h1:plainB 37=false:=rfl
 have h2:(form&&(37:UInt8)==43)=false:=by cases form<;>rfl
 simp only [h1,h2]
 rw [if_neg dC,if_neg dC,if_pos dC,if_pos ⟨ha,hb⟩]
theorem decL_hex_no {form:Bool} {r:List UInt8} (h:∀ a b t,r=a::b::t→¬ (hexI a≥0∧hexI b≥0)):decL form (37::r)=none:=by
 rw [decL.eq_def]
 have h1:plainB 37=false:=rfl
 have h2:(form&&(37:UInt8)==43)=false:=by cases form<;>rfl
 simp only [h1,h2]
 rw [if_neg dC,if_neg dC,if_pos dC]
 match r,h with
 | [],_=>rfl
 | [a],_=>rfl
 | a::b::t,h=>exact if_neg (h a b t rfl)
def digF:Nat→Nat→Cell:=fun i _ => .int .i32 ((hexU.getD i 0).toNat:Int)
theorem hexU_hexI (k:Nat) (h:k<16):hexI (hexU.getD k 0)=(k:Int):=by
 have:(List.range 16).all (fun k=>decide (hexI (hexU.getD k 0)=((k:Nat):Int)))=true:=kR
 simpa using List.all_eq_true.1 this k (by simpa using h)
theorem hexI_hexU (c:UInt8) (h:∀ i,i<16→hexU.getD i 0≠c):hexI c = -1:=by
 have hb:=byte_all (fun c=>decide (hexI c = -1)||(List.range 16).any (fun i=>hexU.getD i 0==c)) kR c
 simp only [Bool.or_eq_true,decide_eq_true_eq,List.any_eq_true,List.mem_range,beq_iff_eq] at hb
 rcases hb with hb | ⟨i,hi,hc⟩
 ·exact hb
 ·exact absurd hc (h i hi)
theorem idxR_ok (c:UInt8):Pur Tryz.prog G 314 [.c (.sl 1 16 digF),.c (.int .i32 (c.toNat:Int))] [.c (.int .i64 (hexI c))]:=by
 refine zp Tryz.func314 ?_
 refine z0 [] [] ?_
 refine zl (fun (k:Nat)=>⟨[(0,.v (.c (.sl 1 16 digF))),(1,.v (.c (.int .i32 (c.toNat:Int)))),(7,.v (.c (.int .i64 ((16:Nat):Int)))),(8,.v (.c (.int .i64 (k:Int))))],[],32⟩) (fun k=>k≤16∧∀ i,i<k→hexU.getD i 0≠c) (fun k=>16-k) 0 ⟨Nat.zero_le _,fun i hi=>absurd hi (Nat.not_lt_zero i)⟩ ?_
 rintro k L ⟨hk,hq⟩ again
 rcases Nat.lt_or_ge k 16 with hlt | hge
 ·have h1:decide ((k:Int)<((16:Nat):Int))=true:=decide_eq_true oM
  have h2:(((c.toNat:Int))==((hexU.getD k 0).toNat:Int))=(c==hexU.getD k 0):=ibeq _ _
  by_cases hc:hexU.getD k 0=c
  ·rw [beq_iff_eq.2 hc.symm] at h2
   rw [← hc,hexU_hexI k hlt,hc]
   clear again hq
   refine zg [] [true,true] [decide ((k:Int)<(↑(16:Nat):Int))=true,(0:Int)≤(k:Int)∧(k:Int)<(↑(16:Nat):Int),((c.toNat:Int)==(↑(hexU.getD k (0:UInt8)).toNat:Int))=true] ⟨aS,oM,(show ((↑c.toNat:Int)==(↑(hexU.getD k (0:UInt8)).toNat:Int))=true from aS)⟩ ?_
   exact zr
  ·rw [beq_eq_false_iff_ne.2 (fun h=>hc h.symm)] at h2
   have hq2:∀ i,i<k+1→hexU.getD i 0≠c:=fun i hi=>by
    rcases Nat.lt_or_ge i k with h | h
    ·exact hq i h
    ·rw [show i=k by omega];exact hc
   clear hc
   refine zg [] [true,false] [decide ((k:Int)<(↑(16:Nat):Int))=true,(0:Int)≤(k:Int)∧(k:Int)<(↑(16:Nat):Int),((c.toNat:Int)==(↑(hexU.getD k (0:UInt8)).toNat:Int))=false,inR .i64 ((k:Int)+1)] ⟨aS,oM,aS,i6⟩ ?_
   exact za [] (again _ (k+1) ⟨aS,aS⟩ oM)
 ·have hk:k=16:=by omega
  subst hk
  rw [hexI_hexU c hq]
  clear again hq
  refine zg [] [false] [decide ((↑(16:Nat):Int)<(↑(16:Nat):Int))=false] rfl ?_
  exact zr
theorem i32_b (c:UInt8):IntKind.i32.wrap (c.toNat:Int)=(c.toNat:Int):=by
 have hb:=UInt8.toNat_lt c
 simp [IntKind.wrap,IntKind.bits,IntKind.signed];omega
theorem u8_w (x:Int):((UInt8.ofNat (IntKind.u8.wrap x).toNat).toNat:Int)=IntKind.u8.wrap x:=by
 have:0≤IntKind.u8.wrap x∧IntKind.u8.wrap x<256:=by
  simp [IntKind.wrap,IntKind.bits,IntKind.signed];omega
 simp;omega
def orX (s:List UInt8):Int:=bitsI .or .i64 (IntKind.i64.wrap (hexI (s.getD 0 0)*2^4)) (bitsI .and .i64 (hexI (s.getD 1 0)) 15)
def byX (s:List UInt8):UInt8:=UInt8.ofNat (IntKind.u8.wrap (orX s)).toNat
theorem byByte_no (s:List UInt8) (h:s.length<2):Pur Tryz.prog G 305 [.c (.str s)] [.c (.int .u8 0),.c (.bool false)]:=by
 refine zp Tryz.func305 ?_
 have h1:decide ((s.length:Int)<2)=true:=decide_eq_true oM
 refine zg [] [true] [decide ((s.length:Int)<2)=true] (oN aS) ?_
 exact zr
theorem byByte_ok (s:List UInt8) (h:2≤s.length):Pur Tryz.prog Gp 305 [.c (.str s)] [.c (.int .u8 ((byX s).toNat:Int)),.c (.bool (decide (hexI (s.getD 0 0)≥0)&&decide (hexI (s.getD 1 0)≥0)))]:=by
 refine zp Tryz.func305 ?_
 have h1:decide ((s.length:Int)<2)=false:=decide_eq_false oM
 have c1:=idxR_ok (G:=Gp) (s.getD 0 0)
 have c2:=idxR_ok (G:=Gp) (s.getD 1 0)
 have e0:EqvD (.c (.sl 1 16 fun (i j:Nat)=>nthD digC ((0+i)*1+j))) (.c (.sl 1 16 digF)):=EqvD.sl rfl (fun i hi j hj=>by
  obtain rfl:j=0:=by omega
  have:(List.range 16).all (fun i=>decide (i<16))=true:=kR
  rcases i with _ | _ | _ | _ | _ | _ | _ | _ | _ | _ | _ | _ | _ | _ | _ | _ | i<;>first | rfl | omega)
 have e1:EqvD (V1.c (Cell.int .i32 (IntKind.i32.wrap ((s.getD 0 0).toNat:Int)))) (.c (.int .i32 ((s.getD 0 0).toNat:Int))):=eqvD_of (by rw [i32_b])
 have e2:EqvD (V1.c (Cell.int .i32 (IntKind.i32.wrap ((s.getD 1 0).toNat:Int)))) (.c (.int .i32 ((s.getD 1 0).toNat:Int))):=eqvD_of (by rw [i32_b])
 have e4:EqvD (V1.c (Cell.int .i64 (bitsI .or .i64 (IntKind.i64.wrap (hexI (s.getD 0 0)*2^4)) (bitsI .and .i64 (hexI (s.getD 1 0)) 15)))) (.c (.int .i64 (orX s))):=eqvD_of rfl
 have e3:EqvD (V1.c (Cell.int .u8 (IntKind.u8.wrap (orX s)))) (.c (.int .u8 ((byX s).toNat:Int))):=eqvD_of (by unfold byX;rw [u8_w])
 refine zg [(3,{cs:=[(4,pc c1),(9,pc c2)],fm:=[(0,.c (.sl 1 16 digF)),(5,.c (.sl 1 16 digF)),(3,.c (.int .i32 ((s.getD 0 0).toNat:Int))),(8,.c (.int .i32 ((s.getD 1 0).toNat:Int)))]}),(4,{fm:=[(4,.c (.int .i64 (orX s))),(5,.c (.int .u8 ((byX s).toNat:Int)))]})] [false] [decide ((s.length:Int)<2)=false,EqvI (.c (.sl 1 16 fun i j=>nthD digC ((0+i)*1+j))) (.c (.sl 1 16 digF)),EqvD (.c (.sl 1 16 fun i j=>nthD digC ((0+i)*1+j))) (.c (.sl 1 16 digF)),(0:Int)≤Int.ofNat (0)∧Int.ofNat (0)≤Int.ofNat (16:Nat)∧Int.ofNat (16:Nat)≤(↑(16:Nat):Int),(0:Int)≤(0:Int)∧(0:Int)<(s.length:Int),EqvI (.c (.int .i32 (IntKind.i32.wrap (↑(s.getD (0:Nat) (0:UInt8)).toNat:Int)))) (.c (.int .i32 (↑(s.getD (0:Nat) (0:UInt8)).toNat:Int))),EqvD (.c (.int .i32 (IntKind.i32.wrap (↑(s.getD (0:Nat) (0:UInt8)).toNat:Int)))) (.c (.int .i32 (↑(s.getD (0:Nat) (0:UInt8)).toNat:Int))),EqvI (.c (.sl 1 16 fun i j=>nthD digC ((0+i)*1+j))) (.c (.sl 1 16 digF)),EqvD (.c (.sl 1 16 fun i j=>nthD digC ((0+i)*1+j))) (.c (.sl 1 16 digF)),(0:Int)≤Int.ofNat (0)∧Int.ofNat (0)≤Int.ofNat (16:Nat)∧Int.ofNat (16:Nat)≤(↑(16:Nat):Int),(0:Int)≤(1:Int)∧(1:Int)<(s.length:Int),EqvI (.c (.int .i32 (IntKind.i32.wrap (↑(s.getD (1:Nat) (0:UInt8)).toNat:Int)))) (.c (.int .i32 (↑(s.getD (1:Nat) (0:UInt8)).toNat:Int))),EqvD (.c (.int .i32 (IntKind.i32.wrap (↑(s.getD (1:Nat) (0:UInt8)).toNat:Int)))) (.c (.int .i32 (↑(s.getD (1:Nat) (0:UInt8)).toNat:Int))),(0:Int)≤(4:Int),EqvI (.c (.int .i64 (bitsI .or .i64 (IntKind.i64.wrap (hexI (s.getD (0:Nat) (0:UInt8))*(2:Int)^(4:Nat))) (bitsI BinOp.and .i64 (hexI (s.getD (1:Nat) (0:UInt8))) (15:Int))))) (.c (.int .i64 (orX s))),EqvD (.c (.int .i64 (bitsI .or .i64 (IntKind.i64.wrap (hexI (s.getD (0:Nat) (0:UInt8))*(2:Int)^(4:Nat))) (bitsI BinOp.and .i64 (hexI (s.getD (1:Nat) (0:UInt8))) (15:Int))))) (.c (.int .i64 (orX s))),EqvI (.c (.int .u8 (IntKind.u8.wrap (orX s)))) (.c (.int .u8 (↑(byX s).toNat:Int))),EqvD (.c (.int .u8 (IntKind.u8.wrap (orX s)))) (.c (.int .u8 (↑(byX s).toNat:Int)))] ⟨aS,fun _ _=>trivial,aS,⟨dC,⟨dC,dC⟩⟩,oM,fun _ _=>trivial,aS,fun _ _=>trivial,aS,⟨dC,⟨dC,dC⟩⟩,oM,fun _ _=>trivial,aS,oM,fun _ _=>trivial,aS,fun _ _=>trivial,(show EqvD (.c (.int .u8 (IntKind.u8.wrap (orX s)))) (.c (.int .u8 (↑(byX s).toNat:Int))) from aS)⟩ ?_
 exact zS [.c (.int .u8 (↑(byX s).toNat:Int)),.c (.bool (bif decide (hexI (s.getD (0:Nat) (0:UInt8))≥(0:Int)) then decide (hexI (s.getD (1:Nat) (0:UInt8))≥(0:Int)) else false))] kR
def hexOk (s:List UInt8):Bool:=decide (hexI (s.getD 0 0)≥0)&&decide (hexI (s.getD 1 0)≥0)
def oneW (form:Bool) (s:List UInt8):UInt8×Nat :=
 if (form&&s.getD 0 0==43)=true then (32,1)
 else if s.getD 0 0=37 then (if 3≤s.length then (if hexOk (s.drop 1)=true then (if bareB form (byX (s.drop 1))=true then (0,0) else (byX (s.drop 1),3)) else (0,0)) else (0,0))
 else if plainB (s.getD 0 0)=true then (s.getD 0 0,1) else (0,0)
def decP (form:Bool) (s:List UInt8):Option (List UInt8):=match decL form s with
 | none=>none
 | some t=>if pctT form t=s then some t else none
theorem decT_P (form:Bool) (s:List UInt8):decT form s=match decP form s with
  | none=>([],3)
  | some t=>(t,0):=by
 unfold decT decP
 cases decL form s with
 | none=>rfl
 | some t=>simp only; split<;>rfl
theorem decP_map (form:Bool) (s r:List UInt8) (x:UInt8) (h1:decL form s=(decL form r).map (x::·)) (h2:∀ t,pctT form (x::t)=s↔pctT form t=r):decP form s=(decP form r).map (x::·):=by
 unfold decP
 rw [h1]
 cases decL form r with
 | none=>rfl
 | some t =>
  simp only [Option.map_some]
  by_cases h:pctT form t=r
  ·rw [if_pos h,if_pos ((h2 t).2 h)];rfl
  ·rw [if_neg h,if_neg (fun k=>h ((h2 t).1 k))];rfl
theorem pctT_cons (form:Bool) (x:UInt8) (t:List UInt8):pctT form (x::t)=pctB form x++pctT form t:=by unfold pctT;rw [List.flatMap_cons]
theorem hexI_back (a:UInt8) (h:hexI a≥0):a=hexU.getD (hexI a).toNat 0∧hexI a≤15:=by
 have:=byte_all (fun a => !decide (hexI a≥0)||(a==hexU.getD (hexI a).toNat 0&&decide (hexI a≤15))) kR a
 rw [decide_eq_true h] at this
 simpa using this
theorem byX_is (a b:UInt8) (t:List UInt8) (ha:hexI a≥0) (hb:hexI b≥0):byX (a::b::t)=UInt8.ofNat (hexI a*16+hexI b).toNat:=by
 have h1:=(hexI_back a ha).2
 have h2:=(hexI_back b hb).2
 unfold byX orX
 show UInt8.ofNat (IntKind.u8.wrap (bitsI .or .i64 (IntKind.i64.wrap (hexI a*2^4)) (bitsI .and .i64 (hexI b) 15))).toNat=_
 obtain ⟨i,hi⟩:=Int.eq_ofNat_of_zero_le ha
 obtain ⟨j,hj⟩:=Int.eq_ofNat_of_zero_le hb
 rw [hi,hj]
 have hall:(List.range 16).all (fun i=>(List.range 16).all (fun j=>UInt8.ofNat (IntKind.u8.wrap (bitsI .or .i64 (IntKind.i64.wrap (((i:Nat):Int)*2^4)) (bitsI .and .i64 ((j:Nat):Int) 15))).toNat==UInt8.ofNat (((i:Nat):Int)*16+((j:Nat):Int)).toNat))=true:=kR
 have:=List.all_eq_true.1 (List.all_eq_true.1 hall i sO) j sO
 exact eq_of_beq this
theorem decP_step (form:Bool) (c:UInt8) (r:List UInt8):decP form (c::r)=if (oneW form (c::r)).2=0 then none else (decP form ((c::r).drop (oneW form (c::r)).2)).map ((oneW form (c::r)).1::·):=by
 have hdef:oneW form (c::r)=if (form&&c==43)=true then (32,1) else if c=37 then (if 3≤r.length+1 then (if hexOk r=true then (if bareB form (byX r)=true then (0,0) else (byX r,3)) else (0,0)) else (0,0)) else if plainB c=true then (c,1) else (0,0):=rfl
 by_cases hp:plainB c=true
 ·have h43:¬ (form&&c==43)=true:=by
   simp only [Bool.and_eq_true,beq_iff_eq]
   rintro ⟨_,rfl⟩;revert hp;decide
  have h37:¬ c=37:=by rintro rfl;revert hp;decide
  rw [if_neg h43,if_neg h37,if_pos hp] at hdef
  rw [hdef,if_neg (by simp)]
  refine decP_map form _ _ c (decL_plain hp) (fun t => ?_)
  rw [pctT_cons,show pctB form c=[c] by unfold pctB;rw [if_pos hp]]
  simp
 have hp':plainB c=false:=by simpa using hp
 by_cases h43:(form&&c==43)=true
 ·rw [if_pos h43] at hdef
  rw [hdef,if_neg (by simp)]
  simp only [Bool.and_eq_true,beq_iff_eq] at h43
  obtain ⟨rfl,rfl⟩:=h43
  refine decP_map true _ _ 32 (decL_plus hp' rfl) (fun t => ?_)
  rw [pctT_cons,show pctB true 32=[43] from rfl]
  simp
 rw [if_neg h43] at hdef
 have h43':(form&&c==43)=false:=by simpa using h43
 have bad:∀ s,decL form s=none→decP form s=none:=fun s h=>by unfold decP;rw [h]
 by_cases h37:c=37
 ·rw [if_pos h37] at hdef
  subst h37
  match r,hdef with
  | [],hdef=>rw [if_neg (by simp)] at hdef; rw [hdef,if_pos rfl]; exact bad _ (decL_hex_no (by intro a b t h; cases h))
  | [a],hdef=>rw [if_neg (by simp)] at hdef; rw [hdef,if_pos rfl]; exact bad _ (decL_hex_no (by intro a b t h; cases h))
  | a::b::t,hdef =>
   rw [if_pos (by simp)] at hdef
   have hok:hexOk (a::b::t)=(decide (hexI a≥0)&&decide (hexI b≥0)):=rfl
   by_cases hab:hexI a≥0∧hexI b≥0
   ·have hx:=byX_is a b t hab.1 hab.2
    have h1:=hexI_back a hab.1
    have h2:=hexI_back b hab.2
    have hL:decL form (37::a::b::t)=(decL form t).map (byX (a::b::t)::·):=by rw [hx];exact decL_hex hab.1 hab.2
    have hok':hexOk (a::b::t)=true:=by rw [hok,decide_eq_true hab.1,decide_eq_true hab.2];rfl
    rw [if_pos hok'] at hdef
    by_cases hbare:bareB form (byX (a::b::t))=true
    ·rw [if_pos hbare] at hdef
     rw [hdef,if_pos rfl]
     unfold decP
     rw [hL]
     cases decL form t with
     | none=>rfl
     | some u =>
      simp only [Option.map_some]
      rw [if_neg]
      rw [pctT_cons,(pctB_bare form _ hbare).1]
      intro h
      have h0:=(List.cons.inj h).1
      have:∀ form x,bareB form x=true→bareR form x≠37:=fun form x=>by
       have:=byte_all (fun x => !bareB form x||bareR form x != 37) (by cases form<;>kernel_rfl) x
       intro hb he
       rw [hb,he] at this
       cases this
      exact this form _ hbare h0
    ·have hbare':bareB form (byX (a::b::t))=false:=by simpa using hbare
     rw [if_neg hbare] at hdef
     rw [hdef,if_neg (by simp)]
     refine decP_map form _ _ _ hL (fun u => ?_)
     rw [pctT_cons,pctB_hex form _ hbare']
     have hn:(byX (a::b::t)).toNat=(hexI a*16+hexI b).toNat:=by rw [hx];simp;omega
     have d1:(byX (a::b::t)).toNat / 16=(hexI a).toNat:=by rw [hn];omega
     have d2:(byX (a::b::t)).toNat%16=(hexI b).toNat:=by rw [hn];omega
     rw [d1,d2,← h1.1,← h2.1]
     simp
   ·have hok':¬ hexOk (a::b::t)=true:=by
     rw [hok]
     simp only [Bool.and_eq_true,decide_eq_true_eq]
     exact hab
    rw [if_neg hok'] at hdef
    rw [hdef,if_pos rfl]
    exact bad _ (decL_hex_no (by rintro a' b' t' h;cases h;exact hab))
 ·rw [if_neg h37,if_neg hp] at hdef
  rw [hdef,if_pos rfl]
  exact bad _ (decL_bad hp' h43' (by simpa using h37))
end Go.Proofs.Tw
end
section

end
section
open Go Go.Sv Go.RowKit
namespace Go.Proofs.Tw
attribute [local irreducible] Wp FinQ resV Ent Pur Go.Sv.Fn Sat0
set_option maxRecDepth 100000
set_option maxHeartbeats 4000000
variable {G:Nat→Option (List Cell)}
theorem one_ok (s:List UInt8) (form:Bool) (h:1≤s.length):Pur Tryz.prog Gp 292 [.c (.str s),.c (.bool form)] [.c (.int .u8 ((oneW form s).1.toNat:Int)),.c (.int .i64 ((oneW form s).2:Int))]:=by
 refine zp Tryz.func292 ?_
 have hA:(bif form then ((s.getD 0 0).toNat:Int)==43 else false)=(form&&s.getD 0 0==43):=by
  rw [Bool.cond_false_right,show (((s.getD 0 0).toNat:Int)==43)=(s.getD 0 0==43) from ibeq _ 43]
 have h37:(((s.getD 0 0).toNat:Int)==37)=(s.getD 0 0==37):=ibeq _ 37
 unfold oneW
 cases h43:(form&&s.getD 0 0==43) with
 | true =>
  rw [h43] at hA
  rw [if_pos rfl]
  clear h37 h43
  refine zg [] [true] [(0:Int)≤(0:Int)∧(0:Int)<(s.length:Int),(bif form then (↑(s.getD (0:Nat) (0:UInt8)).toNat:Int)==(43:Int) else false)=true] ⟨oM,(show (bif form then (↑(s.getD (0:Nat) (0:UInt8)).toNat:Int)==(43:Int) else false)=true from aS)⟩ ?_
  exact zr
 | false =>
  rw [h43] at hA
  rw [if_neg dC]
  clear h43
  by_cases hp:s.getD 0 0=37
  ·rw [if_pos hp]
   rw [beq_iff_eq.2 hp] at h37
   have h37:(((s.getD 0 0).toNat:Int) != 37)=false:=by unfold bne;rw [h37];rfl
   have e1:EqvD (.c (.str ((s.take s.length).drop 1))) (.c (.str (s.drop 1))):=eqvD_of (by rw [List.take_length])
   clear hp
   by_cases h3:3≤s.length
   ·rw [if_pos h3]
    have c1:Pur Tryz.prog Gp 305 [.c (.str (s.drop 1))] [.c (.int .u8 ((byX (s.drop 1)).toNat:Int)),.c (.bool (hexOk (s.drop 1)))]:=byByte_ok (s.drop 1) (by rw [List.length_drop];omega)
    have c2:=bare_ok (G:=Gp) (byX (s.drop 1)) form
    generalize byX (s.drop 1)=x at *
    cases hx:hexOk (s.drop 1) with
    | false =>
     rw [hx] at c1
     rw [if_neg dC]
     generalize bareB form x=B at *
     clear hx h3
     refine zg [(9,{cs:=[(2,pc c1)],fm:=[(1,.c (.str (s.drop 1)))]}),(10,{cs:=[(2,pc c2)]})] [false,false,true] [(0:Int)≤(0:Int)∧(0:Int)<(s.length:Int),(bif form then (↑(s.getD (0:Nat) (0:UInt8)).toNat:Int)==(43:Int) else false)=false,((↑(s.getD (0:Nat) (0:UInt8)).toNat:Int) != (37:Int))=false,EqvI (.c (.str (List.drop (1:Nat) (List.take (Int.ofNat s.length).toNat s)))) (.c (.str (List.drop (1:Nat) s))),EqvD (.c (.str (List.drop (1:Nat) (List.take (Int.ofNat s.length).toNat s)))) (.c (.str (List.drop (1:Nat) s))),(0:Int)≤Int.ofNat (1)∧Int.ofNat (1)≤Int.ofNat s.length∧Int.ofNat s.length≤(s.length:Int),(bif !false then true else B)=true] ⟨oM,aS,aS,fun _ _=>trivial,aS,⟨dC,⟨sO,(by simp;done)⟩⟩,rfl⟩ ?_
     exact zr
    | true =>
     rw [hx] at c1
     rw [if_pos rfl]
     cases hb:bareB form x with
     | true =>
      rw [hb] at c2
      rw [if_pos rfl]
      clear hx h3 hb
      refine zg [(9,{cs:=[(2,pc c1)],fm:=[(1,.c (.str (s.drop 1)))]}),(10,{cs:=[(2,pc c2)]})] [false,false,true] [(0:Int)≤(0:Int)∧(0:Int)<(s.length:Int),(bif form then (↑(s.getD (0:Nat) (0:UInt8)).toNat:Int)==(43:Int) else false)=false,((↑(s.getD (0:Nat) (0:UInt8)).toNat:Int) != (37:Int))=false,EqvI (.c (.str (List.drop (1:Nat) (List.take (Int.ofNat s.length).toNat s)))) (.c (.str (List.drop (1:Nat) s))),EqvD (.c (.str (List.drop (1:Nat) (List.take (Int.ofNat s.length).toNat s)))) (.c (.str (List.drop (1:Nat) s))),(0:Int)≤Int.ofNat (1)∧Int.ofNat (1)≤Int.ofNat s.length∧Int.ofNat s.length≤(s.length:Int),(bif !true then true else true)=true] ⟨oM,aS,aS,fun _ _=>trivial,aS,⟨dC,⟨sO,(by simp;done)⟩⟩,rfl⟩ ?_
      exact zr
     | false =>
      rw [hb] at c2
      rw [if_neg dC]
      clear hx h3 hb
      refine zg [(9,{cs:=[(2,pc c1)],fm:=[(1,.c (.str (s.drop 1)))]}),(10,{cs:=[(2,pc c2)]})] [false,false,false] [(0:Int)≤(0:Int)∧(0:Int)<(s.length:Int),(bif form then (↑(s.getD (0:Nat) (0:UInt8)).toNat:Int)==(43:Int) else false)=false,((↑(s.getD (0:Nat) (0:UInt8)).toNat:Int) != (37:Int))=false,EqvI (.c (.str (List.drop (1:Nat) (List.take (Int.ofNat s.length).toNat s)))) (.c (.str (List.drop (1:Nat) s))),EqvD (.c (.str (List.drop (1:Nat) (List.take (Int.ofNat s.length).toNat s)))) (.c (.str (List.drop (1:Nat) s))),(0:Int)≤Int.ofNat (1)∧Int.ofNat (1)≤Int.ofNat s.length∧Int.ofNat s.length≤(s.length:Int),(bif !true then true else false)=false] ⟨oM,aS,aS,fun _ _=>trivial,aS,⟨dC,⟨sO,(by simp;done)⟩⟩,rfl⟩ ?_
      exact zr
   ·rw [if_neg h3]
    have c1:=byByte_no (G:=Gp) (s.drop 1) (by rw [List.length_drop];omega)
    have c2:Pur Tryz.prog Gp 252 [.c (.int .u8 0),.c (.bool form)] [.c (.int .i32 ((bareR form 0).toNat:Int)),.c (.bool (bareB form 0))]:=bare_ok (G:=Gp) 0 form
    generalize bareB form 0=B at *
    clear h3
    refine zg [(9,{cs:=[(2,pc c1)],fm:=[(1,.c (.str (s.drop 1)))]}),(10,{cs:=[(2,pc c2)]})] [false,false,true] [(0:Int)≤(0:Int)∧(0:Int)<(s.length:Int),(bif form then (↑(s.getD (0:Nat) (0:UInt8)).toNat:Int)==(43:Int) else false)=false,((↑(s.getD (0:Nat) (0:UInt8)).toNat:Int) != (37:Int))=false,EqvI (.c (.str (List.drop (1:Nat) (List.take (Int.ofNat s.length).toNat s)))) (.c (.str (List.drop (1:Nat) s))),EqvD (.c (.str (List.drop (1:Nat) (List.take (Int.ofNat s.length).toNat s)))) (.c (.str (List.drop (1:Nat) s))),(0:Int)≤Int.ofNat (1)∧Int.ofNat (1)≤Int.ofNat s.length∧Int.ofNat s.length≤(s.length:Int),(bif !false then true else B)=true] ⟨oM,aS,aS,fun _ _=>trivial,aS,⟨dC,⟨sO,(by simp;done)⟩⟩,rfl⟩ ?_
    exact zr
  ·rw [if_neg hp]
   rw [beq_eq_false_iff_ne.2 hp] at h37
   have h37:(((s.getD 0 0).toNat:Int) != 37)=true:=by unfold bne;rw [h37];rfl
   have c2:=bare_ok (G:=Gp) (s.getD 0 0) false
   have hb:bareB false (s.getD 0 0)=plainB (s.getD 0 0):=by unfold bareB;simp
   rw [hb] at c2
   clear hp hb
   cases hx:plainB (s.getD 0 0) with
   | true =>
    rw [hx] at c2
    rw [if_pos rfl]
    clear hx
    refine zg [(5,{cs:=[(1,pc c2)]})] [false,true,true] [(0:Int)≤(0:Int)∧(0:Int)<(s.length:Int),(bif form then (↑(s.getD (0:Nat) (0:UInt8)).toNat:Int)==(43:Int) else false)=false,((↑(s.getD (0:Nat) (0:UInt8)).toNat:Int) != (37:Int))=true,true=true] ⟨oM,aS,aS,rfl⟩ ?_
    exact zr
   | false =>
    rw [hx] at c2
    rw [if_neg dC]
    clear hx
    refine zg [(5,{cs:=[(1,pc c2)]})] [false,true,false] [(0:Int)≤(0:Int)∧(0:Int)<(s.length:Int),(bif form then (↑(s.getD (0:Nat) (0:UInt8)).toNat:Int)==(43:Int) else false)=false,((↑(s.getD (0:Nat) (0:UInt8)).toNat:Int) != (37:Int))=true,false=false] ⟨oM,aS,aS,rfl⟩ ?_
    exact zr
theorem oneW_len (form:Bool) (s:List UInt8) (h:1≤s.length):(oneW form s).2≤s.length:=by
 unfold oneW
 repeat' split
 all_goals first | omega | (show 1≤_;omega) | (show 3≤_;omega) | (show 0≤_;omega)
theorem pdec_ok (s:List UInt8) (form:Bool) (hl:s.length≤10000000000):Pur Tryz.prog Gp 276 [.c (.str s),.c (.bool form)] [.c (.str (decT form s).1),.c (.int .i64 (decT form s).2)]:=by
 refine zp Tryz.func276 ?_
 rw [decT_P]
 refine z0 [] [] ?_
 refine Wp.loopK kR (fun (x:Nat×Nat×List UInt8)=>⟨[(0,.v (.c (.str (s.drop x.1)))),(1,.v (.c (.bool form))),(6,.v (.c (.row 1 48 0 x.2.1)))],[(48,.row 5 1 x.2.1 (bytesF x.2.2))],64⟩) (fun x=>x.1≤s.length∧x.2.1=x.2.2.length∧x.2.1≤x.1∧decP form s=(decP form (s.drop x.1)).map (x.2.2++·)) (fun x=>s.length-x.1) (0,0,[]) (Ent.trans (Ent.empT (t:=6) (sz:=1) (e:=5) (f:=(bytesF [])) dC kR rfl) (Ent.of [] kR kR kR trivial)) ⟨Nat.zero_le _,rfl,Nat.le_refl _,by rw [List.drop_zero];simp⟩ ?_
 rintro ⟨k,n,l⟩ L ⟨hk,hn,hnk,hq⟩ again
 simp only at hk hn hnk hq
 rcases Nat.lt_or_ge k s.length with hlt | hge
 ·have hne:(s.drop k != [])=true:=by rw [dropS s k hlt];rfl
  have c1:=one_ok (s.drop k) form (by rw [List.length_drop];omega)
  have hol:=oneW_len form (s.drop k) (by rw [List.length_drop];omega)
  rw [List.length_drop] at hol
  have hst:decP form (s.drop k)=if (oneW form (s.drop k)).2=0 then none else (decP form ((s.drop k).drop (oneW form (s.drop k)).2)).map ((oneW form (s.drop k)).1::·):=by
   have:=decP_step form (s.getD k 0) (s.drop (k+1))
   rw [← dropS s k hlt] at this
   exact this
  rw [hst] at hq
  clear hst
  generalize oneW form (s.drop k)=y at *
  obtain ⟨c',n'⟩:=y
  simp only at hq hol c1
  by_cases h0:n'=0
  ·subst h0
   rw [if_pos rfl] at hq
   rw [hq]
   clear again hq
   refine zg [(3,{cs:=[(2,pc c1)]})] [true,true] [(!List.drop k s==[])=true,((↑(0:Nat):Int)==(0:Int))=true] ⟨aS,rfl⟩ ?_
   exact zr
  ·rw [if_neg h0] at hq
   have hz:((n':Int)==0)=false:=by simp;omega
   have e1:BlkEqv (.row 5 1 (n+1) (catF n (bytesF l) (fun i j=>nthD [.int .u8 (c'.toNat:Int)] ((0+i)*1+j)))) (.row 5 1 (n+1) (bytesF (l++[c']))):=bytes_app l [c'] hn
   have e2:EqvD (.c (.str (((s.drop k).take (s.drop k).length).drop n'))) (.c (.str (s.drop (k+n')))):=eqvD_of (by rw [List.take_length,List.drop_drop])
   have hq2:decP form s=(decP form (s.drop (k+n'))).map ((l++[c'])++·):=by
    rw [hq,List.drop_drop]
    cases decP form (s.drop (k+n'))<;>simp
   have hn2:n+1=(l++[c']).length:=by simp [hn]
   have hb0:n'≤(s.drop k).length:=by rw [List.length_drop];omega
   clear hq
   refine zg [(6,{fm:=[(6,.c (.str (s.drop (k+n'))))],bs:=[(3,.row 5 1 (n+1) (bytesF (l++[c'])))]}),(3,{cs:=[(2,pc c1)]})] [true,false] [(!List.drop k s==[])=true,((n':Int)==(0:Int))=false,(n+1)*1≤140737488355328,BlkEqv (.row 5 (1:Nat) (n+(1:Nat)) (catF n (bytesF l) fun i j=>nthD [.int .u8 (c'.toNat:Int)] (((0:Nat)+i)*(1:Nat)+j))) (.row 5 (1:Nat) (n+(1:Nat)) (bytesF (l++[c']))),n≤n,0+1≤1,EqvI (.c (.str (List.drop (Int.ofNat n').toNat (List.take (Int.ofNat (List.drop k s).length).toNat (List.drop k s))))) (.c (.str (List.drop (k+n') s))),EqvD (.c (.str (List.drop (Int.ofNat n').toNat (List.take (Int.ofNat (List.drop k s).length).toNat (List.drop k s))))) (.c (.str (List.drop (k+n') s))),(0:Int)≤Int.ofNat n'∧Int.ofNat n'≤Int.ofNat (List.drop k s).length∧Int.ofNat (List.drop k s).length≤(↑(List.drop k s).length:Int)] ⟨aS,aS,oM,aS,oM,oM,fun _ _=>trivial,aS,⟨(by simp;done),⟨sO,(by simp;done)⟩⟩⟩ ?_
   exact za [(48,304)] (again _ (k+n',n+1,l++[c']) ⟨oM,⟨aS,⟨sO,aS⟩⟩⟩ oM)
 ·have hnil:s.drop k=[]:=List.drop_eq_nil_of_le hge
  have hne:(s.drop k != [])=false:=by rw [hnil];rfl
  rw [hnil] at hq
  have hq:decP form s=some l:=by rw [hq];simp [decP,decL,pctT]
  rw [hq]
  have ea:byteL (bytesF l) 0 n=l:=byteL_F _ hn
  have eb:areBytes (bytesF l) 0 n:=areBytes_F _ _ _
  have ee:EqvD (.c (.str (byteL (bytesF l) 0 n))) (.c (.str l)):=eqvD_of (by rw [ea])
  clear again hq hnil
  refine zg [(7,{fm:=[(1,.c (.str l))]})] [false] [(!List.drop k s==[])=false,EqvI (.c (.str (byteL (bytesF l) 0 n))) (.c (.str l)),EqvD (.c (.str (byteL (bytesF l) 0 n))) (.c (.str l)),0+n≤n,areBytes (bytesF l) 0 n] ⟨aS,fun _ _=>trivial,aS,oM,(show areBytes (bytesF l) (0:Nat) n from aS)⟩ ?_
  exact zr
def fieldQ (f:FT):List UInt8:=pctT true f.name++[61]++pctT true f.value
def partsQ (l:List FT) (k:Nat):List (List UInt8):=(l.take k).map fieldQ
def printQ (l:List FT):List UInt8:=Lib.join (l.map fieldQ) [38]
theorem partsQ_succ (l:List FT) (k:Nat) (h:k<l.length):partsQ l (k+1)=partsQ l k++[fieldQ (l.getD k .nil)]:=by
 unfold partsQ
 rw [List.take_succ_eq_append_getElem h,List.map_append,List.getD_eq_getElem?_getD,List.getElem?_eq_getElem h]
 rfl
theorem partsQ_end (l:List FT):Lib.join (partsQ l l.length) [38]=printQ l:=by unfold partsQ printQ;rw [List.take_length]
theorem partsQ_len (l:List FT) (k:Nat) (h:k≤l.length):(partsQ l k).length=k:=by unfold partsQ;simp;omega
theorem pctT_len (form:Bool) (s:List UInt8):s.length≤(pctT form s).length:=by
 have:=pctN_len form s s.length (Nat.le_refl _)
 rw [pctN_end] at this
 exact this.1
theorem fieldQ_len (f:FT):(fieldQ f).length=(pctT true f.name).length+(pctT true f.value).length+1:=by unfold fieldQ;simp;omega
theorem fieldQ_le (l:List FT) {k:Nat} (h:k<l.length):(fieldQ (l.getD k .nil)).length≤(printQ l).length:=by
 have hm:fieldQ (l.getD k .nil)∈l.map fieldQ:=List.mem_map.2 ⟨_,by rw [List.getD_eq_getElem?_getD,List.getElem?_eq_getElem h];exact List.getElem_mem h,rfl⟩
 exact join_part [38] hm
theorem str_one (l:List (List UInt8)) (i j:Nat) (hj:j<1):strsF l (0+i) j=nthD [.str (l.getD i [])] j:=by
 obtain rfl:j=0:=by omega
 rw [Nat.zero_add];rfl
theorem printQ_ok (l:List FT) (hn:l.length≤1000000000000) (hj:(printQ l).length≤10000000000000):Pur Tryz.prog Gp 153 [.c (encH l)] [.c (.str (printQ l))]:=by
 refine zp Tryz.func153 ?_
 refine z0 [] [] ?_
 refine Wp.loopK kR (fun (k:Nat)=>⟨[(3,.v (.c (.row 1 80 0 k))),(6,.v (.c (encH l))),(7,.v (.c (.int .i64 (l.length:Int)))),(8,.v (.c (.int .i64 (k:Int))))],[(80,.row 9 1 k (strsF (partsQ l k)))],96⟩)
  (fun k=>k≤l.length) (fun k=>l.length-k) 0 (Ent.trans (Ent.empT (t:=3) (sz:=1) (e:=9) (f:=strsF []) dC kR rfl) (Ent.of [] kR kR kR trivial)) (Nat.zero_le _) ?_
 intro k L hk again
 rcases Nat.lt_or_ge k l.length with hlt | hge
 ·have h1:=fieldQ_le l hlt
  rw [fieldQ_len] at h1
  have h2:=pctT_len true (l.getD k .nil).name
  have h3:=pctT_len true (l.getD k .nil).value
  have e1:BlkEqv (.row 9 1 (k+1) (catF k (strsF (partsQ l k)) (fun i j=>nthD [.str (pctT true (l.getD k .nil).name++[61]++pctT true (l.getD k .nil).value)] ((0+i)*1+j)))) (.row 9 1 (k+1) (strsF (partsQ l (k+1)))):=by
   rw [partsQ_succ l k hlt];exact strs_app _ _ (partsQ_len l k oM).symm
  refine zg [(5,{cs:=[(3,pc (enc_ok ((l.getD k .nil).name) true oM)),(7,pc (enc_ok ((l.getD k .nil).value) true oM))],bs:=[(10,.row 9 1 (k+1) (strsF (partsQ l (k+1))))]})] [true] [decide ((k:Int)<(l.length:Int))=true,(0:Int)≤(k:Int)∧(k:Int)<(l.length:Int),(pctT true (l.getD k .nil).name).length+1≤9223372036854775807,(pctT true (l.getD k .nil).name++[(61:UInt8)]).length+(pctT true (l.getD k .nil).value).length≤(9223372036854775807:Nat),(k+1)*16≤140737488355328,BlkEqv (.row 9 (1:Nat) (k+(1:Nat)) (catF k (strsF (partsQ l k)) fun i j=>nthD [.str (pctT true (l.getD k .nil).name++[(61:UInt8)]++pctT true (l.getD k .nil).value)] (((0:Nat)+i)*(1:Nat)+j))) (.row 9 (1:Nat) (k+(1:Nat)) (strsF (partsQ l (k+(1:Nat))))),k≤k,0+1≤1,inR .i64 ((k:Int)+1)] ⟨sO,oM,oM,(by simp_all<;>omega),oM,aS,oM,oM,i6⟩ ?_
  exact za [(80,336)] (again _ (k+1) aS oM)
 ·obtain rfl:k=l.length:=by omega
  have hp:=partsQ_len l l.length (Nat.le_refl _)
  have hjn:(Lib.join (partsQ l l.length) [38]).length≤140737488355328:=by rw [partsQ_end];omega
  have cj:Pur Tryz.prog Gp 210 [.c (.sl 1 (partsQ l l.length).length (fun i j=>nthD [.str ((partsQ l l.length).getD i [])] j)),.c (.str [38])] [.c (.str (printQ l))]:=by
   have:=lib_Join (G:=Gp) (partsQ l l.length) [38] oM hjn
   rw [partsQ_end] at this
   exact this
  refine Wp.ent' kR (Ent.pubT (e:=9) (sz:=1) (id:=80) (t:=3) (off:=0) (m:=l.length) (n:=l.length) (f:=(strsF (partsQ l l.length))) (m':=(partsQ l l.length).length) (f':=(fun i j=>nthD [.str ((partsQ l l.length).getD i [])] j)) kR kR oM hp.symm (fun i _ j hj=>str_one _ i j hj) rfl) ?_
  refine zg [(7,{cs:=[(1,pc cj)]})] [false] [decide ((l.length:Int)<(l.length:Int))=false] (show decide ((↑l.length:Int)<(↑l.length:Int))=false from (by simp;done)) ?_
  exact zr
end Go.Proofs.Tw
end
section
open Go Go.Sv Go.RowKit
namespace Go.Proofs.Tw
attribute [local irreducible] Wp FinQ resV Ent Pur Go.Sv.Fn Sat0
set_option maxRecDepth 100000
set_option maxHeartbeats 4000000
variable {G:Nat→Option (List Cell)} [Back G]
def isIn (l:List (List UInt8)) (s:List UInt8):Bool:=l.any (·==s)
end Go.Proofs.Tw
end
section
open Go Go.Sv Go.RowKit
namespace Go.Proofs.Tw
attribute [local irreducible] Wp FinQ resV Ent Pur Go.Sv.Fn Sat0
set_option maxRecDepth 100000
set_option maxHeartbeats 4000000
variable {G:Nat→Option (List Cell)}
def namesQ (l:List FT) (k:Nat):List (List UInt8):=(l.take k).map (·.name)
def okQ (l:List FT) (i:Nat):Bool := !((l.getD i .nil).name==[]) && !isIn (namesQ l i) (l.getD i .nil).name
def unlikeQ (l:List FT):Bool:=(List.range l.length).all (okQ l)
theorem fGet_isIn (l:List FT) (k:Nat) (s:List UInt8):(fGet (l.take k) s).isSome=isIn (namesQ l k) s:=by
 unfold fGet isIn namesQ
 rw [Option.isSome_map,List.any_map,Bool.eq_iff_iff,List.find?_isSome]
 simp
theorem unlike10_ok {G:Nat→Option (List Cell)} [Back G] (l:List FT) (hl:l.length<1000000000000):Pur Tryz.prog G 216 [.c (encH l)] [.c (.bool (unlikeQ l))]:=by
 refine zp Tryz.func216 ?_
 refine z0 [] [] ?_
 refine zl (fun (k:Nat)=>⟨[(0,.v (.c (encH l))),(3,.v (.c (.int .i64 (k:Int))))],[],32⟩) (fun k=>k≤l.length∧∀ i,i<k→okQ l i=true) (fun k=>l.length-k) 0 ⟨Nat.zero_le _,fun _ h=>absurd h (Nat.not_lt_zero _)⟩ ?_
 intro k L ⟨hk,hall⟩ again
 rcases Nat.lt_or_ge k l.length with hlt | hge
 ·have htl:(l.take k).length=k:=by rw [List.length_take];omega
  have e1:EqvD (V1.c (Cell.sl 2 k (fun i j=>nthD (encF (l.getD (0+i) .nil)) j))) (.c (encH (l.take k))):=by
   refine EqvD.sl htl.symm fun i hi j hj => ?_
   simp [List.getD,List.getElem?_take,hi]
  have c:=has10_n (G:=G) (l.take k) (l.take k).length (l.getD k .nil).name rfl oM
  rw [fGet_isIn l k] at c
  cases hn:(l.getD k .nil).name==[] with
  | true =>
   have hu:unlikeQ l=false:=all_range_false hlt (by unfold okQ;rw [hn];rfl)
   rw [hu]
   refine zg [(4,{cs:=[(15,pc c)],fm:=[(9,.c (encH (l.take k)))]})] [true,true] [decide ((k:Int)<(l.length:Int))=true,(0:Int)≤(k:Int)∧(k:Int)<(l.length:Int),EqvI (.c (.sl 2 ((Int.ofNat k).toNat-(0:Nat)) fun i j=>nthD [.str (l.getD ((0:Nat)+i) FT.nil).name,.str (l.getD ((0:Nat)+i) FT.nil).value] j)) (.c (encH (List.take k l))),((l.getD k .nil).name==[])=false→EqvD (.c (.sl 2 ((Int.ofNat k).toNat-(0:Nat)) fun i j=>nthD [.str (l.getD ((0:Nat)+i) FT.nil).name,.str (l.getD ((0:Nat)+i) FT.nil).value] j)) (.c (encH (List.take k l))),((l.getD k .nil).name==[])=false→(0:Int)≤Int.ofNat (0)∧Int.ofNat (0)≤Int.ofNat k∧Int.ofNat k≤(l.length:Int),((l.getD k .nil).name==[])=false→(0:Int)≤(k:Int)∧(k:Int)<(l.length:Int),(bif (l.getD k .nil).name==[] then true else isIn (namesQ l k) (l.getD k .nil).name)=true] ⟨sO,oM,fun _ _=>trivial,(by intro _;assumption),sO,oM,(show (bif (l.getD k .nil).name==[] then true else isIn (namesQ l k) (l.getD k .nil).name)=true from (by simp_all<;>omega))⟩ ?_
   exact zr
  | false =>
   cases hi:isIn (namesQ l k) (l.getD k .nil).name with
   | true =>
    have hu:unlikeQ l=false:=all_range_false hlt (by unfold okQ;rw [hn,hi];rfl)
    rw [hu]
    rw [hi] at c
    refine zg [(4,{cs:=[(15,pc c)],fm:=[(9,.c (encH (l.take k)))]})] [true,true] [decide ((k:Int)<(l.length:Int))=true,(0:Int)≤(k:Int)∧(k:Int)<(l.length:Int),EqvI (.c (.sl 2 ((Int.ofNat k).toNat-(0:Nat)) fun i j=>nthD [.str (l.getD ((0:Nat)+i) FT.nil).name,.str (l.getD ((0:Nat)+i) FT.nil).value] j)) (.c (encH (List.take k l))),((l.getD k .nil).name==[])=false→EqvD (.c (.sl 2 ((Int.ofNat k).toNat-(0:Nat)) fun i j=>nthD [.str (l.getD ((0:Nat)+i) FT.nil).name,.str (l.getD ((0:Nat)+i) FT.nil).value] j)) (.c (encH (List.take k l))),((l.getD k .nil).name==[])=false→(0:Int)≤Int.ofNat (0)∧Int.ofNat (0)≤Int.ofNat k∧Int.ofNat k≤(l.length:Int),((l.getD k .nil).name==[])=false→(0:Int)≤(k:Int)∧(k:Int)<(l.length:Int),(bif (l.getD k .nil).name==[] then true else true)=true] ⟨sO,oM,fun _ _=>trivial,(by intro _;assumption),sO,oM,(show (bif (l.getD k .nil).name==[] then true else true)=true from (by simp;done))⟩ ?_
    exact zr
   | false =>
    have ho:okQ l k=true:=by unfold okQ;rw [hn,hi];rfl
    have hall':=up1 hall ho
    rw [hi] at c
    refine zg [(4,{cs:=[(15,pc c)],fm:=[(9,.c (encH (l.take k)))]})] [true,false] [decide ((k:Int)<(l.length:Int))=true,(0:Int)≤(k:Int)∧(k:Int)<(l.length:Int),EqvI (.c (.sl 2 ((Int.ofNat k).toNat-(0:Nat)) fun i j=>nthD [.str (l.getD ((0:Nat)+i) FT.nil).name,.str (l.getD ((0:Nat)+i) FT.nil).value] j)) (.c (encH (List.take k l))),((l.getD k .nil).name==[])=false→EqvD (.c (.sl 2 ((Int.ofNat k).toNat-(0:Nat)) fun i j=>nthD [.str (l.getD ((0:Nat)+i) FT.nil).name,.str (l.getD ((0:Nat)+i) FT.nil).value] j)) (.c (encH (List.take k l))),((l.getD k .nil).name==[])=false→(0:Int)≤Int.ofNat (0)∧Int.ofNat (0)≤Int.ofNat k∧Int.ofNat k≤(l.length:Int),((l.getD k .nil).name==[])=false→(0:Int)≤(k:Int)∧(k:Int)<(l.length:Int),(bif (l.getD k .nil).name==[] then true else false)=false,inR .i64 ((k:Int)+1)] ⟨sO,oM,fun _ _=>trivial,(by intro _;assumption),sO,oM,(by simp_all<;>omega),i6⟩ ?_
    exact za [] (again _ (k+1) ⟨aS,aS⟩ oM)
 ·have hu:unlikeQ l=true:=all_range_true (fun i hi=>hall i oM)
  rw [hu]
  refine zg [] [false] [decide ((k:Int)<(l.length:Int))=false] (oN sO) ?_
  exact zr
end Go.Proofs.Tw
end
section
open Go Go.Sv Go.RowKit
namespace Go.Proofs.Tw
attribute [local irreducible] Wp FinQ resV Ent Pur Go.Sv.Fn Sat0
set_option maxRecDepth 100000
set_option maxHeartbeats 4000000
variable {G:Nat→Option (List Cell)} [Back G]
def ptN (p:List UInt8):List UInt8×Int:=decT true (Lib.cut p [61]).1
def ptV (p:List UInt8):List UInt8×Int:=decT true (Lib.cut p [61]).2.1
def ptF (p:List UInt8):FT:=⟨(ptN p).1,(ptV p).1⟩
def ptBad (p:List UInt8):Bool:=bif bif bif !(Lib.cut p [61]).2.2 then true else (ptN p).2 != 0 then true else (ptV p).2 != 0 then true else (ptN p).1==[]
def partsP:List (List UInt8)→List FT→List FT×Int
 | [],acc=>(acc,0)
 | p::r,acc=>if ptBad p then ([],3) else if (fGet acc (ptF p).name).isSome then ([],6) else partsP r (acc++[ptF p])
def parseF (s:List UInt8):List FT×Int:=if s=[] then ([],0) else if (Lib.split s [38]).length>24 then ([],7) else partsP (Lib.split s [38]) []
def splitB (s:List UInt8):Bool:=bif !pathT (Lib.cut s [63]).1 then true else bif (Lib.cut s [63]).2.2 then (Lib.cut s [63]).2.1==[] else false
def splitU (s:List UInt8):List UInt8×List FT×Int:=if s.length>1024 then ([],[],4) else if splitB s then ([],[],3) else if (parseF (Lib.cut s [63]).2.1).2=0 then ((Lib.cut s [63]).1,(parseF (Lib.cut s [63]).2.1).1,0) else ([],[],(parseF (Lib.cut s [63]).2.1).2)
theorem qparse1_ok (x q:FT):FnB Tryz.prog G 250 [ckX q] [.agg (encF x),.c (.ptr 0 0)] [.c (.bool (ckP q x))] [(0,ckX q)]:=by
 refine zf Tryz.func250 ?_
 refine z0 [] [] ?_
 exact zb []
theorem idxQf_ok (l:List FT) (q:FT) (hl:l.length<1000000000000):FnB Tryz.prog G 277 [ckB l,ckX q] [.c (.row 2 0 0 l.length),.c (clo1 250 (.ptr 1 0))] [.c (.int .i64 (ixF (ckP q) l))] [(0,ckB l),(1,ckX q)]:=by
 refine zf Tryz.func277 ?_
 refine z0 [] [] ?_
 refine zl (fun (k:Nat)=>⟨[(0,.v (.c (.row 2 0 0 l.length))),(1,.v (.c (clo1 250 (.ptr 1 0)))),(7,.v (.c (.int .i64 (l.length:Int)))),(8,.v (.c (.int .i64 (k:Int))))],[(0,ckB l),(1,ckX q)],2⟩) (fun k=>k≤l.length∧∀ i,i<k→ckP q (l.getD i .nil)=false) (fun k=>l.length-k) 0 ⟨Nat.zero_le _,fun i hi=>absurd hi (Nat.not_lt_zero i)⟩ ?_
 rintro k L ⟨hk,hall⟩ again
 rcases Nat.lt_or_ge k l.length with hlt | hge
 ·have c:=qparse1_ok (G:=G) (l.getD k .nil) q
  have e2:EqvD (.agg (encF (l.getD (0+k) .nil))) (.agg (encF (l.getD k .nil))):=eqvD_of (by rw [Nat.zero_add])
  cases hp:ckP q (l.getD k .nil) with
  | true =>
   rw [hp] at c
   rw [ixF_some hlt hall hp]
   clear hp hall
   refine zg [(4,{cs:=[(5,cb [1] c)],fm:=[(4,.agg (encF (l.getD k .nil)))]})] [true,true] [decide ((k:Int)<(l.length:Int))=true,(0:Int)≤(k:Int)∧(k:Int)<(l.length:Int),0+k<l.length,EqvD (.agg [.str (l.getD (0+k) FT.nil).name,.str (l.getD (0+k) FT.nil).value]) (.agg (encF (l.getD k .nil))),true=true] ⟨sO,oM,oM,aS,rfl⟩ ?_
   exact zb []
  | false =>
   rw [hp] at c
   have hall2:=up1 hall hp
   clear hp hall
   refine zg [(4,{cs:=[(5,cb [1] c)],fm:=[(4,.agg (encF (l.getD k .nil)))]})] [true,false] [decide ((k:Int)<(l.length:Int))=true,(0:Int)≤(k:Int)∧(k:Int)<(l.length:Int),0+k<l.length,EqvD (.agg [.str (l.getD (0+k) FT.nil).name,.str (l.getD (0+k) FT.nil).value]) (.agg (encF (l.getD k .nil))),false=false,inR .i64 ((k:Int)+1)] ⟨sO,oM,oM,aS,rfl,i6⟩ ?_
   exact za [] (again _ (k+1) ⟨aS,aS⟩ oM)
 ·rw [ixF_none (d := .nil) (fun i hi=>hall i oM)]
  clear hall
  refine zg [] [false] [decide ((k:Int)<(l.length:Int))=false] (oN sO) ?_
  exact zb []
theorem conQf_ok (l:List FT) (q:FT) (hl:l.length<1000000000000):FnB Tryz.prog G 249 [ckB l,ckX q] [.c (.row 2 0 0 l.length),.c (clo1 250 (.ptr 1 0))] [.c (.bool (l.any (ckP q)))] [(0,ckB l),(1,ckX q)]:=by
 refine zf Tryz.func249 ?_
 rw [← ixF_any]
 have c:=idxQf_ok (G:=G) l q hl
 refine z0 [(1,{cs:=[(2,cb [0,1] c)]})] [] ?_
 exact zb []
def Gq (m:Int):Nat→Option (List Cell)
 | 2=>some [.int .i64 m]
 | n=>Gp n
instance back_Gq (m:Int):Back (Gq m):=⟨fun h=>by cases h⟩
theorem Gp_Gq (m:Int):∀ g cs,Gp g=some cs→Gq m g=some cs:=by
 intro g cs h
 unfold Gq
 split
 ·exact absurd h (by rw [show Gp 2=none from rfl];simp)
 ·exact h
theorem qdec_ok {m:Int} (s:List UInt8) (form:Bool) (hl:s.length≤10000000000):Pur Tryz.prog (Gq m) 276 [.c (.str s),.c (.bool form)] [.c (.str (decT form s).1),.c (.int .i64 (decT form s).2)]:=Pur.grow (Gp_Gq m) (pdec_ok s form hl)
theorem qfield_no {m:Int} (p:List UInt8) (hl:p.length<1000000000) (h:ptBad p=true):Pur Tryz.prog (Gq m) 248 [.c (.str p)] [.agg (encF .nil),.c (.bool false)]:=by
 refine zp Tryz.func248 ?_
 have hc:=cut_len p [61]
 have c2:=lib_Cut (G:=Gq m) (m:=m) rfl p [61] oM
 have c3:Pur Tryz.prog (Gq m) 276 [.c (.str (Lib.cut p [61]).1),.c (.bool true)] [.c (.str (ptN p).1),.c (.int .i64 (ptN p).2)]:=qdec_ok _ true oM
 have c4:Pur Tryz.prog (Gq m) 276 [.c (.str (Lib.cut p [61]).2.1),.c (.bool true)] [.c (.str (ptV p).1),.c (.int .i64 (ptV p).2)]:=qdec_ok _ true oM
 unfold ptBad at h
 have h:(bif bif bif !(Lib.cut p [61]).2.2 then true else (ptN p).2 != 0 then true else (ptV p).2 != 0 then true else (ptN p).1==[])=true:=h
 clear hc
 refine zg [(1,{cs:=[(1,pc c2)]}),(2,{cs:=[(1,pc c3)]}),(3,{cs:=[(1,pc c4)]})] [true] [(bif bif bif !(Lib.cut p [(61:UInt8)]).2.snd then true else (ptN p).2 != (0:Int) then true else (ptV p).2 != (0:Int) then true else (ptN p).1==[])=true] (oN aS) ?_
 exact zr
theorem qfield_yes {m:Int} (p:List UInt8) (hl:p.length<1000000000) (h:ptBad p=false):Pur Tryz.prog (Gq m) 248 [.c (.str p)] [.agg (encF (ptF p)),.c (.bool true)]:=by
 refine zp Tryz.func248 ?_
 have hc:=cut_len p [61]
 have c2:=lib_Cut (G:=Gq m) (m:=m) rfl p [61] oM
 have c3:Pur Tryz.prog (Gq m) 276 [.c (.str (Lib.cut p [61]).1),.c (.bool true)] [.c (.str (ptN p).1),.c (.int .i64 (ptN p).2)]:=qdec_ok _ true oM
 have c4:Pur Tryz.prog (Gq m) 276 [.c (.str (Lib.cut p [61]).2.1),.c (.bool true)] [.c (.str (ptV p).1),.c (.int .i64 (ptV p).2)]:=qdec_ok _ true oM
 unfold ptBad at h
 clear hc
 refine zg [(1,{cs:=[(1,pc c2)]}),(2,{cs:=[(1,pc c3)]}),(3,{cs:=[(1,pc c4)]})] [false] [(bif bif bif !(Lib.cut p [(61:UInt8)]).2.snd then true else (ptN p).2 != (0:Int) then true else (ptV p).2 != (0:Int) then true else (ptN p).1==[])=false] (oN aS) ?_
 exact zr
theorem qparse_ok {m:Int} (s:List UInt8) (hl:s.length<1000000000):Pur Tryz.prog (Gq m) 204 [.c (.str s)] [.c (encH (parseF s).1),.c (.int .i64 (parseF s).2)]:=by
 refine zp Tryz.func204 ?_
 have hnil:EqvD (.c .nilsl) (.c (encH [])):=nil_eqv _ _
 unfold parseF
 by_cases h0:s=[]
 ·rw [if_pos h0]
  have hb:(s==[])=true:=by rw [h0];rfl
  refine zg [(7,{fm:=[(0,.c (encH []))]})] [true] [(s==[])=true,EqvI (.c .nilsl) (.c (encH [])),EqvD (.c .nilsl) (.c (encH []))] ⟨aS,fun _ _=>trivial,(show EqvD (.c .nilsl) (.c (encH [])) from aS)⟩ ?_
  exact zr
 rw [if_neg h0]
 have hb:(s==[])=false:=by simpa using h0
 have c1:=lib_Split (G:=Gq m) (m:=m) rfl s [38] oM dC
 have hel:=split_el s [38]
 generalize Lib.split s [38]=l at c1 hel
 by_cases h1:l.length>24
 ·rw [if_pos h1]
  have ht:decide ((l.length:Int)>24)=true:=by simp;omega
  refine zg [(23,{fm:=[(1,.c (encH []))]}),(8,{cs:=[(1,pc c1)]})] [false,true] [(s==[])=false,decide ((l.length:Int)>24)=true,EqvI (.c .nilsl) (.c (encH [])),EqvD (.c .nilsl) (.c (encH []))] ⟨aS,aS,fun _ _=>trivial,(show EqvD (.c .nilsl) (.c (encH [])) from aS)⟩ ?_
  exact zr
 rw [if_neg h1]
 have hgt:decide ((l.length:Int)>24)=false:=by simp;omega
 refine zg [(8,{cs:=[(1,pc c1)]})] [false,false] [(s==[])=false,decide ((l.length:Int)>24)=false] ⟨aS,(show decide ((↑l.length:Int)>(24:Int))=false from aS)⟩ ?_
 refine Wp.loopK kR (fun (x:Nat×Nat×List FT×FT×Bool)=>⟨[(4,.v (.c (.row 2 288 0 x.2.1))),(5,.v (.c (.ptr 48 0))),(6,.v (.c (.bool x.2.2.2.2))),(8,.v (.c (.int .i64 0))),(18,.v (.c (.sl 1 l.length (strsF l)))),(19,.v (.c (.int .i64 (l.length:Int)))),(20,.v (.c (.int .i64 (x.1:Int))))],[(48,ckX x.2.2.2.1),(288,.row 103 2 x.2.1 (rowF encF .nil x.2.2.1))],304⟩) (fun x=>x.1≤l.length∧x.2.1=x.2.2.1.length∧x.2.1≤x.1∧partsP l []=partsP (l.drop x.1) x.2.2.1) (fun x=>l.length-x.1) (0,0,[],.nil,false) (Ent.trans (Ent.empT (t:=4) (sz:=2) (e:=103) (f:=(rowF encF .nil [])) dC kR rfl) (Ent.of [] kR kR kR trivial)) ⟨Nat.zero_le _,rfl,Nat.le_refl _,rfl⟩ ?_
 rintro ⟨k,n,acc,f,b⟩ L ⟨hk,hn,hm,hq⟩ again
 simp only at hk hn hm hq
 rcases Nat.lt_or_ge k l.length with hlt | hge
 ·rw [dropM l [] k hlt,partsP] at hq
  have hp:=hel k
  cases hbad:ptBad (l.getD k []) with
  | true =>
   have c:=qfield_no (m:=m) (l.getD k []) oM hbad
   rw [hbad,if_pos rfl] at hq
   rw [hq]
   clear again hq
   refine zg [(23,{fm:=[(1,.c (encH []))]}),(14,{cs:=[(1,pc c)]})] [true,true,false] [decide ((k:Int)<(l.length:Int))=true,(0:Int)≤(k:Int)∧(k:Int)<(l.length:Int),(!false)=true,((3:Int)==(0:Int))=false,EqvI (.c .nilsl) (.c (encH [])),EqvD (.c .nilsl) (.c (encH []))] ⟨sO,oM,rfl,rfl,fun _ _=>trivial,(show EqvD (.c .nilsl) (.c (encH [])) from aS)⟩ ?_
   exact zr
  | false =>
   have c:=qfield_yes (m:=m) (l.getD k []) oM hbad
   rw [hbad,if_neg dC] at hq
   have c2:=conQf_ok (G:=Gq m) acc (ptF (l.getD k [])) oM
   have k1:=clo1_D 250 (.ptr 48 0)
   have k2:=clo1_I 250 (.ptr 48 0)
   rw [fGet_any] at hq
   subst hn
   cases hg:acc.any (ckP (ptF (l.getD k []))) with
   | true =>
    rw [hg] at c2
    rw [hg,if_pos rfl] at hq
    rw [hq]
    clear again hq hg hbad
    generalize ptF (l.getD k [])=q at *
    refine zg [(17,{cs:=[(2,cb [288,48] c2)],fm:=[(1,.c (clo1 250 (.ptr 48 0)))]}),(23,{fm:=[(1,.c (encH []))]}),(14,{cs:=[(1,pc c)]})] [true,false,true,false] [decide ((k:Int)<(l.length:Int))=true,(0:Int)≤(k:Int)∧(k:Int)<(l.length:Int),(!true)=false,EqvI (.c (cloRaw 250 [.c (.ptr 48 0)])) (.c (clo1 250 (.ptr 48 0))),EqvD (.c (cloRaw 250 [.c (.ptr 48 0)])) (.c (clo1 250 (.ptr 48 0))),true=true,((6:Int)==(0:Int))=false,EqvI (.c .nilsl) (.c (encH [])),EqvD (.c .nilsl) (.c (encH []))] ⟨sO,oM,rfl,clo1_I _ _,clo1_D _ _,rfl,rfl,fun _ _=>trivial,(show EqvD (.c .nilsl) (.c (encH [])) from aS)⟩ ?_
    exact zr
   | false =>
    rw [hg] at c2
    rw [hg,if_neg dC] at hq
    clear hg hbad
    generalize ptF (l.getD k [])=q at *
    have e1:BlkEqv (.row 103 2 (acc.length+1) (catF acc.length (rowF encF .nil acc) (fun i j=>nthD (encF q) ((0+i)*2+j)))) (.row 103 2 (acc.length+1) (rowF encF .nil (acc++[q]))):=enc_app acc _ rfl
    have q2:acc.length+1=(acc++[q]).length:=by simp
    refine zg [(17,{cs:=[(2,cb [288,48] c2)],fm:=[(1,.c (clo1 250 (.ptr 48 0)))]}),(19,{bs:=[(3,.row 103 2 (acc.length+1) (rowF encF .nil (acc++[q])))]}),(14,{cs:=[(1,pc c)]})] [true,false,false] [decide ((k:Int)<(l.length:Int))=true,(0:Int)≤(k:Int)∧(k:Int)<(l.length:Int),(!true)=false,EqvI (.c (cloRaw 250 [.c (.ptr 48 0)])) (.c (clo1 250 (.ptr 48 0))),EqvD (.c (cloRaw 250 [.c (.ptr 48 0)])) (.c (clo1 250 (.ptr 48 0))),false=false,(acc.length+1)*32≤140737488355328,BlkEqv (.row 103 2 (acc.length+1) (catF acc.length (rowF encF FT.nil acc) fun i j=>nthD [.str q.name,.str q.value] ((0+i)*2+j))) (.row 103 2 (acc.length+1) (rowF encF FT.nil (acc++[q]))),acc.length≤acc.length,0+1≤1,inR .i64 ((k:Int)+1)] ⟨sO,oM,rfl,clo1_I _ _,clo1_D _ _,rfl,oM,aS,oM,oM,i6⟩ ?_
    exact za [(288,640)] (again _ (k+1,acc.length+1,acc++[q],q,true) ⟨aS,⟨aS,⟨sO,aS⟩⟩⟩ oM)
 ·rw [List.drop_of_length_le hge,partsP] at hq
  rw [hq]
  subst hn
  clear hq again
  refine Wp.ent' kR (Ent.pubT (e:=103) (sz:=2) (id:=288) (t:=4) (off:=0) (m:=acc.length) (n:=acc.length) (f:=(rowF encF .nil acc)) (m':=acc.length) (f':=(fun i j=>nthD (encF (acc.getD i .nil)) j)) kR kR oM rfl (fun i _ j _=>by rw [Nat.zero_add];rfl) rfl) ?_
  refine zg [] [false,true] [decide ((k:Int)<(l.length:Int))=false,((0:Int)==(0:Int))=true] ⟨sO,rfl⟩ ?_
  exact zr
def nvS (t:List UInt8) (n:Nat):Nat:=t.foldl (fun n c=>n*10+(c.toNat-48)) n
def nv (t:List UInt8):Nat:=nvS t 0
theorem nv_snoc (t:List UInt8) (c:UInt8):nv (t++[c])=nv t*10+(c.toNat-48):=by simp [nv,nvS]
theorem nvS_cons (c:UInt8) (t:List UInt8) (n:Nat):nvS (c::t) n=nvS t (n*10+(c.toNat-48)):=by simp only [nvS,List.foldl_cons]
theorem nvS_ge:∀ (t:List UInt8) (n:Nat),n≤nvS t n
 | [],n=>Nat.le_refl _
 | c::t,n=>by rw [nvS_cons]; have:=nvS_ge t (n*10+(c.toNat-48)); omega
theorem dec_step {m:Nat} (h:¬ m<10):Lib.decDigits m=Lib.decDigits (m / 10)++[UInt8.ofNat (48+m%10)]:=by
 conv=>lhs;rw [Lib.decDigits,dif_neg h]
theorem dig_to {c:UInt8} (h:digitB c=true):48≤c.toNat∧c.toNat≤57:=by
 unfold digitB at h
 simp only [Bool.and_eq_true,decide_eq_true_eq,UInt8.le_iff_toNat_le] at h
 exact ⟨h.1,h.2⟩
theorem ofNat_dig {d:Nat} (h:d<10):(UInt8.ofNat (48+d)).toNat=48+d:=by
 simp;omega
theorem dig_of {d:Nat} (h:d<10):digitB (UInt8.ofNat (48+d))=true:=by
 have:=ofNat_dig h
 unfold digitB
 simp only [Bool.and_eq_true,decide_eq_true_eq,UInt8.le_iff_toNat_le,this]
 refine ⟨?_,?_⟩
 ·show 48≤_;omega
 ·show _≤57;omega
theorem dig_back {c:UInt8} (h:digitB c=true):UInt8.ofNat (48+(c.toNat-48))=c:=by
 have:=dig_to h
 apply UInt8.toNat_inj.1
 rw [ofNat_dig oM];omega
theorem nv_dec (m:Nat):nv (Lib.decDigits m)=m:=by
 induction m using Nat.strongRecOn with
 | _ m ih =>
  by_cases h:m<10
  ·rw [Lib.decDigits_one h]
   show 0*10+((UInt8.ofNat (48+m)).toNat-48)=m
   rw [ofNat_dig h];omega
  ·rw [dec_step h,nv_snoc,ih _ oM,ofNat_dig oM];omega
theorem dec_all (m:Nat):(Lib.decDigits m).all digitB=true:=by
 induction m using Nat.strongRecOn with
 | _ m ih =>
  by_cases h:m<10
  ·rw [Lib.decDigits_one h,List.all_cons,dig_of h];rfl
  ·rw [dec_step h,List.all_append,ih _ oM,List.all_cons,dig_of (show m%10<10 by omega)];rfl
theorem dec_ne (m:Nat):Lib.decDigits m≠[]:=by
 by_cases h:m<10
 ·rw [Lib.decDigits_one h];simp
 ·rw [dec_step h];simp
theorem dec_head (m:Nat) (h1:1≤m):(Lib.decDigits m).getD 0 0≠48:=by
 induction m using Nat.strongRecOn with
 | _ m ih =>
  by_cases h:m<10
  ·rw [Lib.decDigits_one h]
   intro hc
   have hc:UInt8.ofNat (48+m)=48:=hc
   have:=congrArg UInt8.toNat hc
   rw [ofNat_dig h] at this
   have:48+m=48:=this
   omega
  ·rw [dec_step h]
   have:=ih (m / 10) oM oM
   have hn:=dec_ne (m / 10)
   cases hd:Lib.decDigits (m / 10) with
   | nil=>exact (hn hd).elim
   | cons a r=>rw [hd] at this; simpa using this
def canonB (t:List UInt8):Bool:=t.all digitB&&(!(t==[]) && !(decide (1<t.length)&&(t.getD 0 0==48)))
theorem canon_dec (m:Nat):canonB (Lib.decDigits m)=true:=by
 unfold canonB
 rw [dec_all]
 have h1:(Lib.decDigits m==[])=false:=by simpa using dec_ne m
 rw [h1]
 by_cases h:m<10
 ·rw [Lib.decDigits_one h];rfl
 ·have:=dec_head m oM
  have h2:((Lib.decDigits m).getD 0 0==48)=false:=by simpa using this
  rw [h2];simp
theorem canon_back (n:Nat):∀ t:List UInt8,t.length=n→canonB t=true→Lib.decDigits (nv t)=t:=by
 induction n using Nat.strongRecOn with
 | _ n ih =>
  intro t hn hc
  rcases List.eq_nil_or_concat t with rfl | ⟨r,c,rfl⟩
  ·simp [canonB] at hc
  ·rw [List.concat_eq_append] at *
   unfold canonB at hc
   simp only [Bool.and_eq_true,List.all_append,List.all_cons,List.all_nil,Bool.and_true,Bool.not_eq_true'] at hc
   obtain ⟨⟨hr,hcd⟩,_,hh⟩:=hc
   have hd:=dig_to hcd
   rw [nv_snoc]
   by_cases h0:r=[]
   ·subst h0
    show Lib.decDigits (0*10+(c.toNat-48))=[c]
    rw [Nat.zero_mul,Nat.zero_add,Lib.decDigits_one oM,dig_back hcd]
   ·have hrl:0<r.length:=List.length_pos_iff.2 h0
    have hlen:1<(r++[c]).length:=by simp;omega
    have hg:(r++[c]).getD 0 0=r.getD 0 0:=by
     cases r with
     | nil=>exact (h0 rfl).elim
     | cons a r=>rfl
    rw [hg,decide_eq_true hlen,Bool.true_and] at hh
    have hrc:canonB r=true:=by
     unfold canonB
     rw [hr,hh]
     have:(r==[])=false:=by simpa using h0
     rw [this];simp
    have hb:=ih r.length (by simp at hn;omega) r rfl hrc
    have hpos:1≤nv r:=by
     rcases Nat.eq_zero_or_pos (nv r) with hz | hz
     ·rw [hz] at hb
      rw [← hb] at hh
      rw [Lib.decDigits_one dC] at hh
      exact absurd hh dC
     ·exact hz
    have hge:¬ nv r*10+(c.toNat-48)<10:=by omega
    rw [dec_step hge,show (nv r*10+(c.toNat-48)) / 10=nv r from by omega,hb,show (nv r*10+(c.toNat-48))%10=c.toNat-48 from by omega,dig_back hcd]
theorem nv_lt:∀ (k:Nat) (t:List UInt8),t.length≤k→t.all digitB=true→nv t<10^k
 | 0,t,h,_=>by
  have:t=[]:=List.length_eq_zero_iff.1 oM
  subst this;decide
 | k+1,t,h,ha=>by
  rcases List.eq_nil_or_concat t with rfl | ⟨r,c,rfl⟩
  ·show 0<_;exact Nat.pow_pos oM
  ·rw [List.concat_eq_append] at *
   simp only [List.all_append,Bool.and_eq_true,List.all_cons,List.all_nil,Bool.and_true] at ha
   have:=nv_lt k r (by simp at h;omega) ha.1
   have hd:=dig_to ha.2
   rw [nv_snoc,Nat.pow_succ];omega
def blankB (c:UInt8):Bool:=[9,10,13,32].contains c
def skP (s:List UInt8) (p:Nat):Nat:=p+((s.drop p).takeWhile blankB).length
def atB (s:List UInt8) (p:Nat) (c:UInt8):Bool:=decide (p<s.length)&&s.getD p 0==c
def wordB (s:List UInt8) (p:Nat) (w:List UInt8):Bool:=(s.drop p).take w.length==w
def smallI (c:UInt8):Int:=if digitB c then (c.toNat:Int)-48 else if 97≤c∧c≤102 then (c.toNat:Int)-97+10 else -1
def escR (s:List UInt8) (p:Nat):UInt8×Nat×Int :=
 if atB s p 34||atB s p 92 then (s.getD p 0,p+1,0)
 else if wordB s p [117,48,48] then
  (if s.length<p+5 then (0,p+3,3)
  else if smallI (s.getD (p+3) 0)<0∨smallI (s.getD (p+3) 0)>1∨smallI (s.getD (p+4) 0)<0 then (0,p+5,3)
  else (UInt8.ofNat (smallI (s.getD (p+3) 0)*16+smallI (s.getD (p+4) 0)).toNat,p+5,0))
 else (0,p,3)
def txtR (s:List UInt8):Nat→Nat→List UInt8→List UInt8×Nat×Int
 | 0,p,b=>(b,p,3)
 | n+1,p,b=>if s.length≤p∨s.getD p 0<32 then (b,p,3) else if s.getD p 0=34 then (b,p+1,0)
  else if s.getD p 0=92 then (if (escR s (p+1)).2.2=0 then txtR s n (escR s (p+1)).2.1 (b++[(escR s (p+1)).1]) else (b++[(escR s (p+1)).1],(escR s (p+1)).2.1,3))
  else txtR s n (p+1) (b++[s.getD p 0])
def txtE (x:List UInt8×Nat×Int):List UInt8×Nat×Int:=(x.1,x.2.1,if x.2.2=0∧validT x.1=true then 0 else 3)
def textR (s:List UInt8) (p:Nat):List UInt8×Nat×Int :=
 if atB s (skP s p) 34 then txtE (txtR s (s.length+1) (skP s p+1) []) else ([],skP s p,3)
def accN:List UInt8→Nat→Nat
 | [],n=>n
 | c::r,n=>accN r (if n≤9007199254740992 then n*10+(c.toNat-48) else n)
def sgP (s:List UInt8) (p:Nat):Nat:=if atB s p 45 then p+1 else p
def digP (s:List UInt8) (p:Nat):Nat:=p+((s.drop p).takeWhile digitB).length
def numV (s:List UInt8) (p:Nat):Int:=if s.getD p 0=45 then -(accN ((s.drop (sgP s p)).takeWhile digitB) 0:Int) else (accN ((s.drop (sgP s p)).takeWhile digitB) 0:Int)
def numOk (s:List UInt8) (p:Nat):Bool:=decide (numV s p≤9007199254740992)&&decide (-9007199254740992≤numV s p)&&Lib.itoa (numV s p)==(s.drop p).take (digP s (sgP s p)-p)
def numR (s:List UInt8) (p:Nat):Int×Nat×Int:=(numV s p,digP s (sgP s p),if numOk s p then 0 else 3)
def wantR (s:List UInt8) (p:Nat) (c:UInt8):Nat×Int:=if atB s (skP s p) c then (skP s p+1,0) else (skP s p,3)
def nameR (s:List UInt8) (p:Nat) (ns:List (List UInt8)):List (List UInt8)×Nat×Int :=
 if (textR s p).2.2=0 then (if ns.contains (textR s p).1 then (ns++[(textR s p).1],(textR s p).2.1,6) else (ns++[(textR s p).1],(wantR s (textR s p).2.1 58).1,(wantR s (textR s p).2.1 58).2))
 else (ns++[(textR s p).1],(textR s p).2.1,3)
def nameO (obj:Bool) (s:List UInt8) (p:Nat) (ns:List (List UInt8)):List (List UInt8)×Nat×Int:=if obj then nameR s p ns else (ns,p,0)
def endC (obj:Bool):UInt8:=if obj then 125 else 93
def manyR (f:Nat→JV×Nat×Int) (obj:Bool) (s:List UInt8):Nat→Nat→List (List UInt8)→List JV→List (List UInt8)×List JV×Nat×Int
 | 0,p,ns,ks=>(ns,ks,p,3)
 | n+1,p,ns,ks =>
  if (nameO obj s p ns).2.2=0 then
   (if (f (nameO obj s p ns).2.1).2.2=0 then
    (if atB s (skP s (f (nameO obj s p ns).2.1).2.1) (endC obj) then ((nameO obj s p ns).1,ks++[(f (nameO obj s p ns).2.1).1],skP s (f (nameO obj s p ns).2.1).2.1+1,0)
    else if atB s (skP s (f (nameO obj s p ns).2.1).2.1) 44 then manyR f obj s n (skP s (f (nameO obj s p ns).2.1).2.1+1) (nameO obj s p ns).1 (ks++[(f (nameO obj s p ns).2.1).1])
    else ((nameO obj s p ns).1,ks++[(f (nameO obj s p ns).2.1).1],skP s (f (nameO obj s p ns).2.1).2.1,3))
   else ((nameO obj s p ns).1,ks++[(f (nameO obj s p ns).2.1).1],skP s (f (nameO obj s p ns).2.1).2.1,(f (nameO obj s p ns).2.1).2.2))
  else ((nameO obj s p ns).1,ks,skP s (nameO obj s p ns).2.1,(nameO obj s p ns).2.2)
def manyJ (k:Int) (x:List (List UInt8)×List JV×Nat×Int):JV×Nat×Int:=(.mk k false 0 [] x.1 x.2.1,x.2.2)
def listR (f:Nat→JV×Nat×Int) (big:Bool) (obj:Bool) (s:List UInt8) (p:Nat):JV×Nat×Int :=
 if atB s (skP s (p+1)) (endC obj) then (.mk (if obj then 6 else 5) false 0 [] [] [],skP s (p+1)+1,if big then 4 else 0)
 else if big then (.mk (if obj then 6 else 5) false 0 [] [] [],skP s (p+1),4)
 else manyJ (if obj then 6 else 5) (manyR f obj s (s.length+1) (skP s (p+1)) [] [])
def valR (s:List UInt8):Nat→Nat→JV×Nat×Int
 | k,p =>
  if s.length≤skP s p then (.nil,skP s p,3)
  else if s.getD (skP s p) 0=110 then (if wordB s (skP s p) [110,117,108,108] then (.mk 1 false 0 [] [] [],skP s p+4,0) else (.mk 1 false 0 [] [] [],skP s p,3))
  else if s.getD (skP s p) 0=116 then (if wordB s (skP s p) [116,114,117,101] then (.mk 2 true 0 [] [] [],skP s p+4,0) else (.mk 2 true 0 [] [] [],skP s p,3))
  else if s.getD (skP s p) 0=102 then (if wordB s (skP s p) [102,97,108,115,101] then (.mk 2 false 0 [] [] [],skP s p+5,0) else (.mk 2 false 0 [] [] [],skP s p,3))
  else if s.getD (skP s p) 0=34 then (.mk 4 false 0 (textR s (skP s p)).1 [] [],(textR s (skP s p)).2)
  else if s.getD (skP s p) 0=91 then listR (match k with | 0=>fun _=>(.nil,0,3) | k+1=>valR s k) (k==0) false s (skP s p)
  else if s.getD (skP s p) 0=123 then listR (match k with | 0=>fun _=>(.nil,0,3) | k+1=>valR s k) (k==0) true s (skP s p)
  else if s.getD (skP s p) 0=45∨digitB (s.getD (skP s p) 0)=true then (.mk 3 false (numR s (skP s p)).1 [] [] [],(numR s (skP s p)).2)
  else (.nil,skP s p,3)
def parseJ (s:List UInt8):JV×Int :=
 if (valR s 8 0).2.2=0 then (if skP s (valR s 8 0).2.1<s.length then (.nil,5) else ((valR s 8 0).1,0)) else (.nil,(valR s 8 0).2.2)
theorem skP_le (s:List UInt8) (p:Nat):p≤skP s p:=Nat.le_add_right _ _
theorem skP_len (s:List UInt8) (p:Nat) (h:p≤s.length):skP s p≤s.length:=by
 unfold skP
 have:=(List.takeWhile_sublist blankB (l:=s.drop p)).length_le
 rw [List.length_drop] at this;omega
theorem skP_yes {s:List UInt8} {p:Nat} (h:p<s.length) (hb:blankB (s.getD p 0)=true):skP s p=skP s (p+1):=by
 unfold skP
 rw [dropS s p h,List.takeWhile_cons,if_pos hb,List.length_cons];omega
theorem skP_no {s:List UInt8} {p:Nat} (h:p<s.length→blankB (s.getD p 0)=false):skP s p=p:=by
 unfold skP
 rcases Nat.lt_or_ge p s.length with hl | hl
 ·rw [dropS s p hl,List.takeWhile_cons,h hl];rfl
 ·rw [List.drop_eq_nil_of_le hl];rfl
theorem digP_le (s:List UInt8) (p:Nat):p≤digP s p:=Nat.le_add_right _ _
theorem digP_len (s:List UInt8) (p:Nat) (h:p≤s.length):digP s p≤s.length:=by
 unfold digP
 have:=(List.takeWhile_sublist digitB (l:=s.drop p)).length_le
 rw [List.length_drop] at this;omega
theorem at_drop {s:List UInt8} {p:Nat} {c:UInt8} {r:List UInt8} (h:s.drop p=c::r):p<s.length∧s.getD p 0=c∧s.drop (p+1)=r:=by
 have hl:p<s.length:=by
  rcases Nat.lt_or_ge p s.length with hl | hl
  ·exact hl
  ·rw [List.drop_eq_nil_of_le hl] at h;cases h
 rw [dropS s p hl] at h
 exact ⟨hl,(List.cons.inj h).1,(List.cons.inj h).2⟩
theorem atB_of {s:List UInt8} {p:Nat} {c d:UInt8} {r:List UInt8} (h:s.drop p=d::r):atB s p c=(d==c):=by
 obtain ⟨h1,h2,_⟩:=at_drop h
 unfold atB;rw [h2,decide_eq_true h1];rfl
theorem accN_le:∀ (t:List UInt8) (n:Nat),t.all digitB=true→nvS t n≤9007199254740992→accN t n=nvS t n
 | [],n,_,_=>rfl
 | c::t,n,h,hn=>by
  rw [nvS_cons] at hn ⊢
  have:=nvS_ge t (n*10+(c.toNat-48))
  rw [accN,if_pos oM]
  exact accN_le t _ (by simp at h;simpa using h.2) hn
theorem takeW_app (d r:List UInt8) (hd:d.all digitB=true) (hr:digitB (r.headD 0)=false):(d++r).takeWhile digitB=d:=by
 induction d with
 | nil=>cases r with
  | nil=>rfl
  | cons c r=>simp only [List.nil_append,List.takeWhile_cons]; rw [show digitB c=false from hr]; rfl
 | cons c d ih =>
  simp only [List.all_cons,Bool.and_eq_true] at hd
  rw [List.cons_append,List.takeWhile_cons,if_pos hd.1,ih hd.2]
theorem numR_of {s:List UInt8} {p:Nat} {n:Int} {r:List UInt8} (h1 : -9007199254740992≤n) (h2:n≤9007199254740992) (h:s.drop p=Lib.itoa n++r) (hr:digitB (r.headD 0)=false) :
  numR s p=(n,p+(Lib.itoa n).length,0)∧p<s.length∧(s.getD p 0=45∨digitB (s.getD p 0)=true):=by
 by_cases hn:n<0
 ·obtain ⟨m,rfl⟩:∃ m:Nat,n = -(m:Int):=⟨n.natAbs,by omega⟩
  have hi:Lib.itoa (-(m:Int))=45::Lib.decDigits m:=Lib.itoa_neg m oM
  rw [hi] at h
  obtain ⟨g1,g2,g3⟩:=at_drop h
  have hs:sgP s p=p+1:=by unfold sgP;rw [atB_of h];rfl
  have ht:(s.drop (p+1)).takeWhile digitB=Lib.decDigits m:=by rw [g3];exact takeW_app _ _ (dec_all m) hr
  have ha:accN (Lib.decDigits m) 0=m:=by rw [accN_le _ _ (dec_all m) (by have:=nv_dec m;unfold nv at this;omega)];exact nv_dec m
  have hv:numV s p = -(m:Int):=by unfold numV;rw [g2,if_pos rfl,hs,ht,ha]
  have hd:digP s (p+1)=p+(Lib.itoa (-(m:Int))).length:=by unfold digP;rw [ht,hi,List.length_cons];omega
  refine ⟨?_,g1,.inl g2⟩
  unfold numR numOk
  rw [hv,hs,hd,decide_eq_true h2,decide_eq_true h1,show p+(Lib.itoa (-(m:Int))).length-p=(Lib.itoa (-(m:Int))).length by omega,h,← hi,List.take_left]
  simp
 ·obtain ⟨m,rfl⟩:∃ m:Nat,n=(m:Int):=⟨n.natAbs,by omega⟩
  have hi:Lib.itoa (m:Int)=Lib.decDigits m:=Lib.itoa_nonneg m
  rw [hi] at h
  obtain ⟨c,d,hcd⟩:∃ c d,Lib.decDigits m=c::d:=by
   cases hq:Lib.decDigits m with
   | nil=>exact (dec_ne m hq).elim
   | cons c d=>exact ⟨c,d,rfl⟩
  have hdc:digitB c=true:=by have:=dec_all m;rw [hcd] at this;simp at this;exact this.1
  have h45:c≠45:=fun e=>by rw [e] at hdc;revert hdc;decide
  have h':=h
  rw [hcd,List.cons_append] at h'
  obtain ⟨g1,g2,g3⟩:=at_drop h'
  have hs:sgP s p=p:=by unfold sgP;rw [atB_of h',if_neg (by simpa using h45)]
  have ht:(s.drop p).takeWhile digitB=Lib.decDigits m:=by rw [h];exact takeW_app _ _ (dec_all m) hr
  have ha:accN (Lib.decDigits m) 0=m:=by rw [accN_le _ _ (dec_all m) (by have:=nv_dec m;unfold nv at this;omega)];exact nv_dec m
  have hv:numV s p=(m:Int):=by unfold numV;rw [g2,if_neg h45,hs,ht,ha]
  have hd:digP s p=p+(Lib.itoa (m:Int)).length:=by unfold digP;rw [ht,hi]
  refine ⟨?_,g1,.inr (by rw [g2];exact hdc)⟩
  unfold numR numOk
  rw [hv,hs,hd,decide_eq_true h2,decide_eq_true h1,show p+(Lib.itoa (m:Int)).length-p=(Lib.itoa (m:Int)).length by omega,h,← hi,List.take_left]
  simp
def subR (s:List UInt8):Nat→Nat→JV×Nat×Int
 | 0=>fun _=>(.nil,0,3)
 | k+1=>valR s k
theorem valR_eq (s:List UInt8) (k p:Nat):valR s k p =
  if s.length≤skP s p then (.nil,skP s p,3)
  else if s.getD (skP s p) 0=110 then (if wordB s (skP s p) [110,117,108,108] then (.mk 1 false 0 [] [] [],skP s p+4,0) else (.mk 1 false 0 [] [] [],skP s p,3))
  else if s.getD (skP s p) 0=116 then (if wordB s (skP s p) [116,114,117,101] then (.mk 2 true 0 [] [] [],skP s p+4,0) else (.mk 2 true 0 [] [] [],skP s p,3))
  else if s.getD (skP s p) 0=102 then (if wordB s (skP s p) [102,97,108,115,101] then (.mk 2 false 0 [] [] [],skP s p+5,0) else (.mk 2 false 0 [] [] [],skP s p,3))
  else if s.getD (skP s p) 0=34 then (.mk 4 false 0 (textR s (skP s p)).1 [] [],(textR s (skP s p)).2)
  else if s.getD (skP s p) 0=91 then listR (subR s k) (k==0) false s (skP s p)
  else if s.getD (skP s p) 0=123 then listR (subR s k) (k==0) true s (skP s p)
  else if s.getD (skP s p) 0=45∨digitB (s.getD (skP s p) 0)=true then (.mk 3 false (numR s (skP s p)).1 [] [] [],(numR s (skP s p)).2)
  else (.nil,skP s p,3):=by
 cases k<;>rw [valR]<;>rfl
end Go.Proofs.Tw
end
section

end
section
open Go Go.Sv Go.RowKit
namespace Go.Proofs.Tw
attribute [local irreducible] Wp FinQ resV Ent Pur Go.Sv.Fn Sat0
set_option maxRecDepth 100000
set_option maxHeartbeats 4000000
variable {G:Nat→Option (List Cell)} [Back G]
theorem escR_len (s:List UInt8) (p:Nat) (h:p≤s.length):p≤(escR s p).2.1∧(escR s p).2.1≤s.length∧((escR s p).2.2=0∨(escR s p).2.2=3):=by
 unfold escR
 split
 ·rename_i h1
  have:p<s.length:=by
   unfold atB at h1
   simp only [Bool.or_eq_true,Bool.and_eq_true,decide_eq_true_eq] at h1
   rcases h1 with h1 | h1<;>exact h1.1
  exact ⟨by show p≤p+1;omega,this,.inl rfl⟩
 ·split
  ·rename_i h1
   have hle:p+3≤s.length:=by
    unfold wordB at h1
    have:=congrArg List.length (by simpa using h1:(s.drop p).take 3=[117,48,48])
    simp at this;omega
   split
   ·exact ⟨by show p≤p+3;omega,hle,.inr rfl⟩
   ·split
    ·exact ⟨by show p≤p+5;omega,by show p+5≤_;omega,.inr rfl⟩
    ·exact ⟨by show p≤p+5;omega,by show p+5≤_;omega,.inl rfl⟩
  ·exact ⟨Nat.le_refl _,h,.inr rfl⟩
end Go.Proofs.Tw
end
section

end
section
open Go Go.Sv Go.RowKit
namespace Go.Proofs.Tw
attribute [local irreducible] Wp FinQ resV Ent Pur Go.Sv.Fn Sat0
set_option maxRecDepth 100000
set_option maxHeartbeats 4000000
variable {G:Nat→Option (List Cell)} [Back G]
theorem digP_yes {s:List UInt8} {p:Nat} (h:p<s.length) (hb:digitB (s.getD p 0)=true):digP s p=digP s (p+1)∧(s.drop p).takeWhile digitB=s.getD p 0::(s.drop (p+1)).takeWhile digitB:=by
 unfold digP
 rw [dropS s p h,List.takeWhile_cons,if_pos hb,List.length_cons]
 exact ⟨by omega,rfl⟩
theorem digP_no {s:List UInt8} {p:Nat} (h:p<s.length→digitB (s.getD p 0)=false):digP s p=p∧(s.drop p).takeWhile digitB=[]:=by
 unfold digP
 rcases Nat.lt_or_ge p s.length with hl | hl
 ·rw [dropS s p hl,List.takeWhile_cons,h hl];exact ⟨rfl,rfl⟩
 ·rw [List.drop_eq_nil_of_le hl];exact ⟨rfl,rfl⟩
theorem sgP_le (s:List UInt8) (p:Nat) (h:p≤s.length):p≤sgP s p∧sgP s p≤s.length:=by
 unfold sgP;split
 ·rename_i h1
  unfold atB at h1
  simp only [Bool.and_eq_true,decide_eq_true_eq] at h1
  omega
 ·omega
def Adv (s:List UInt8) (p q:Nat):Prop:=p≤q∧q≤s.length
theorem Adv.refl {s:List UInt8} {p:Nat} (h:p≤s.length):Adv s p p:=⟨Nat.le_refl _,h⟩
theorem Adv.trans {s:List UInt8} {p q r:Nat} (h:Adv s p q) (k:Adv s q r):Adv s p r:=⟨Nat.le_trans h.1 k.1,k.2⟩
theorem skP_adv {s:List UInt8} {p:Nat} (h:p≤s.length):Adv s p (skP s p):=⟨skP_le s p,skP_len s p h⟩
theorem at_lt {s:List UInt8} {p:Nat} {c:UInt8} (h:atB s p c=true):p<s.length:=by
 unfold atB at h
 simp only [Bool.and_eq_true,decide_eq_true_eq] at h
 exact h.1
theorem Adv.succ {s:List UInt8} {p q:Nat} (h:Adv s p q) (k:q<s.length):Adv s p (q+1):=⟨Nat.le_succ_of_le h.1,k⟩
theorem wantR_adv {s:List UInt8} {p:Nat} (c:UInt8) (h:p≤s.length):Adv s p (wantR s p c).1:=by
 unfold wantR
 split
 ·rename_i hc;exact (skP_adv h).succ (at_lt hc)
 ·exact skP_adv h
theorem txtR_adv {s:List UInt8}:∀ (n p:Nat) (b:List UInt8),p≤s.length→Adv s p (txtR s n p b).2.1
 | 0,p,b,h=>by rw [txtR]; exact .refl h
 | n+1,p,b,h=>by
  rw [txtR]
  split
  ·exact .refl h
  ·rename_i h1
   have hlt:p<s.length:=by
    rcases Nat.lt_or_ge p s.length with h | h
    ·exact h
    ·exact (h1 (.inl h)).elim
   split
   ·exact ⟨Nat.le_succ _,hlt⟩
   ·split
    ·obtain ⟨g1,g2,_⟩:=escR_len s (p+1) hlt
     have g:Adv s p (escR s (p+1)).2.1:=⟨by omega,g2⟩
     split
     ·exact g.trans (txtR_adv n _ _ g2)
     ·exact g
    ·exact Adv.trans ⟨Nat.le_succ _,hlt⟩ (txtR_adv n (p+1) _ hlt)
theorem textR_adv {s:List UInt8} {p:Nat} (h:p≤s.length):Adv s p (textR s p).2.1:=by
 unfold textR
 split
 ·rename_i hc
  exact ((skP_adv h).succ (at_lt hc)).trans (txtR_adv _ _ _ (at_lt hc))
 ·exact skP_adv h
theorem numR_adv {s:List UInt8} {p:Nat} (h:p≤s.length):Adv s p (numR s p).2.1:=by
 have h1:=sgP_le s p h
 have h2:=digP_le s (sgP s p)
 have h3:=digP_len s (sgP s p) h1.2
 exact ⟨by show p≤digP s (sgP s p);omega,h3⟩
theorem nameR_adv {s:List UInt8} {p:Nat} (ns:List (List UInt8)) (h:p≤s.length):Adv s p (nameR s p ns).2.1:=by
 unfold nameR
 have ht:=textR_adv (s:=s) h
 split
 ·split
  ·exact ht
  ·exact ht.trans (wantR_adv 58 ht.2)
 ·exact ht
theorem nameO_adv {s:List UInt8} {p:Nat} (obj:Bool) (ns:List (List UInt8)) (h:p≤s.length):Adv s p (nameO obj s p ns).2.1:=by
 cases obj
 ·exact .refl h
 ·exact nameR_adv ns h
theorem manyR_adv {s:List UInt8} {f:Nat→JV×Nat×Int} {obj:Bool} (hf:∀ p,p≤s.length→Adv s p (f p).2.1):∀ (n p:Nat) (ns:List (List UInt8)) (ks:List JV),p≤s.length→Adv s p (manyR f obj s n p ns ks).2.2.1
 | 0,p,ns,ks,h=>by rw [manyR]; exact .refl h
 | n+1,p,ns,ks,h=>by
  have h1:=nameO_adv obj ns h
  have h2:=h1.trans (hf _ h1.2)
  have h3:=h2.trans (skP_adv h2.2)
  rw [manyR]
  split
  ·split
   ·split
    ·rename_i hc;exact h3.succ (at_lt hc)
    ·split
     ·rename_i hc;exact (h3.succ (at_lt hc)).trans (manyR_adv hf n _ _ _ (at_lt hc))
     ·exact h3
   ·exact h3
  ·exact h1.trans (skP_adv h1.2)
theorem listR_adv {s:List UInt8} {f:Nat→JV×Nat×Int} {big obj:Bool} (hf:big=false→∀ p,p≤s.length→Adv s p (f p).2.1) {p:Nat} (h:p<s.length):Adv s p (listR f big obj s p).2.1:=by
 have h1:Adv s p (skP s (p+1)):=Adv.trans ⟨Nat.le_succ _,h⟩ (skP_adv h)
 unfold listR
 split
 ·rename_i hc;exact h1.succ (at_lt hc)
 ·cases big with
  | true=>exact h1
  | false=>exact h1.trans (manyR_adv (hf rfl) _ _ _ _ h1.2)
theorem wordB_len {s:List UInt8} {p:Nat} {w:List UInt8} (h:wordB s p w=true) (hp:p≤s.length):p+w.length≤s.length:=by
 unfold wordB at h
 have:=congrArg List.length (by simpa using h:(s.drop p).take w.length=w)
 simp at this;omega
theorem valR_adv {s:List UInt8}:∀ (k:Nat) (p:Nat),p≤s.length→Adv s p (valR s k p).2.1:=by
 intro k
 induction k with
 | zero =>
  intro p h
  rw [valR_eq]
  exact main 0 p h (fun e=>by cases e)
 | succ k ih =>
  intro p h
  rw [valR_eq]
  exact main (k+1) p h (fun _=>ih)
where
 main {s:List UInt8} (k p:Nat) (h:p≤s.length) (hf:(k==0)=false→∀ p,p≤s.length→Adv s p (subR s k p).2.1):Adv s p (if s.length≤skP s p then ((.nil,skP s p,3):JV×Nat×Int)
  else if s.getD (skP s p) 0=110 then (if wordB s (skP s p) [110,117,108,108] then (.mk 1 false 0 [] [] [],skP s p+4,0) else (.mk 1 false 0 [] [] [],skP s p,3))
  else if s.getD (skP s p) 0=116 then (if wordB s (skP s p) [116,114,117,101] then (.mk 2 true 0 [] [] [],skP s p+4,0) else (.mk 2 true 0 [] [] [],skP s p,3))
  else if s.getD (skP s p) 0=102 then (if wordB s (skP s p) [102,97,108,115,101] then (.mk 2 false 0 [] [] [],skP s p+5,0) else (.mk 2 false 0 [] [] [],skP s p,3))
  else if s.getD (skP s p) 0=34 then (.mk 4 false 0 (textR s (skP s p)).1 [] [],(textR s (skP s p)).2)
  else if s.getD (skP s p) 0=91 then listR (subR s k) (k==0) false s (skP s p)
  else if s.getD (skP s p) 0=123 then listR (subR s k) (k==0) true s (skP s p)
  else if s.getD (skP s p) 0=45∨digitB (s.getD (skP s p) 0)=true then (.mk 3 false (numR s (skP s p)).1 [] [] [],(numR s (skP s p)).2)
  else (.nil,skP s p,3)).2.1:=by
  have h1:=skP_adv h
  split
  ·exact h1
  ·have hlt:skP s p<s.length:=by omega
   split
   ·split
    ·rename_i hw;have:=wordB_len hw h1.2;exact h1.trans ⟨Nat.le_add_right _ _,this⟩
    ·exact h1
   split
   ·split
    ·rename_i hw;have:=wordB_len hw h1.2;exact h1.trans ⟨Nat.le_add_right _ _,this⟩
    ·exact h1
   split
   ·split
    ·rename_i hw;have:=wordB_len hw h1.2;exact h1.trans ⟨Nat.le_add_right _ _,this⟩
    ·exact h1
   split
   ·exact h1.trans (textR_adv h1.2)
   split
   ·exact h1.trans (listR_adv hf hlt)
   split
   ·exact h1.trans (listR_adv hf hlt)
   split
   ·exact h1.trans (numR_adv h1.2)
   ·exact h1
end Go.Proofs.Tw
end
section

end
section

end
section

end
section
open Go Go.Sv Go.RowKit
namespace Go.Proofs.Tw
attribute [local irreducible] Wp FinQ resV Ent Pur Go.Sv.Fn Sat0
set_option maxRecDepth 100000
set_option maxHeartbeats 4000000
variable {G:Nat→Option (List Cell)} [Back G]
theorem kid_pub (ks:List JV) {k:Nat} (hk:k=ks.length):∀ i,i<k→∀ j,j<6→rowF encJ .nil ks (0+i) j=kidC ks i j:=by
 intro i hi j hj
 unfold rowF kidC
 rw [Nat.zero_add,cellsL_eq ks i oM]
end Go.Proofs.Tw
end
section

end
section
open Go Go.Sv Go.RowKit
namespace Go.Proofs.Tw
attribute [local irreducible] Wp FinQ resV Ent Pur Go.Sv.Fn Sat0
set_option maxRecDepth 100000
set_option maxHeartbeats 4000000
variable {G:Nat→Option (List Cell)} [Back G]
theorem wJ_den (k:Int) (b:Bool) (n:Int) (t:List UInt8):EqvD (.agg [.int .i64 k,.bool b,.int .i64 n,.str t,.nilsl,.nilsl]) (.agg (encJ (.mk k b n t [] []))):=agg_eqv (.cons CEq.rfl' (.cons CEq.rfl' (.cons CEq.rfl' (.cons CEq.rfl' (.cons CEq.nil (.cons CEq.nil .nil))))))
theorem nilJ_den':EqvD (.agg [.int .i64 0,.bool false,.int .i64 0,.str [],.nilsl,.nilsl]) (.agg (encJ .nil)):=wJ_den 0 false 0 []
end Go.Proofs.Tw
end
section
open Go Go.Sv Go.RowKit
namespace Go.Proofs.Tw
attribute [local irreducible] Wp FinQ resV Ent Pur Go.Sv.Fn Sat0
set_option maxRecDepth 100000
set_option maxHeartbeats 4000000
variable {G:Nat→Option (List Cell)}
inductive JWd where
 | no
 | mk (c:UInt8)
 | ph (t:List UInt8)
 | nu (n:Int)
 | va (v:JV)
def jwK (c:UInt8):Bool:=[91,93,123,125,44,58].contains c
def escW (t:List UInt8):UInt8×Nat:=if (escR t 0).2.2=0 then ((escR t 0).1,(escR t 0).2.1) else (0,0)
def txtW (s:List UInt8):Nat→Nat→List UInt8→JWd×Nat
 | 0,k,b=>(.no,k)
 | n+1,k,b=>if s.length≤k then (.no,k) else if s.getD k 0=34 then (if validT b then (.ph b,k+1) else (.no,k+1)) else if s.getD k 0<32 then (.no,k+1)
  else if s.getD k 0=92 then (if (escW (s.drop (k+1))).2=0 then (.no,k+1) else txtW s n (k+1+(escW (s.drop (k+1))).2) (b++[(escW (s.drop (k+1))).1]))
  else txtW s n (k+1) (b++[s.getD k 0])
def jwN (s:List UInt8) (q:Nat):JWd×Nat :=
 if wordB s q [110,117,108,108] then (.va (.mk 1 false 0 [] [] []),q+4)
 else if wordB s q [116,114,117,101] then (.va (.mk 2 true 0 [] [] []),q+4)
 else if wordB s q [102,97,108,115,101] then (.va (.mk 2 false 0 [] [] []),q+5) else (.no,q)
def jwT (s:List UInt8) (q:Nat):JWd×Nat:=txtW s (s.length+1) (q+1) []
def jwM (s:List UInt8) (q:Nat):JWd×Nat:=if numOk s q then (.nu (numV s q),digP s (sgP s q)) else (.no,digP s (sgP s q))
def jwA (s:List UInt8) (q:Nat):JWd×Nat :=
 if s.length≤q then (.no,q)
 else if jwK (s.getD q 0) then (.mk (s.getD q 0),q+1)
 else if s.getD q 0=34 then jwT s q
 else if s.getD q 0=45∨digitB (s.getD q 0)=true then jwM s q
 else jwN s q
def nxW (s:List UInt8) (p:Nat):JWd×Nat:=jwA s (skP s p)
theorem wordB_hd {s:List UInt8} {p:Nat} {c:UInt8} {w:List UInt8} (h:wordB s p (c::w)=true):s.getD p 0=c:=by
 unfold wordB at h
 have h:=eq_of_beq h
 cases hd:s.drop p with
 | nil=>rw [hd] at h; simp at h
 | cons x r =>
  rw [hd] at h
  obtain ⟨_,h2,_⟩:=at_drop hd
  rw [h2]
  simp at h
  exact h.1
theorem jword_ne {s:List UInt8} {p:Nat} {c:UInt8} {w:List UInt8} (h:s.getD p 0≠c):wordB s p (c::w)=false:=by
 cases hb:wordB s p (c::w) with
 | false=>rfl
 | true=>exact absurd (wordB_hd hb) h
theorem skP_skP (s:List UInt8) (p:Nat):skP s (skP s p)=skP s p:=by
 apply skP_no
 intro h
 have hd:∀ l:List UInt8,(l.takeWhile blankB).length<l.length→blankB (l.getD (l.takeWhile blankB).length 0)=false:=by
  intro l
  induction l with
  | nil=>intro h; simp at h
  | cons x r ih =>
   intro h
   rw [List.takeWhile_cons] at h ⊢
   split
   ·rename_i hx
    rw [if_pos hx] at h
    simp only [List.length_cons] at h ⊢
    rw [List.getD_cons_succ]
    exact ih oM
   ·rename_i hx
    simpa using hx
 have hl:(s.drop p).length=s.length-p:=List.length_drop
 have h':skP s p=p+((s.drop p).takeWhile blankB).length:=rfl
 have:=hd (s.drop p) oM
 rw [h']
 rw [← this]
 congr 1
 simp only [List.getD_eq_getElem?_getD,List.getElem?_drop]
theorem escR_drop (s:List UInt8) (p:Nat) (hp:p≤s.length):escR s p=((escR (s.drop p) 0).1,p+(escR (s.drop p) 0).2.1,(escR (s.drop p) 0).2.2):=by
 have e0:∀ k,(s.drop p).getD k 0=s.getD (p+k) 0:=fun k=>by simp [List.getD_eq_getElem?_getD,List.getElem?_drop]
 have e1:∀ c,atB (s.drop p) 0 c=atB s p c:=fun c=>by
  unfold atB;rw [e0,List.length_drop];congr 1;exact decide_eq_decide.2 oM
 have e2:∀ w,wordB (s.drop p) 0 w=wordB s p w:=fun w=>by unfold wordB;rw [List.drop_zero]
 unfold escR
 rw [e1,e1,e2,e0,List.length_drop,e0 (0+3),e0 (0+4)]
 simp only [Nat.zero_add,Nat.add_zero]
 by_cases h1:(atB s p 34||atB s p 92)=true
 ·rw [if_pos h1,if_pos h1]
 ·rw [if_neg h1,if_neg h1]
  by_cases h2:wordB s p [117,48,48]=true
  ·rw [if_pos h2,if_pos h2]
   by_cases h3:s.length<p+5
   ·have h3':s.length-p<5:=by omega
    rw [if_pos h3,if_pos h3']
   ·have h3':¬ s.length-p<5:=by omega
    rw [if_neg h3,if_neg h3']
    split<;>rfl
  ·rw [if_neg h2,if_neg h2];rfl
theorem escR_pos (t:List UInt8) (h:(escR t 0).2.2=0):0<(escR t 0).2.1:=by
 unfold escR at h ⊢
 repeat' split
 all_goals first | (simp;done) | (exfalso;simp_all;done)
def TxtIs (x:List UInt8×Nat×Int) (w:JWd×Nat):Prop:=if (txtE x).2.2=0 then w=(.ph (txtE x).1,(txtE x).2.1) else w.1 = .no
theorem TxtIs.bad (b:List UInt8) (k k':Nat):TxtIs (b,k,3) (.no,k'):=rfl
theorem txtW_is (s:List UInt8):∀ (n k:Nat) (b:List UInt8),s.length<k+n→TxtIs (txtR s n k b) (txtW s n k b)
 | 0,k,b,h=>by rw [txtR,txtW]; exact .bad _ _ _
 | n+1,k,b,h=>by
  rw [txtR,txtW]
  by_cases h0:s.length≤k
  ·have e:(s.length≤k∨s.getD k 0<32):=Or.inl h0
   rw [if_pos e,if_pos h0];exact .bad _ _ _
  rw [if_neg h0]
  by_cases h34:s.getD k 0=34
  ·have e:¬ (s.length≤k∨s.getD k 0<32):=by rw [h34];rintro (h | h);exact h0 h;exact absurd h dC
   rw [if_neg e,if_pos h34,if_pos h34]
   cases hv:validT b with
   | true=>unfold TxtIs txtE; simp [hv]
   | false=>unfold TxtIs txtE; simp [hv]
  rw [if_neg h34,if_neg h34]
  by_cases h32:s.getD k 0<32
  ·have e:(s.length≤k∨s.getD k 0<32):=Or.inr h32
   rw [if_pos e,if_pos h32];exact .bad _ _ _
  have e:¬ (s.length≤k∨s.getD k 0<32):=by rintro (h | h);exact h0 h;exact h32 h
  rw [if_neg e,if_neg h32]
  by_cases h92:s.getD k 0=92
  ·rw [if_pos h92,if_pos h92,escR_drop s (k+1) oM]
   simp only
   unfold escW
   by_cases he:(escR (s.drop (k+1)) 0).2.2=0
   ·have hp:=escR_pos _ he
    have hp':¬ (escR (s.drop (k+1)) 0).2.1=0:=by omega
    rw [if_pos he,if_pos he]
    simp only
    rw [if_neg hp']
    exact txtW_is s n _ _ oM
   ·rw [if_neg he,if_neg he]
    simp only
    rw [if_pos trivial]
    unfold TxtIs txtE
    simp [he]
  ·rw [if_neg h92,if_neg h92]
   exact txtW_is s n _ _ oM
theorem textR_q (s:List UInt8) (p:Nat) (h:skP s p<s.length) (hc:s.getD (skP s p) 0=34):textR s (skP s p)=txtE (txtR s (s.length+1) (skP s p+1) []):=by
 unfold textR
 rw [skP_skP,if_pos (by unfold atB;rw [hc,decide_eq_true h];rfl)]
theorem txtE_e (x:List UInt8×Nat×Int):(txtE x).2.2=0∨(txtE x).2.2=3:=by
 unfold txtE;simp only;split<;>simp
def JWdIs (s:List UInt8) (k p:Nat) (w:JWd×Nat):Prop:=match w.1 with
 | .no=>(valR s k p).2.2=3
 | .mk c=>w.2=skP s p+1∧skP s p<s.length∧s.getD (skP s p) 0=c∧valR s k p=if c=91 then listR (subR s k) (k==0) false s (skP s p) else if c=123 then listR (subR s k) (k==0) true s (skP s p) else (.nil,skP s p,3)
 | .ph t=>valR s k p=(.mk 4 false 0 t [] [],w.2,0)
 | .nu n=>valR s k p=(.mk 3 false n [] [] [],w.2,0)
 | .va v=>valR s k p=(v,w.2,0)
theorem jwK_all (c:UInt8):jwK c=true↔c=91∨c=93∨c=123∨c=125∨c=44∨c=58:=by
 unfold jwK;simp
theorem valR_wd (s:List UInt8) (k p:Nat):JWdIs s k p (nxW s p):=by
 unfold nxW jwA
 have hv:=valR_eq s k p
 generalize hq:skP s p=q at *
 by_cases h0:s.length≤q
 ·rw [if_pos h0]
  show (valR s k p).2.2=3
  rw [hv,if_pos h0]
 rw [if_neg h0]
 rw [if_neg h0] at hv
 have hlt:q<s.length:=by omega
 by_cases hm:jwK (s.getD q 0)=true
 ·rw [if_pos hm]
  show q+1=skP s p+1∧skP s p<s.length∧s.getD (skP s p) 0=s.getD q 0∧valR s k p=_
  rw [hq]
  refine ⟨rfl,hlt,rfl,?_⟩
  rw [hv]
  rcases (jwK_all _).1 hm with h | h | h | h | h | h<;>rw [h]<;>simp [hq,digitB]
 rw [if_neg hm]
 have hm':¬ (s.getD q 0=91∨s.getD q 0=93∨s.getD q 0=123∨s.getD q 0=125∨s.getD q 0=44∨s.getD q 0=58):=fun h=>hm ((jwK_all _).2 h)
 by_cases ht:s.getD q 0=34
 ·rw [if_pos ht]
  rw [if_neg (by rw [ht];decide),if_neg (by rw [ht];decide),if_neg (by rw [ht];decide),if_pos ht] at hv
  have he:=textR_q s p (by rw [hq];exact hlt) (by rw [hq];exact ht)
  rw [hq] at he
  unfold jwT
  have hx:=txtE_e (txtR s (s.length+1) (q+1) [])
  have hw:=txtW_is s (s.length+1) (q+1) [] oM
  unfold TxtIs at hw
  by_cases h1:(txtE (txtR s (s.length+1) (q+1) [])).2.2=0
  ·rw [if_pos h1] at hw
   rw [hw]
   show valR s k p=_
   rw [hv,he]
   refine Prod.ext rfl (Prod.ext rfl h1)
  ·rw [if_neg h1] at hw
   unfold JWdIs
   rw [hw]
   show (valR s k p).2.2=3
   rw [hv,he]
   exact hx.resolve_left h1
 rw [if_neg ht]
 by_cases hn:s.getD q 0=45∨digitB (s.getD q 0)=true
 ·rw [if_pos hn]
  have n1:s.getD q 0≠110∧s.getD q 0≠116∧s.getD q 0≠102∧s.getD q 0≠91∧s.getD q 0≠123:=by
   refine ⟨?_,?_,?_,?_,?_⟩<;>(intro h;rw [h] at hn;revert hn;decide)
  rw [if_neg n1.1,if_neg n1.2.1,if_neg n1.2.2.1,if_neg ht,if_neg n1.2.2.2.1,if_neg n1.2.2.2.2,if_pos hn] at hv
  unfold jwM
  unfold numR at hv
  cases ho:numOk s q with
  | true =>
   rw [ho] at hv
   show valR s k p=_
   rw [hv];rfl
  | false =>
   rw [ho] at hv
   show (valR s k p).2.2=3
   rw [hv];rfl
 rw [if_neg hn]
 unfold jwN
 by_cases h1:s.getD q 0=110
 ·rw [if_pos h1] at hv
  rw [jword_ne (w:=[114,117,101]) (c:=116) (by rw [h1];decide),jword_ne (w:=[97,108,115,101]) (c:=102) (by rw [h1];decide)]
  cases hw:wordB s q [110,117,108,108] with
  | true=>rw [hw] at hv; show valR s k p=_; rw [hv]; rfl
  | false=>rw [hw] at hv; show (valR s k p).2.2=3; rw [hv]; rfl
 rw [if_neg h1] at hv
 rw [jword_ne (w:=[117,108,108]) h1]
 by_cases h2:s.getD q 0=116
 ·rw [if_pos h2] at hv
  rw [jword_ne (w:=[97,108,115,101]) (c:=102) (by rw [h2];decide)]
  cases hw:wordB s q [116,114,117,101] with
  | true=>rw [hw] at hv; show valR s k p=_; rw [hv]; rfl
  | false=>rw [hw] at hv; show (valR s k p).2.2=3; rw [hv]; rfl
 rw [if_neg h2] at hv
 rw [jword_ne (w:=[114,117,101]) h2]
 by_cases h3:s.getD q 0=102
 ·rw [if_pos h3] at hv
  cases hw:wordB s q [102,97,108,115,101] with
  | true=>rw [hw] at hv; show valR s k p=_; rw [hv]; rfl
  | false=>rw [hw] at hv; show (valR s k p).2.2=3; rw [hv]; rfl
 rw [if_neg h3,if_neg ht,if_neg (fun h=>hm' (.inl h)),if_neg (fun h=>hm' (.inr (.inr (.inl h)))),if_neg hn] at hv
 rw [jword_ne (w:=[97,108,115,101]) h3]
 show (valR s k p).2.2=3
 rw [hv]
theorem jpu10:∀ (t:List UInt8) (n:Nat),t.all digitB=true→nvS t n≤9007199254740992→Lib.parseUint10 n t = .ok (nvS t n)
 | [],n,_,_=>rfl
 | c::t,n,h,hn=>by
  simp only [List.all_cons,Bool.and_eq_true] at h
  have hd:=dig_to h.1
  rw [nvS_cons] at hn ⊢
  have hg:=nvS_ge t (n*10+(c.toNat-48))
  rw [Lib.parseUint10,if_pos oM,if_neg oM,if_neg oM]
  exact jpu10 t _ h.2 hn
theorem jdec_ne (m:Nat):Lib.decDigits m≠[]:=fun h=>by
 have h2:=nv_dec m
 have h3:∀ k,Lib.decDigits k≠[]:=fun k=>by
  rw [Lib.decDigits];split<;>simp
 exact h3 m h
theorem atoi_itoa (n:Int) (h1 : -9007199254740992≤n) (h2:n≤9007199254740992):Lib.atoiAll (Lib.itoa n) = .ok n:=by
 by_cases hn:n<0
 ·obtain ⟨m,rfl⟩:∃ m:Nat,n = -(m:Int):=⟨n.natAbs,by omega⟩
  have hi:Lib.itoa (-(m:Int))=45::Lib.decDigits m:=Lib.itoa_neg m oM
  have hm:=jpu10 (Lib.decDigits m) 0 (dec_all m) (by have:=nv_dec m;unfold nv at this;omega)
  have hv:nvS (Lib.decDigits m) 0=m:=nv_dec m
  rw [hv] at hm
  rw [hi]
  unfold Lib.atoiAll Lib.parseMag
  simp only [show (45:UInt8).toNat=45 from rfl,or_true,if_true,if_neg (jdec_ne m),hm]
  simp
  omega
 ·obtain ⟨m,rfl⟩:∃ m:Nat,n=(m:Int):=⟨n.natAbs,by omega⟩
  have hi:Lib.itoa (m:Int)=Lib.decDigits m:=Lib.itoa_nonneg m
  have hm:=jpu10 (Lib.decDigits m) 0 (dec_all m) (by have:=nv_dec m;unfold nv at this;omega)
  have hv:nvS (Lib.decDigits m) 0=m:=nv_dec m
  rw [hv] at hm
  rw [hi]
  cases hd:Lib.decDigits m with
  | nil=>exact absurd hd (jdec_ne m)
  | cons c r =>
   have ha:=dec_all m
   have h2:m≤9007199254740992:=by omega
   rw [hd] at ha hm
   simp only [List.all_cons,Bool.and_eq_true] at ha
   have hc:=dig_to ha.1
   unfold Lib.atoiAll Lib.parseMag
   have k1:¬ (c.toNat=43∨c.toNat=45):=by omega
   have k2:¬ c.toNat=45:=by omega
   simp only [if_neg k1,if_neg (List.cons_ne_nil c r),hm,k2]
   have k3:¬ 9223372036854775808≤m:=by omega
   simp [k3,show ¬ c.toNat=43 by omega,hm]
def jnumT (s:List UInt8) (p:Nat):List UInt8:=(s.drop p).take (digP s (sgP s p)-p)
theorem jnum_yes {s:List UInt8} {p:Nat} (h:numOk s p=true):Lib.atoiAll (jnumT s p) = .ok (numV s p)∧numV s p≤9007199254740992 ∧ -9007199254740992≤numV s p∧Lib.itoa (numV s p)=jnumT s p:=by
 unfold numOk at h
 simp only [Bool.and_eq_true,decide_eq_true_eq,beq_iff_eq] at h
 obtain ⟨⟨h1,h2⟩,h3⟩:=h
 refine ⟨?_,h1,h2,h3⟩
 unfold jnumT
 rw [← h3]
 exact atoi_itoa _ h2 h1
theorem jtake_max (l:List UInt8):digitB ((l.drop (l.takeWhile digitB).length).headD 0)=false:=by
 induction l with
 | nil=>rfl
 | cons x r ih =>
  rw [List.takeWhile_cons]
  split
  ·exact ih
  ·rename_i h;simpa using h
theorem jnum_of {s:List UInt8} {p:Nat} {v:Int} (h1:v≤9007199254740992) (h2 : -9007199254740992≤v) (h3:Lib.itoa v=jnumT s p) (hp:p≤s.length):numOk s p=true∧numV s p=v:=by
 have hsg:=sgP_le s p hp
 have hQ:=digP_le s (sgP s p)
 have hd:s.drop p=Lib.itoa v++s.drop (digP s (sgP s p)):=by
  rw [h3];unfold jnumT
  rw [show s.drop (digP s (sgP s p))=(s.drop p).drop (digP s (sgP s p)-p) by rw [List.drop_drop];congr 1;omega]
  exact (List.take_append_drop _ _).symm
 have hr:digitB ((s.drop (digP s (sgP s p))).headD 0)=false:=by
  have:=jtake_max (s.drop (sgP s p))
  rw [List.drop_drop] at this
  exact this
 obtain ⟨h,_,_⟩:=numR_of h2 h1 hd hr
 unfold numR at h
 have e1:=congrArg Prod.fst h
 have e2:=congrArg (fun x=>x.2.2) h
 refine ⟨?_,e1⟩
 simp only at e2
 split at e2
 ·assumption
 ·cases e2
theorem jnum_no {s:List UInt8} {p:Nat} (h:numOk s p=false) (hp:p≤s.length) {v:Int} (hv:Lib.atoiAll (jnumT s p) = .ok v):¬ (v≤9007199254740992 ∧ -9007199254740992≤v∧Lib.itoa v=jnumT s p):=by
 rintro ⟨h1,h2,h3⟩
 rw [(jnum_of h1 h2 h3 hp).1] at h
 cases h
end Go.Proofs.Tw
end
section
open Go Go.Sv Go.RowKit
namespace Go.Proofs.Tw
set_option maxRecDepth 100000
set_option maxHeartbeats 4000000
@[reducible] def isMk (c:UInt8):JWd→Bool
 | .mk d=>d==c
 | _=>false
@[reducible] def isPh:JWd→Bool
 | .ph _=>true
 | _=>false
@[reducible] def phT:JWd→List UInt8
 | .ph t=>t
 | _=>[]
def listW (s:List UInt8) (f:JWd→Nat→JV×Nat×Int):Nat→JWd→Nat→List JV→JV×Nat×Int
 | 0,_,q,ks=>(.mk 5 false 0 [] [] ks,q,3)
 | n+1,w,q,ks =>
  if (f w q).2.2=0 then
   (if isMk 93 (nxW s (f w q).2.1).1=true then (.mk 5 false 0 [] [] (ks++[(f w q).1]),(nxW s (f w q).2.1).2,0)
   else if isMk 44 (nxW s (f w q).2.1).1=true then listW s f n (nxW s (nxW s (f w q).2.1).2).1 (nxW s (nxW s (f w q).2.1).2).2 (ks++[(f w q).1])
   else (.mk 5 false 0 [] [] (ks++[(f w q).1]),(nxW s (f w q).2.1).2,3))
  else (.mk 5 false 0 [] [] ks,(f w q).2.1,(f w q).2.2)
def objW (s:List UInt8) (f:JWd→Nat→JV×Nat×Int):Nat→JWd→Nat→List (List UInt8)→List JV→JV×Nat×Int
 | 0,_,q,ns,ks=>(.mk 6 false 0 [] ns ks,q,3)
 | n+1,w,q,ns,ks =>
  if isPh w=true then
   (if ns.contains (phT w)=true then (.mk 6 false 0 [] ns ks,q,6)
   else if isMk 58 (nxW s q).1=true then
    (if (f (nxW s (nxW s q).2).1 (nxW s (nxW s q).2).2).2.2=0 then
     (if isMk 125 (nxW s (f (nxW s (nxW s q).2).1 (nxW s (nxW s q).2).2).2.1).1=true then (.mk 6 false 0 [] (ns++[phT w]) (ks++[(f (nxW s (nxW s q).2).1 (nxW s (nxW s q).2).2).1]),(nxW s (f (nxW s (nxW s q).2).1 (nxW s (nxW s q).2).2).2.1).2,0)
     else if isMk 44 (nxW s (f (nxW s (nxW s q).2).1 (nxW s (nxW s q).2).2).2.1).1=true then
      objW s f n (nxW s (nxW s (f (nxW s (nxW s q).2).1 (nxW s (nxW s q).2).2).2.1).2).1 (nxW s (nxW s (f (nxW s (nxW s q).2).1 (nxW s (nxW s q).2).2).2.1).2).2 (ns++[phT w]) (ks++[(f (nxW s (nxW s q).2).1 (nxW s (nxW s q).2).2).1])
     else (.mk 6 false 0 [] (ns++[phT w]) (ks++[(f (nxW s (nxW s q).2).1 (nxW s (nxW s q).2).2).1]),(nxW s (f (nxW s (nxW s q).2).1 (nxW s (nxW s q).2).2).2.1).2,3))
    else (.mk 6 false 0 [] ns ks,(f (nxW s (nxW s q).2).1 (nxW s (nxW s q).2).2).2.1,(f (nxW s (nxW s q).2).1 (nxW s (nxW s q).2).2).2.2))
   else (.mk 6 false 0 [] ns ks,(nxW s q).2,3))
  else (.mk 6 false 0 [] ns ks,q,3)
def listS (s:List UInt8) (f:JWd→Nat→JV×Nat×Int) (q:Nat):JV×Nat×Int:=if isMk 93 (nxW s q).1=true then (.mk 5 false 0 [] [] [],(nxW s q).2,0) else listW s f (s.length+1) (nxW s q).1 (nxW s q).2 []
def objS (s:List UInt8) (f:JWd→Nat→JV×Nat×Int) (q:Nat):JV×Nat×Int:=if isMk 125 (nxW s q).1=true then (.mk 6 false 0 [] [] [],(nxW s q).2,0) else objW s f (s.length+1) (nxW s q).1 (nxW s q).2 [] []
def valW (s:List UInt8):Nat→JWd→Nat→JV×Nat×Int
 | _,.no,q=>(.nil,q,3)
 | _,.ph t,q=>(.mk 4 false 0 t [] [],q,0)
 | _,.nu n,q=>(.mk 3 false n [] [] [],q,0)
 | _,.va v,q=>(v,q,0)
 | 0,.mk c,q=>if c=91 then (.nil,q,4) else if c=123 then (.nil,q,4) else (.nil,q,3)
 | k+1,.mk c,q=>if c=91 then listS s (valW s k) q else if c=123 then objS s (valW s k) q else (.nil,q,3)
def parseW (s:List UInt8):JV×Int :=
 if (valW s 8 (nxW s 0).1 (nxW s 0).2).2.2=0 then (if skP s (valW s 8 (nxW s 0).1 (nxW s 0).2).2.1<s.length then (.nil,5) else ((valW s 8 (nxW s 0).1 (nxW s 0).2).1,0)) else (.nil,(valW s 8 (nxW s 0).1 (nxW s 0).2).2.2)
theorem txtW_mk (s:List UInt8) (c:UInt8):∀ (n k:Nat) (b:List UInt8),isMk c (txtW s n k b).1=false
 | 0,k,b=>by rw [txtW]
 | n+1,k,b=>by
  rw [txtW]
  repeat' split
  all_goals first | rfl | exact txtW_mk s c n _ _
theorem jwM_mk (s:List UInt8) (q:Nat) (c:UInt8):isMk c (jwM s q).1=false:=by unfold jwM;split<;>rfl
theorem jwN_mk (s:List UInt8) (q:Nat) (c:UInt8):isMk c (jwN s q).1=false:=by unfold jwN;split;rfl;split;rfl;split;rfl;rfl
theorem isMk_at (s:List UInt8) (p:Nat) (c:UInt8) (hc:jwK c=true):isMk c (nxW s p).1=atB s (skP s p) c:=by
 unfold nxW jwA atB
 generalize skP s p=q
 by_cases h0:s.length≤q
 ·rw [if_pos h0,decide_eq_false oM];rfl
 rw [if_neg h0,decide_eq_true oM]
 by_cases hm:jwK (s.getD q 0)=true
 ·rw [if_pos hm];rfl
 ·rw [if_neg hm]
  have hne:(s.getD q 0==c)=false:=by
   cases hb:s.getD q 0==c with
   | false=>rfl
   | true=>rw [eq_of_beq hb] at hm; exact absurd hc hm
  rw [hne]
  split
  ·exact txtW_mk s c _ _ _
  ·split
   ·exact jwM_mk s q c
   ·exact jwN_mk s q c
theorem isMk_pos (s:List UInt8) (p:Nat) (c:UInt8) (hc:jwK c=true) (h:isMk c (nxW s p).1=true):(nxW s p).2=skP s p+1∧skP s p<s.length:=by
 have ha:=isMk_at s p c hc
 rw [h] at ha
 unfold atB at ha
 have ha:=ha.symm
 simp only [Bool.and_eq_true,decide_eq_true_eq,beq_iff_eq] at ha
 obtain ⟨h1,h2⟩:=ha
 unfold nxW jwA
 rw [if_neg oM,h2,if_pos hc]
 exact ⟨rfl,h1⟩
theorem escW_len (t:List UInt8):(escW t).2≤t.length:=by
 unfold escW
 split
 ·unfold escR
  split
  ·rename_i h
   simp only [Bool.or_eq_true] at h
   have:0<t.length:=by
    rcases h with h | h
    ·exact at_lt h
    ·exact at_lt h
   show 0+1≤t.length
   omega
  ·split
   ·split
    ·rename_i h;simp_all [escR]
    ·split
     ·show 0+5≤t.length;omega
     ·show 0+5≤t.length;omega
   ·exact Nat.zero_le _
 ·exact Nat.zero_le _
theorem txtW_adv (s:List UInt8):∀ (n k:Nat) (b:List UInt8),k≤s.length→Adv s k (txtW s n k b).2
 | 0,k,b,h=>by rw [txtW]; exact .refl h
 | n+1,k,b,h=>by
  rw [txtW]
  by_cases h0:s.length≤k
  ·rw [if_pos h0];exact .refl h
  rw [if_neg h0]
  have h1:Adv s k (k+1):=(Adv.refl h).succ oM
  split
  ·split
   ·exact h1
   ·exact h1
  ·split
   ·exact h1
   ·split
    ·split
     ·exact h1
     ·have he:=escW_len (s.drop (k+1))
      rw [List.length_drop] at he
      have h2:Adv s k (k+1+(escW (s.drop (k+1))).2):=⟨by omega,by omega⟩
      exact h2.trans (txtW_adv s n _ _ h2.2)
    ·exact h1.trans (txtW_adv s n _ _ h1.2)
theorem jwM_adv (s:List UInt8) (q:Nat) (h:q≤s.length):Adv s q (jwM s q).2:=by
 have hs:=sgP_le s q h
 have hd:=digP_le s (sgP s q)
 have hl:=digP_len s (sgP s q) hs.2
 unfold jwM
 split
 ·exact ⟨by show q≤digP s (sgP s q);omega,hl⟩
 ·exact ⟨by show q≤digP s (sgP s q);omega,hl⟩
theorem jwN_adv (s:List UInt8) (q:Nat) (h:q≤s.length):Adv s q (jwN s q).2:=by
 unfold jwN
 split
 ·rename_i hw;have:=wordB_len hw h;exact ⟨Nat.le_add_right _ _,this⟩
 ·split
  ·rename_i hw;have:=wordB_len hw h;exact ⟨Nat.le_add_right _ _,this⟩
  ·split
   ·rename_i hw;have:=wordB_len hw h;exact ⟨Nat.le_add_right _ _,this⟩
   ·exact .refl h
theorem nxW_adv (s:List UInt8) (p:Nat) (h:p≤s.length):Adv s p (nxW s p).2:=by
 have h1:=skP_adv h
 unfold nxW jwA
 split
 ·exact h1
 ·have h2:Adv s p (skP s p+1):=h1.succ oM
  split
  ·exact h2
  ·split
   ·exact h2.trans (txtW_adv s _ _ _ h2.2)
   ·split
    ·exact h1.trans (jwM_adv s _ h1.2)
    ·exact h1.trans (jwN_adv s _ h1.2)
theorem listW_adv {s:List UInt8} {f:JWd→Nat→JV×Nat×Int} (hf:∀ w q,q≤s.length→Adv s q (f w q).2.1):∀ (n:Nat) (w:JWd) (q:Nat) (ks:List JV),q≤s.length→Adv s q (listW s f n w q ks).2.1
 | 0,w,q,ks,h=>by rw [listW]; exact .refl h
 | n+1,w,q,ks,h=>by
  rw [listW]
  have h1:=hf w q h
  have h2:=nxW_adv s _ h1.2
  have h3:=nxW_adv s _ h2.2
  split
  ·split
   ·exact h1.trans h2
   ·split
    ·exact ((h1.trans h2).trans h3).trans (listW_adv hf n _ _ _ h3.2)
    ·exact h1.trans h2
  ·exact h1
theorem objW_adv {s:List UInt8} {f:JWd→Nat→JV×Nat×Int} (hf:∀ w q,q≤s.length→Adv s q (f w q).2.1):∀ (n:Nat) (w:JWd) (q:Nat) (ns:List (List UInt8)) (ks:List JV),q≤s.length→Adv s q (objW s f n w q ns ks).2.1
 | 0,w,q,ns,ks,h=>by rw [objW]; exact .refl h
 | n+1,w,q,ns,ks,h=>by
  rw [objW]
  have a1:=nxW_adv s q h
  have a2:=nxW_adv s _ a1.2
  have h1:=hf (nxW s (nxW s q).2).1 _ a2.2
  have h2:=nxW_adv s _ h1.2
  have h3:=nxW_adv s _ h2.2
  have b1:=(a1.trans a2).trans h1
  split
  ·split
   ·exact .refl h
   ·split
    ·split
     ·split
      ·exact b1.trans h2
      ·split
       ·exact ((b1.trans h2).trans h3).trans (objW_adv hf n _ _ _ _ h3.2)
       ·exact b1.trans h2
     ·exact b1
    ·exact a1
  ·exact .refl h
theorem valW_adv (s:List UInt8):∀ (k:Nat) (w:JWd) (q:Nat),q≤s.length→Adv s q (valW s k w q).2.1
 | k,.no,q,h=>by cases k<;>exact .refl h
 | k,.ph t,q,h=>by cases k<;>exact .refl h
 | k,.nu n,q,h=>by cases k<;>exact .refl h
 | k,.va v,q,h=>by cases k<;>exact .refl h
 | 0,.mk c,q,h=>by
  rw [valW]
  split
  ·exact .refl h
  ·split
   ·exact .refl h
   ·exact .refl h
 | k+1,.mk c,q,h=>by
  have h1:=nxW_adv s q h
  rw [valW]
  split
  ·unfold listS
   split
   ·exact h1
   ·exact h1.trans (listW_adv (valW_adv s k) _ _ _ _ h1.2)
  ·split
   ·unfold objS
    split
    ·exact h1
    ·exact h1.trans (objW_adv (valW_adv s k) _ _ _ _ _ h1.2)
   ·exact .refl h
def JEqv (a b:JV×Nat×Int):Prop:=a.2.2=b.2.2∧(b.2.2=0→a=b)
theorem JEqv.refl (a:JV×Nat×Int):JEqv a a:=⟨rfl,fun _=>rfl⟩
theorem JEqv.bad {a b:JV×Nat×Int} (h:a.2.2=b.2.2) (hb:b.2.2≠0):JEqv a b:=⟨h,fun e=>absurd e hb⟩
theorem listW_is {s:List UInt8} {f:JWd→Nat→JV×Nat×Int} {g:Nat→JV×Nat×Int} (hf:∀ p,p≤s.length→JEqv (f (nxW s p).1 (nxW s p).2) (g p)) (hg:∀ p,p≤s.length→Adv s p (g p).2.1) :
  ∀ (n p:Nat) (ks:List JV),p≤s.length→JEqv (listW s f n (nxW s p).1 (nxW s p).2 ks) (manyJ 5 (manyR g false s n p [] ks))
 | 0,p,ks,hp=>by rw [listW,manyR]; exact .bad rfl (by show (3:Int)≠0; decide)
 | n+1,p,ks,hp=>by
  obtain ⟨e1,e2⟩:=hf p hp
  have ha:=hg p hp
  have n1:nameO false s p []=([],p,0):=rfl
  rw [listW,manyR,n1]
  simp only
  rw [if_pos trivial]
  by_cases h0:(g p).2.2=0
  ·rw [e2 h0,if_pos h0,if_pos h0]
   rw [isMk_at s _ 93 rfl,isMk_at s _ 44 rfl]
   show JEqv _ (manyJ 5 (if atB s (skP s (g p).2.1) 93=true then _ else _))
   by_cases h1:atB s (skP s (g p).2.1) 93=true
   ·rw [if_pos h1,if_pos h1,(isMk_pos s (g p).2.1 93 rfl (by rw [isMk_at s _ 93 rfl];exact h1)).1];exact .refl _
   ·rw [if_neg h1,if_neg h1]
    by_cases h2:atB s (skP s (g p).2.1) 44=true
    ·have hq:=isMk_pos s (g p).2.1 44 rfl (by rw [isMk_at s _ 44 rfl];exact h2)
     rw [if_pos h2,if_pos h2,hq.1]
     exact listW_is hf hg n _ _ hq.2
    ·rw [if_neg h2,if_neg h2];exact .bad rfl (by show (3:Int)≠0;decide)
  ·rw [if_neg (by rw [e1];exact h0),if_neg h0]
   exact .bad e1 h0
theorem textR_ph (s:List UInt8) (p:Nat):if (textR s p).2.2=0 then nxW s p=(.ph (textR s p).1,(textR s p).2.1) else isPh (nxW s p).1=false∧(textR s p).2.2=3:=by
 by_cases ha:atB s (skP s p) 34=true
 ·have hlt:=at_lt ha
  unfold atB at ha
  simp only [Bool.and_eq_true,decide_eq_true_eq,beq_iff_eq] at ha
  have e1:textR s p=txtE (txtR s (s.length+1) (skP s p+1) []):=by
   unfold textR;rw [if_pos (by unfold atB;rw [ha.2,decide_eq_true ha.1];rfl)]
  have e2:nxW s p=txtW s (s.length+1) (skP s p+1) []:=by
   unfold nxW jwA
   rw [if_neg oM,ha.2,if_neg dC,if_pos rfl];rfl
  have hw:=txtW_is s (s.length+1) (skP s p+1) [] oM
  unfold TxtIs at hw
  rw [e1,e2]
  split
  ·rename_i h;rw [if_pos h] at hw;exact hw
  ·rename_i h;rw [if_neg h] at hw
   exact ⟨by rw [hw],(txtE_e _).resolve_left h⟩
 ·have e1:textR s p=([],skP s p,3):=by unfold textR;rw [if_neg ha]
  rw [e1,if_neg (show ¬ (3:Int)=0 by decide)]
  refine ⟨?_,rfl⟩
  unfold nxW jwA
  split
  ·rfl
  ·rename_i h0
   split
   ·rfl
   ·rw [if_neg (fun h=>ha (by unfold atB;rw [h,decide_eq_true oM];rfl))]
    split
    ·unfold jwM;split<;>rfl
    ·unfold jwN;split;rfl;split;rfl;split;rfl;rfl
theorem objW_is {s:List UInt8} {f:JWd→Nat→JV×Nat×Int} {g:Nat→JV×Nat×Int} (hf:∀ p,p≤s.length→JEqv (f (nxW s p).1 (nxW s p).2) (g p)) (hg:∀ p,p≤s.length→Adv s p (g p).2.1) :
  ∀ (n p:Nat) (ns:List (List UInt8)) (ks:List JV),p≤s.length→JEqv (objW s f n (nxW s p).1 (nxW s p).2 ns ks) (manyJ 6 (manyR g true s n p ns ks))
 | 0,p,ns,ks,hp=>by rw [objW,manyR]; exact .bad rfl (by show (3:Int)≠0; decide)
 | n+1,p,ns,ks,hp=>by
  have ht:=textR_ph s p
  have n1:nameO true s p ns=nameR s p ns:=rfl
  rw [objW,manyR,n1]
  unfold nameR
  by_cases h0:(textR s p).2.2=0
  ·have hadv:=textR_adv hp
   rw [if_pos h0] at ht ⊢
   rw [ht]
   simp only [isPh,phT,if_true]
   by_cases hc:ns.contains (textR s p).1=true
   ·rw [if_pos hc,if_pos hc]
    simp only
    rw [if_neg dC]
    exact .bad rfl (by show (6:Int)≠0;decide)
   rw [if_neg hc,if_neg hc]
   simp only
   rw [isMk_at s _ 58 rfl]
   unfold wantR
   by_cases hk:atB s (skP s (textR s p).2.1) 58=true
   ·have hq:=isMk_pos s (textR s p).2.1 58 rfl (by rw [isMk_at s _ 58 rfl];exact hk)
    rw [if_pos hk,if_pos hk]
    simp only
    rw [if_pos trivial,hq.1]
    have hp2:skP s (textR s p).2.1+1≤s.length:=hq.2
    obtain ⟨e1,e2⟩:=hf _ hp2
    have ha:=hg _ hp2
    by_cases hz:(g (skP s (textR s p).2.1+1)).2.2=0
    ·rw [e2 hz,if_pos hz,if_pos hz]
     rw [isMk_at s _ 125 rfl,isMk_at s _ 44 rfl]
     show JEqv _ (manyJ 6 (if atB s (skP s (g (skP s (textR s p).2.1+1)).2.1) 125=true then _ else _))
     by_cases h1:atB s (skP s (g (skP s (textR s p).2.1+1)).2.1) 125=true
     ·rw [if_pos h1,if_pos h1,(isMk_pos s _ 125 rfl (by rw [isMk_at s _ 125 rfl];exact h1)).1];exact .refl _
     ·rw [if_neg h1,if_neg h1]
      by_cases h2:atB s (skP s (g (skP s (textR s p).2.1+1)).2.1) 44=true
      ·have hq2:=isMk_pos s _ 44 rfl (by rw [isMk_at s _ 44 rfl];exact h2)
       rw [if_pos h2,if_pos h2,hq2.1]
       exact objW_is hf hg n _ _ _ hq2.2
      ·rw [if_neg h2,if_neg h2];exact .bad rfl (by show (3:Int)≠0;decide)
    ·rw [if_neg (by rw [e1];exact hz),if_neg hz]
     exact .bad e1 hz
   ·rw [if_neg hk,if_neg hk]
    simp only
    rw [if_neg dC]
    exact .bad rfl (by show (3:Int)≠0;decide)
  ·rw [if_neg h0] at ht
   rw [if_neg h0,ht.1]
   simp only
   rw [if_neg dC,if_neg (show ¬ (3:Int)=0 by decide)]
   exact .bad rfl (by show (3:Int)≠0;decide)
theorem valW_is (s:List UInt8):∀ (k p:Nat),p≤s.length→JEqv (valW s k (nxW s p).1 (nxW s p).2) (valR s k p):=by
 have flat:∀ (k p:Nat),(∀ c,(nxW s p).1 ≠ .mk c)→JEqv (valW s k (nxW s p).1 (nxW s p).2) (valR s k p):=by
  intro k p hn
  have hw:=valR_wd s k p
  generalize nxW s p=x at *
  obtain ⟨w,q⟩:=x
  cases w with
  | no=>have hw:(valR s k p).2.2=3:=hw; exact .bad (by rw [hw]; cases k<;>rfl) (by rw [hw]; decide)
  | mk c=>exact (hn c rfl).elim
  | ph t=>have hw:valR s k p=_:=hw; rw [hw]; cases k<;>exact .refl _
  | nu n=>have hw:valR s k p=_:=hw; rw [hw]; cases k<;>exact .refl _
  | va v=>have hw:valR s k p=_:=hw; rw [hw]; cases k<;>exact .refl _
 intro k
 induction k with
 | zero =>
  intro p hp
  by_cases hm:∃ c,(nxW s p).1 = .mk c
  ·obtain ⟨c,hc⟩:=hm
   have hw:=valR_wd s 0 p
   unfold JWdIs at hw
   rw [hc] at hw ⊢
   obtain ⟨_,_,_,hv⟩:=hw
   rw [hv,valW]
   have lr:∀ o q,(listR (subR s 0) (0==0) o s q).2.2=4:=fun o q=>by
    unfold listR;split
    ·rfl
    ·rfl
   split
   ·exact .bad (lr _ _).symm (by rw [lr];decide)
   ·split
    ·exact .bad (lr _ _).symm (by rw [lr];decide)
    ·exact .bad rfl (by show (3:Int)≠0;decide)
  ·exact flat 0 p (fun c h=>hm ⟨c,h⟩)
 | succ k ih =>
  intro p hp
  by_cases hm:∃ c,(nxW s p).1 = .mk c
  ·obtain ⟨c,hc⟩:=hm
   have hw:=valR_wd s (k+1) p
   unfold JWdIs at hw
   rw [hc] at hw ⊢
   obtain ⟨hq,hlt,_,hv⟩:=hw
   rw [hv,valW,hq]
   have hA:∀ p,p≤s.length→Adv s p (valR s k p).2.1:=fun p hp=>valR_adv k p hp
   split
   ·unfold listS listR
    rw [isMk_at s _ 93 rfl]
    show JEqv _ (if atB s (skP s (skP s p+1)) 93=true then _ else _)
    by_cases h1:atB s (skP s (skP s p+1)) 93=true
    ·rw [if_pos h1,if_pos h1,(isMk_pos s _ 93 rfl (by rw [isMk_at s _ 93 rfl];exact h1)).1];exact .refl _
    ·rw [if_neg h1,if_neg h1]
     have:=listW_is ih hA (s.length+1) (skP s p+1) [] hlt
     have hsk:∀ n,manyR (subR s (k+1)) false s n (skP s (skP s p+1)) [] []=manyR (subR s (k+1)) false s n (skP s (skP s p+1)) [] []:=fun _=>rfl
     have hnx:nxW s (skP s (skP s p+1))=nxW s (skP s p+1):=by unfold nxW;rw [skP_skP]
     have this:=listW_is ih hA (s.length+1) (skP s (skP s p+1)) [] (skP_len s _ hlt)
     rw [hnx] at this
     exact this
   ·split
    ·unfold objS listR
     rw [isMk_at s _ 125 rfl]
     show JEqv _ (if atB s (skP s (skP s p+1)) 125=true then _ else _)
     by_cases h1:atB s (skP s (skP s p+1)) 125=true
     ·rw [if_pos h1,if_pos h1,(isMk_pos s _ 125 rfl (by rw [isMk_at s _ 125 rfl];exact h1)).1];exact .refl _
     ·rw [if_neg h1,if_neg h1]
      have hnx:nxW s (skP s (skP s p+1))=nxW s (skP s p+1):=by unfold nxW;rw [skP_skP]
      have this:=objW_is ih hA (s.length+1) (skP s (skP s p+1)) [] [] (skP_len s _ hlt)
      rw [hnx] at this
      exact this
    ·exact .bad rfl (by show (3:Int)≠0;decide)
  ·exact flat (k+1) p (fun c h=>hm ⟨c,h⟩)
theorem parseW_is (s:List UInt8):parseW s=parseJ s:=by
 obtain ⟨h1,h2⟩:=valW_is s 8 0 (Nat.zero_le _)
 unfold parseW parseJ
 by_cases h0:(valR s 8 0).2.2=0
 ·rw [h2 h0]
 ·rw [if_neg h0,if_neg (by rw [h1];exact h0),h1]
end Go.Proofs.Tw
end
section
open Go Go.Sv Go.RowKit
namespace Go.Proofs.Tw
attribute [local irreducible] Wp FinQ resV Ent Pur Go.Sv.Fn Sat0
set_option maxRecDepth 100000
set_option maxHeartbeats 4000000
variable {G:Nat→Option (List Cell)} [Back G]
def pjB (s:List UInt8) (p:Nat):Blk := .box 187 [.str s,.int .i64 (p:Int)]
def wdC:JWd→Cell
 | .no => .nilif
 | .mk c => .ifc 217 none (fun _ => .int .u8 (c.toNat:Int))
 | .ph t => .ifc 244 none (fun _ => .str t)
 | .nu n => .ifc 251 none (fun _ => .int .i64 n)
 | .va v => .ifc 253 (some 6) (nthD (encJ v))
theorem wd_flat (w:JWd) (S:Nat→Prop):(wdC w).inS S:=by
 cases w with
 | no=>trivial
 | mk c=>trivial
 | ph t=>trivial
 | nu n=>trivial
 | va v =>
  intro j hj
  match j,hj with
  | 0,_=>trivial
  | 1,_=>trivial
  | 2,_=>trivial
  | 3,_=>trivial
  | 4,_=>trivial
  | 5,_=>trivial
  | j+6,h=>omega
theorem wd_any (w:JWd) {D:Dat} {ρ ρ':Rho} {u:Value} (h:Den D ρ (wdC w) u):Den D ρ' (wdC w) u:=Den.agr (ρ:=ρ) (Agr.of_inS (S:=fun _=>False) (fun _ h=>h.elim) (wd_flat w _)) h
theorem wd_in (w:JWd):EqvD (.c (wdC w)) (.c (.cl (wdC w))):=fun D ρ u h=>(wd_any w (show Den D ρ (wdC w) u from h):Den D rho0 (wdC w) u)
theorem wd_out (w:JWd):EqvD (.c (.cl (wdC w))) (.c (wdC w)):=fun D ρ u h=>(wd_any w (show Den D rho0 (wdC w) u from h):Den D ρ (wdC w) u)
theorem wd_outI (w:JWd):EqvI (.c (.cl (wdC w))) (.c (wdC w)):=fun S _=>wd_flat w S
theorem ix_blank (c:UInt8):decide (Lib.indexByte [9,10,13,32] c≥0)=blankB c:=eq_of_beq (byte_all (fun c=>decide (Lib.indexByte [9,10,13,32] c≥0)==blankB c) kR c)
theorem ix_mark (c:UInt8):decide (Lib.indexByte [91,93,123,125,44,58] c≥0)=jwK c:=eq_of_beq (byte_all (fun c=>decide (Lib.indexByte [91,93,123,125,44,58] c≥0)==jwK c) kR c)
theorem pblanks_ok (s:List UInt8) (p:Nat) (hl:s.length≤1000000000) (hp:p≤s.length):FnB Tryz.prog G 140 [pjB s p] [.c (.ptr 0 0)] [] [(0,pjB s (skP s p))]:=by
 refine zf Tryz.func140 ?_
 refine Wp.go (mx:=true) (fun _=>mixed) [] 100 [] [] (by kernel_rfl) (by kernel_rfl) (by kernel_rfl) trivial ?_
 refine zl (fun (k:Nat)=>⟨[(0,.v (.c (.ptr 0 0)))],[(0,pjB s k)],1⟩) (fun k=>k≤s.length∧skP s p=skP s k) (fun k=>s.length-k) p ⟨hp,rfl⟩ ?_
 rintro k L ⟨hk,hq⟩ again
 have c0:=lib_IndexByte (G:=G) [9,10,13,32] (s.getD k 0)
 have hI:=ix_blank (s.getD k 0)
 generalize Lib.indexByte [9,10,13,32] (s.getD k 0)=I at *
 rcases Nat.lt_or_ge k s.length with hlt | hge
 ·have h1:decide ((k:Int)<(s.length:Int))=true:=decide_eq_true oM
  cases hb:blankB (s.getD k 0) with
  | true =>
   rw [skP_yes hlt hb] at hq
   rw [hb] at hI
   clear hb
   refine zg [(0,{cs:=[(20,pc c0)]})] [true] [decide ((k:Int)<(s.length:Int))=true→(0:Int)≤(k:Int)∧(k:Int)<(s.length:Int),(bif decide ((k:Int)<(s.length:Int)) then decide (I≥(0:Int)) else false)=true,inR .i64 ((k:Int)+1)] ⟨oM,(by simp_all<;>omega),i6⟩ ?_
   exact za [] (again _ (k+1) oM oM)
  | false =>
   rw [skP_no (fun _=>hb)] at hq
   rw [hq]
   rw [hb] at hI
   clear hb again
   refine zg [(0,{cs:=[(20,pc c0)]})] [false] [decide ((k:Int)<(s.length:Int))=true→(0:Int)≤(k:Int)∧(k:Int)<(s.length:Int),(bif decide ((k:Int)<(s.length:Int)) then decide (I≥(0:Int)) else false)=false] ⟨oM,(show (bif decide ((↑k:Int)<(↑s.length:Int)) then decide (I≥(0:Int)) else false)=false from (by simp_all<;>omega))⟩ ?_
   exact zb []
 ·rw [skP_no (s:=s) (p:=k) (fun h=>absurd h (Nat.not_lt.2 hge))] at hq
  rw [hq]
  clear again hI
  have h1:decide ((k:Int)<(s.length:Int))=false:=decide_eq_false oM
  refine zg [(0,{cs:=[(20,pc c0)]})] [false] [decide ((k:Int)<(s.length:Int))=true→(0:Int)≤(k:Int)∧(k:Int)<(s.length:Int),(bif decide ((k:Int)<(s.length:Int)) then decide (I≥(0:Int)) else false)=false] ⟨(by simp;done),(show (bif decide ((↑k:Int)<(↑s.length:Int)) then decide (I≥(0:Int)) else false)=false from sO)⟩ ?_
  exact zb []
theorem pnum_ok (n:Int):Pur Tryz.prog G 337 [.c (.int .i64 n)] [.agg (encJ (.mk 3 false n [] [] [])),.c (.bool true)]:=by
 refine zp Tryz.func337 ?_
 have e1:=wJ_den 3 false n []
 refine zg [(1,{fm:=[(1,.agg (encJ (.mk 3 false n [] [] [])))]})] [] [EqvI (.agg [.int .i64 3,.bool false,.int .i64 n,.str [],.nilsl,.nilsl]) (.agg (encJ (JV.mk (3:Int) false n [] [] []))),EqvD (.agg [.int .i64 3,.bool false,.int .i64 n,.str [],.nilsl,.nilsl]) (.agg (encJ (JV.mk (3:Int) false n [] [] [])))] ⟨eqvI_flat _ _ kR,(show EqvD (.agg [.int .i64 (3:Int),.bool false,.int .i64 n,.str [],.nilsl,.nilsl]) (.agg (encJ (JV.mk (3:Int) false n [] [] []))) from aS)⟩ ?_
 exact zr
theorem pphr_ok (t:List UInt8):Pur Tryz.prog G 336 [.c (.str t)] [.agg (encJ (.mk 4 false 0 t [] [])),.c (.bool true)]:=by
 refine zp Tryz.func336 ?_
 have e1:=wJ_den 4 false 0 t
 refine zg [(1,{fm:=[(1,.agg (encJ (.mk 4 false 0 t [] [])))]})] [] [EqvI (.agg [.int .i64 4,.bool false,.int .i64 0,.str t,.nilsl,.nilsl]) (.agg (encJ (JV.mk (4:Int) false (0:Int) t [] []))),EqvD (.agg [.int .i64 4,.bool false,.int .i64 0,.str t,.nilsl,.nilsl]) (.agg (encJ (JV.mk (4:Int) false (0:Int) t [] [])))] ⟨eqvI_flat _ _ kR,(show EqvD (.agg [.int .i64 (4:Int),.bool false,.int .i64 (0:Int),.str t,.nilsl,.nilsl]) (.agg (encJ (JV.mk (4:Int) false (0:Int) t [] []))) from aS)⟩ ?_
 exact zr
theorem pval_ok (v:JV):Pur Tryz.prog G 338 [.agg (encJ v)] [.agg (encJ v),.c (.bool true)]:=by
 refine zp Tryz.func338 ?_
 refine Wp.go (mx:=true) (fun _=>mixed) [] 100 [] [] (by kernel_rfl) (by kernel_rfl) (by kernel_rfl) trivial ?_
 exact zr
theorem ends_mk (c e:UInt8):Pur Tryz.prog G 229 [.c (.cl (wdC (.mk c))),.c (.int .u8 (e.toNat:Int))] [.c (.bool ((c.toNat:Int)==(e.toNat:Int))),.c (.bool (bif (c.toNat:Int)==(e.toNat:Int) then true else (c.toNat:Int)==44))]:=by
 refine Pur.of Tryz.func229 (by kernel_rfl) (by kernel_rfl) (by kernel_rfl) ?_
 have e1:=wd_out (.mk c)
 have e2:=wd_outI (.mk c)
 refine zg [(1,{fm:=[(0,.c (wdC (.mk c)))]})] [] [EqvI (.c (wdC (JWd.mk c)).cl) (.c (wdC (JWd.mk c))),EqvD (.c (wdC (JWd.mk c)).cl) (.c (wdC (JWd.mk c)))] ⟨fun _ _=>trivial,(show EqvD (.c (wdC (JWd.mk c)).cl) (.c (wdC (JWd.mk c))) from aS)⟩ ?_
 refine Wp.ret' (by kernel_rfl) ?_
 exact FinQ.pure (rs':=[V1.c (Cell.bool ((↑c.toNat:Int)==(↑e.toNat:Int))),V1.c (Cell.bool (bif true then bif (↑c.toNat:Int)==(↑e.toNat:Int) then true else (↑c.toNat:Int)==(44:Int) else false))]) (by kernel_rfl) rfl (by kernel_rfl)
theorem ends_no (e:UInt8) (he:((0:Int)==(e.toNat:Int))=false):Pur Tryz.prog G 229 [.c (.cl (wdC .no)),.c (.int .u8 (e.toNat:Int))] [.c (.bool ((0:Int)==(e.toNat:Int))),.c (.bool false)]:=by
 refine Pur.of Tryz.func229 (by kernel_rfl) (by kernel_rfl) (by kernel_rfl) ?_
 have e1:=wd_out .no
 have e2:=wd_outI .no
 refine zg [(1,{fm:=[(0,.c (wdC .no))]})] [] [EqvI (.c (wdC JWd.no).cl) (.c (wdC JWd.no)),EqvD (.c (wdC JWd.no).cl) (.c (wdC JWd.no))] ⟨fun _ _=>trivial,(show EqvD (.c (wdC JWd.no).cl) (.c (wdC JWd.no)) from aS)⟩ ?_
 exact zr
theorem ends_ph (e:UInt8) (t:List UInt8):Pur Tryz.prog G 229 [.c (.cl (wdC (.ph t))),.c (.int .u8 (e.toNat:Int))] [.c (.bool ((0:Int)==(e.toNat:Int))),.c (.bool false)]:=by
 refine Pur.of Tryz.func229 (by kernel_rfl) (by kernel_rfl) (by kernel_rfl) ?_
 have e1:=wd_out (.ph t)
 have e2:=wd_outI (.ph t)
 refine zg [(1,{fm:=[(0,.c (wdC (.ph t)))]})] [] [EqvI (.c (wdC (JWd.ph t)).cl) (.c (wdC (JWd.ph t))),EqvD (.c (wdC (JWd.ph t)).cl) (.c (wdC (JWd.ph t)))] ⟨fun _ _=>trivial,(show EqvD (.c (wdC (JWd.ph t)).cl) (.c (wdC (JWd.ph t))) from aS)⟩ ?_
 exact zr
theorem ends_nu (e:UInt8) (n:Int):Pur Tryz.prog G 229 [.c (.cl (wdC (.nu n))),.c (.int .u8 (e.toNat:Int))] [.c (.bool ((0:Int)==(e.toNat:Int))),.c (.bool false)]:=by
 refine Pur.of Tryz.func229 (by kernel_rfl) (by kernel_rfl) (by kernel_rfl) ?_
 have e1:=wd_out (.nu n)
 have e2:=wd_outI (.nu n)
 refine zg [(1,{fm:=[(0,.c (wdC (.nu n)))]})] [] [EqvI (.c (wdC (JWd.nu n)).cl) (.c (wdC (JWd.nu n))),EqvD (.c (wdC (JWd.nu n)).cl) (.c (wdC (JWd.nu n)))] ⟨fun _ _=>trivial,(show EqvD (.c (wdC (JWd.nu n)).cl) (.c (wdC (JWd.nu n))) from aS)⟩ ?_
 exact zr
theorem ends_va (e:UInt8) (v:JV):Pur Tryz.prog G 229 [.c (.cl (wdC (.va v))),.c (.int .u8 (e.toNat:Int))] [.c (.bool ((0:Int)==(e.toNat:Int))),.c (.bool false)]:=by
 refine Pur.of Tryz.func229 (by kernel_rfl) (by kernel_rfl) (by kernel_rfl) ?_
 have e1:=wd_out (.va v)
 have e2:=wd_outI (.va v)
 refine zg [(1,{fm:=[(0,.c (wdC (.va v)))]})] [] [EqvI (.c (wdC (JWd.va v)).cl) (.c (wdC (JWd.va v))),EqvD (.c (wdC (JWd.va v)).cl) (.c (wdC (JWd.va v)))] ⟨aS,(show EqvD (.c (wdC (JWd.va v)).cl) (.c (wdC (JWd.va v))) from aS)⟩ ?_
 exact zr
theorem ends_ok (w:JWd) (e:UInt8) (he:((0:Int)==(e.toNat:Int))=false):Pur Tryz.prog G 229 [.c (.cl (wdC w)),.c (.int .u8 (e.toNat:Int))] [.c (.bool (isMk e w)),.c (.bool (isMk e w||isMk 44 w))]:=by
 cases w with
 | no=>have h:=ends_no (G:=G) e he; rw [he] at h; exact h
 | mk c =>
  have h:=ends_mk (G:=G) c e
  rw [ibeq,show ((c.toNat:Int)==44)=(c==44) from ibeq c 44,cond_or] at h
  exact h
 | ph t=>have h:=ends_ph (G:=G) e t; rw [he] at h; exact h
 | nu n=>have h:=ends_nu (G:=G) e n; rw [he] at h; exact h
 | va v=>have h:=ends_va (G:=G) e v; rw [he] at h; exact h
theorem hexHi (c:UInt8):Lib.indexByte [48,49] c=(if smallI c<0∨smallI c>1 then -1 else smallI c):=eq_of_beq (byte_all (fun c=>Lib.indexByte [48,49] c==(if smallI c<0∨smallI c>1 then -1 else smallI c)) kR c)
theorem hexLo (c:UInt8):Lib.indexByte [48,49,50,51,52,53,54,55,56,57,97,98,99,100,101,102] c=smallI c:=eq_of_beq (byte_all (fun c=>Lib.indexByte [48,49,50,51,52,53,54,55,56,57,97,98,99,100,101,102] c==smallI c) kR c)
theorem hex_rng (c:UInt8) : -1≤smallI c∧smallI c≤15:=by
 have:=byte_all (fun c=>decide (-1≤smallI c)&&decide (smallI c≤15)) kR c
 simpa using this
theorem hex_or (H L:Int) (h1:0≤H) (h2:H≤1) (h3:0≤L) (h4:L≤15):IntKind.u8.wrap (bitsI .or .i64 (IntKind.i64.wrap (H*(2:Int)^(4:Nat))) L)=(((UInt8.ofNat (H*(16:Int)+L).toNat).toNat:Nat):Int):=by
 obtain ⟨i,rfl⟩:=Int.eq_ofNat_of_zero_le h1
 obtain ⟨j,rfl⟩:=Int.eq_ofNat_of_zero_le h3
 have hall:(List.range 2).all (fun i=>(List.range 16).all (fun j=>IntKind.u8.wrap (bitsI .or .i64 (IntKind.i64.wrap (((i:Nat):Int)*(2:Int)^(4:Nat))) ((j:Nat):Int))==(((UInt8.ofNat (((i:Nat):Int)*(16:Int)+((j:Nat):Int)).toNat).toNat:Nat):Int)))=true:=kR
 exact eq_of_beq (List.all_eq_true.1 (List.all_eq_true.1 hall i sO) j sO)
theorem escaped_ok (t:List UInt8) (hl:t.length≤1000000000):Pur Tryz.prog G 233 [.c (.str t)] [.c (.int .u8 ((escW t).1.toNat:Int)),.c (.int .i64 ((escW t).2:Int))]:=by
 refine zp Tryz.func233 ?_
 have cH:=lib_IndexByte (G:=G) [48,49] (t.getD 3 0)
 have cL:=lib_IndexByte (G:=G) [48,49,50,51,52,53,54,55,56,57,97,98,99,100,101,102] (t.getD 4 0)
 rw [hexHi] at cH
 rw [hexLo] at cL
 have hc1:(((t.getD 0 0).toNat:Int)==34)=(t.getD 0 0==34):=ibeq _ 34
 have hc2:(((t.getD 0 0).toNat:Int)==92)=(t.getD 0 0==92):=ibeq _ 92
 rcases Nat.eq_zero_or_pos t.length with h0 | h0
 ·have:t=[]:=List.eq_nil_of_length_eq_zero h0
  subst this
  clear cH cL hc1 hc2
  refine zg [] [true] [(([]:List UInt8)==[])=true] rfl ?_
  exact zr
 have ht:(t==[])=false:=by cases t with | nil=>simp at h0 | cons _ _=>rfl
 by_cases h1:t.getD 0 0=34∨t.getD 0 0=92
 ·have he:escW t=(t.getD 0 0,1):=by
   unfold escW escR
   have:(atB t 0 34||atB t 0 92)=true:=by
    unfold atB;rw [decide_eq_true h0]
    rcases h1 with h | h<;>rw [h]<;>rfl
   rw [if_pos this];rfl
  rw [he]
  have hb:(bif ((t.getD 0 0).toNat:Int)==34 then true else ((t.getD 0 0).toNat:Int)==92)=true:=by
   rw [hc1,hc2];rcases h1 with h | h<;>rw [h]<;>rfl
  clear cH cL hc1 hc2 h1 he
  refine zg [] [false,true] [(t==[])=false,(0:Int)≤(0:Int)∧(0:Int)<(t.length:Int),((↑(t.getD (0:Nat) (0:UInt8)).toNat:Int)==(34:Int))=false→(0:Int)≤(0:Int)∧(0:Int)<(t.length:Int),(bif (↑(t.getD (0:Nat) (0:UInt8)).toNat:Int)==(34:Int) then true else (↑(t.getD (0:Nat) (0:UInt8)).toNat:Int)==(92:Int))=true,(0:Int)≤(0:Int)∧(0:Int)<(t.length:Int)] ⟨aS,oM,oM,aS,(show (0:Int)≤(0:Int)∧(0:Int)<(↑t.length:Int) from oM)⟩ ?_
  exact zr
 have hb:(bif ((t.getD 0 0).toNat:Int)==34 then true else ((t.getD 0 0).toNat:Int)==92)=false:=by
  rw [hc1,hc2,beq_eq_false_iff_ne.2 (fun h=>h1 (.inl h)),beq_eq_false_iff_ne.2 (fun h=>h1 (.inr h))];rfl
 have hat:(atB t 0 34||atB t 0 92)=false:=by
  unfold atB
  rw [beq_eq_false_iff_ne.2 (fun h=>h1 (.inl h)),beq_eq_false_iff_ne.2 (fun h=>h1 (.inr h))];simp
 clear hc1 hc2 h1
 by_cases h2:t.length<5∨wordB t 0 [117,48,48]=false
 ·have he:escW t=(0,0):=by
   have hr:(escR t 0).2.2=3:=by
    unfold escR
    rw [hat]
    by_cases hw:wordB t 0 [117,48,48]=true
    ·have h5:t.length<0+5:=by rcases h2 with h | h;omega;rw [hw] at h;cases h
     rw [if_neg (show ¬ false=true by decide),if_pos hw,if_pos h5]
    ·rw [if_neg (show ¬ false=true by decide),if_neg hw]
   unfold escW
   rw [hr,if_neg dC]
  rw [he]
  have hu:(bif decide ((t.length:Int)<5) then true else !(t.take 3==[117,48,48]))=true:=by
   rcases h2 with h | h
   ·rw [decide_eq_true oM];rfl
   ·unfold wordB at h
    rw [List.drop_zero] at h
    have h:(t.take 3==[117,48,48])=false:=h
    rw [h];cases decide ((t.length:Int)<5)<;>rfl
  clear cH cL he h2 hat
  refine zg [] [false,false,true] [(t==[])=false,(0:Int)≤(0:Int)∧(0:Int)<(t.length:Int),((↑(t.getD (0:Nat) (0:UInt8)).toNat:Int)==(34:Int))=false→(0:Int)≤(0:Int)∧(0:Int)<(t.length:Int),(bif (↑(t.getD (0:Nat) (0:UInt8)).toNat:Int)==(34:Int) then true else (↑(t.getD (0:Nat) (0:UInt8)).toNat:Int)==(92:Int))=false,decide ((t.length:Int)<(5:Int))=false→(0:Int)≤Int.ofNat (0)∧Int.ofNat (0)≤Int.ofNat (3)∧Int.ofNat (3)≤(t.length:Int),(bif decide ((t.length:Int)<(5:Int)) then true else !List.drop (0:Nat) (List.take (3:Nat) t)==[(117:UInt8),48,48])=true] ⟨aS,oM,oM,aS,sO,(show (bif decide ((↑t.length:Int)<(5:Int)) then true else !List.drop (0:Nat) (List.take (3:Nat) t)==[(117:UInt8),48,48])=true from aS)⟩ ?_
  exact zr
 have h5:5≤t.length:=by omega
 have hw:wordB t 0 [117,48,48]=true:=by cases hw:wordB t 0 [117,48,48] with | true=>rfl | false=>exact absurd (.inr hw) h2
 have hu:(bif decide ((t.length:Int)<5) then true else !(t.take 3==[117,48,48]))=false:=by
  unfold wordB at hw
  rw [List.drop_zero] at hw
  have hw:(t.take 3==[117,48,48])=true:=hw
  rw [hw,decide_eq_false oM];rfl
 have hr3:=hex_rng (t.getD 3 0)
 have hr4:=hex_rng (t.getD 4 0)
 have heq:escW t=if smallI (t.getD 3 0)<0∨smallI (t.getD 3 0)>1∨smallI (t.getD 4 0)<0 then (0,0) else (UInt8.ofNat (smallI (t.getD 3 0)*16+smallI (t.getD 4 0)).toNat,5):=by
  have hr:escR t 0=if smallI (t.getD 3 0)<0∨smallI (t.getD 3 0)>1∨smallI (t.getD 4 0)<0 then (0,5,3) else (UInt8.ofNat (smallI (t.getD 3 0)*16+smallI (t.getD 4 0)).toNat,5,0):=by
   unfold escR
   rw [hat,if_neg (show ¬ false=true by decide),if_pos hw,if_neg (show ¬ t.length<0+5 by omega)]
  unfold escW
  rw [hr]
  by_cases h:smallI (t.getD 3 0)<0∨smallI (t.getD 3 0)>1∨smallI (t.getD 4 0)<0
  ·rw [if_pos h,if_pos h];rfl
  ·rw [if_neg h,if_neg h];rfl
 rw [heq]
 clear heq hat hw h2
 generalize smallI (t.getD 3 0)=H at *
 generalize smallI (t.getD 4 0)=L at *
 by_cases h3:H<0∨H>1
 ·rw [if_pos h3] at cH
  rw [if_pos oM]
  refine zg [(7,{cs:=[(3,pc cH),(6,pc cL)]})] [false,false,false,true] [(t==[])=false,(0:Int)≤(0:Int)∧(0:Int)<(t.length:Int),((↑(t.getD (0:Nat) (0:UInt8)).toNat:Int)==(34:Int))=false→(0:Int)≤(0:Int)∧(0:Int)<(t.length:Int),(bif (↑(t.getD (0:Nat) (0:UInt8)).toNat:Int)==(34:Int) then true else (↑(t.getD (0:Nat) (0:UInt8)).toNat:Int)==(92:Int))=false,decide ((t.length:Int)<(5:Int))=false→(0:Int)≤Int.ofNat (0)∧Int.ofNat (0)≤Int.ofNat (3)∧Int.ofNat (3)≤(t.length:Int),(bif decide ((t.length:Int)<(5:Int)) then true else !List.drop (0:Nat) (List.take (3:Nat) t)==[(117:UInt8),48,48])=false,(0:Int)≤Int.ofNat (0)∧Int.ofNat (0)≤Int.ofNat (2)∧Int.ofNat (2)≤(↑(16:Nat):Int),(0:Int)≤(3:Int)∧(3:Int)<(t.length:Int),(0:Int)≤(4:Int)∧(4:Int)<(t.length:Int),(bif decide ((-1:Int)<(0:Int)) then true else decide (L<(0:Int)))=true] ⟨aS,oM,oM,aS,sO,aS,⟨dC,⟨dC,dC⟩⟩,oM,oM,rfl⟩ ?_
  exact zr
 rw [if_neg h3] at cH
 have k1:decide (H<0)=false:=decide_eq_false oM
 by_cases h4:L<0
 ·rw [if_pos oM]
  have k2:decide (L<0)=true:=decide_eq_true h4
  refine zg [(7,{cs:=[(3,pc cH),(6,pc cL)]})] [false,false,false,true] [(t==[])=false,(0:Int)≤(0:Int)∧(0:Int)<(t.length:Int),((↑(t.getD (0:Nat) (0:UInt8)).toNat:Int)==(34:Int))=false→(0:Int)≤(0:Int)∧(0:Int)<(t.length:Int),(bif (↑(t.getD (0:Nat) (0:UInt8)).toNat:Int)==(34:Int) then true else (↑(t.getD (0:Nat) (0:UInt8)).toNat:Int)==(92:Int))=false,decide ((t.length:Int)<(5:Int))=false→(0:Int)≤Int.ofNat (0)∧Int.ofNat (0)≤Int.ofNat (3)∧Int.ofNat (3)≤(t.length:Int),(bif decide ((t.length:Int)<(5:Int)) then true else !List.drop (0:Nat) (List.take (3:Nat) t)==[(117:UInt8),48,48])=false,(0:Int)≤Int.ofNat (0)∧Int.ofNat (0)≤Int.ofNat (2)∧Int.ofNat (2)≤(↑(16:Nat):Int),(0:Int)≤(3:Int)∧(3:Int)<(t.length:Int),(0:Int)≤(4:Int)∧(4:Int)<(t.length:Int),(bif decide (H<(0:Int)) then true else decide (L<(0:Int)))=true] ⟨aS,oM,oM,aS,sO,aS,⟨dC,⟨dC,dC⟩⟩,oM,oM,(show (bif decide (H<(0:Int)) then true else decide (L<(0:Int)))=true from sO)⟩ ?_
  exact zr
 ·rw [if_neg oM]
  have k2:decide (L<0)=false:=decide_eq_false h4
  have e5:EqvD (V1.c (Cell.int .u8 (IntKind.u8.wrap (bitsI .or .i64 (IntKind.i64.wrap (H*(2:Int)^(4:Nat))) L)))) (V1.c (Cell.int .u8 (((UInt8.ofNat (H*(16:Int)+L).toNat).toNat:Nat):Int))):=eqvD_of (by rw [hex_or H L oM oM oM oM])
  refine zg [(10,{fm:=[(4,.c (.int .u8 ((UInt8.ofNat (H*16+L).toNat).toNat:Int)))]}),(7,{cs:=[(3,pc cH),(6,pc cL)]})] [false,false,false,false] [(t==[])=false,(0:Int)≤(0:Int)∧(0:Int)<(t.length:Int),((↑(t.getD (0:Nat) (0:UInt8)).toNat:Int)==(34:Int))=false→(0:Int)≤(0:Int)∧(0:Int)<(t.length:Int),(bif (↑(t.getD (0:Nat) (0:UInt8)).toNat:Int)==(34:Int) then true else (↑(t.getD (0:Nat) (0:UInt8)).toNat:Int)==(92:Int))=false,decide ((t.length:Int)<(5:Int))=false→(0:Int)≤Int.ofNat (0)∧Int.ofNat (0)≤Int.ofNat (3)∧Int.ofNat (3)≤(t.length:Int),(bif decide ((t.length:Int)<(5:Int)) then true else !List.drop (0:Nat) (List.take (3:Nat) t)==[(117:UInt8),48,48])=false,(0:Int)≤Int.ofNat (0)∧Int.ofNat (0)≤Int.ofNat (2)∧Int.ofNat (2)≤(↑(16:Nat):Int),(0:Int)≤(3:Int)∧(3:Int)<(t.length:Int),(0:Int)≤(4:Int)∧(4:Int)<(t.length:Int),(bif decide (H<(0:Int)) then true else decide (L<(0:Int)))=false,(0:Int)≤(4:Int),EqvI (.c (.int .u8 (IntKind.u8.wrap (bitsI .or .i64 (IntKind.i64.wrap (H*(2:Int)^(4:Nat))) L)))) (.c (.int .u8 (↑(UInt8.ofNat (H*(16:Int)+L).toNat).toNat:Int))),EqvD (.c (.int .u8 (IntKind.u8.wrap (bitsI .or .i64 (IntKind.i64.wrap (H*(2:Int)^(4:Nat))) L)))) (.c (.int .u8 (↑(UInt8.ofNat (H*(16:Int)+L).toNat).toNat:Int)))] ⟨aS,oM,oM,aS,sO,aS,⟨dC,⟨dC,dC⟩⟩,oM,oM,sO,oM,fun _ _=>trivial,aS⟩ ?_
  exact zr
theorem txtW_go (s:List UInt8) (n k:Nat) (b:List UInt8) (h0:k<s.length) (h34:s.getD k 0≠34) (h32:¬ s.getD k 0<32) (h92:s.getD k 0≠92):txtW s (n+1) k b=txtW s n (k+1) (b++[s.getD k 0]):=by
 rw [txtW,if_neg oM,if_neg h34,if_neg h32,if_neg h92]
def ptF0 (s:List UInt8) (R:JWd×Nat) (x:Nat×Nat×Nat×List UInt8):Prop:=x.2.1≤s.length∧x.2.2.1=x.2.2.2.length∧x.2.2.1≤x.2.1∧txtW s x.1 x.2.1 x.2.2.2=R∧s.length<x.2.1+x.1
theorem ptext_ok (s:List UInt8) (q:Nat) (hl:s.length≤1000000000) (hq:q<s.length):FnB Tryz.prog G 189 [pjB s (q+1)] [.c (.ptr 0 0)] [.c (.cl (wdC (jwT s q).1))] [(0,pjB s (jwT s q).2)]:=by
 refine zf Tryz.func189 ?_
 have hF:ptF0 s (jwT s q) (s.length+1,q+1,0,[]):=⟨hq,rfl,Nat.zero_le _,rfl,by show s.length<q+1+(s.length+1);omega⟩
 generalize jwT s q=R at *
 have n1:=wd_in .no
 refine z0 [] [] ?_
 refine Wp.loopK kR (fun (x:Nat×Nat×Nat×List UInt8)=>⟨[(0,.v (.c (.ptr 0 0))),(3,.v (.c (.row 1 33 0 x.2.2.1)))],[(0,pjB s x.2.1),(33,.row 5 1 x.2.2.1 (bytesF x.2.2.2))],49⟩) (ptF0 s R) (fun x=>x.1) (s.length+1,q+1,0,[]) (Ent.trans (Ent.empT (t:=3) (sz:=1) (e:=5) (f:=(bytesF [])) dC kR rfl) (Ent.of [] kR kR kR trivial)) hF ?_
 clear hF hq
 rintro ⟨m,k,n,b⟩ L ⟨hk,hn,hnk,hR,hm⟩ again
 simp only at hk hn hnk hR hm
 have ea:byteL (bytesF b) 0 n=b:=byteL_F _ hn
 have eb:areBytes (bytesF b) 0 n:=areBytes_F _ _ _
 have ee:EqvD (.c (.str (byteL (bytesF b) 0 n))) (.c (.str b)):=eqvD_of (by rw [ea])
 have cv:=valid_ok (G:=G) b
 rcases m with _ | m
 ·omega
 rcases Nat.lt_or_ge k s.length with hlt | hge
 ·have ht:decide ((k:Int)<(s.length:Int))=true:=decide_eq_true oM
  have hc1:(((s.getD k 0).toNat:Int)==34)=(s.getD k 0==34):=ibeq _ 34
  have hc2:(((s.getD k 0).toNat:Int)==92)=(s.getD k 0==92):=ibeq _ 92
  have hc3:decide (((s.getD k 0).toNat:Int)<32)=decide (s.getD k 0<32):=decide_eq_decide.2 (by
   show ((s.getD k 0).toNat:Int)<32↔(s.getD k 0).toNat<32
   omega)
  by_cases h34:s.getD k 0=34
  ·rw [txtW,if_neg oM,if_pos h34] at hR
   rw [beq_iff_eq.2 h34] at hc1
   subst hR
   clear again hc2 hc3 h34
   cases hv:validT b with
   | true =>
    rw [hv] at cv
    clear hv
    have n2:=wd_in (.ph b)
    refine zg [(5,{cs:=[(5,pc cv)],fm:=[(4,.c (.str b))]}),(6,{fm:=[(1,.c (.str b)),(3,.c (.cl (wdC (.ph b))))]})] [true,true] [decide ((k:Int)<(s.length:Int))=true,(0:Int)≤(k:Int)∧(k:Int)<(s.length:Int),inR .i64 ((k:Int)+1),EqvI (.c (.str (byteL (bytesF b) 0 n))) (.c (.str b)),((↑(s.getD k (0:UInt8)).toNat:Int)==(34:Int))=true→EqvD (.c (.str (byteL (bytesF b) (0:Nat) n))) (.c (.str b)),((↑(s.getD k (0:UInt8)).toNat:Int)==(34:Int))=true→(0:Nat)+n≤n,((↑(s.getD k (0:UInt8)).toNat:Int)==(34:Int))=true→areBytes (bytesF b) (0:Nat) n,(bif (↑(s.getD k (0:UInt8)).toNat:Int)==(34:Int) then true else false)=true,EqvI (.c (.str (byteL (bytesF b) 0 n))) (.c (.str b)),EqvD (.c (.str (byteL (bytesF b) 0 n))) (.c (.str b)),0+n≤n,areBytes (bytesF b) 0 n,EqvI (.c (.ifc 244 none fun (x:Nat) => .str b)) (.c (wdC (JWd.ph b)).cl),EqvD (.c (.ifc 244 none fun (x:Nat) => .str b)) (.c (wdC (JWd.ph b)).cl)] ⟨aS,oM,i6,fun _ _=>trivial,(by intro _;assumption),oM,(by simp_all<;>omega),(by simp_all<;>omega),fun _ _=>trivial,aS,oM,aS,fun _ _=>trivial,(show EqvD (.c (.ifc 244 none fun (x:Nat) => .str b)) (.c (wdC (JWd.ph b)).cl) from aS)⟩ ?_
    exact zb []
   | false =>
    rw [hv] at cv
    clear hv
    refine zg [(5,{cs:=[(5,pc cv)],fm:=[(4,.c (.str b))]}),(8,{fm:=[(0,.c (.cl (wdC .no)))]})] [true,false,true] [decide ((k:Int)<(s.length:Int))=true,(0:Int)≤(k:Int)∧(k:Int)<(s.length:Int),inR .i64 ((k:Int)+1),EqvI (.c (.str (byteL (bytesF b) 0 n))) (.c (.str b)),((↑(s.getD k (0:UInt8)).toNat:Int)==(34:Int))=true→EqvD (.c (.str (byteL (bytesF b) (0:Nat) n))) (.c (.str b)),((↑(s.getD k (0:UInt8)).toNat:Int)==(34:Int))=true→(0:Nat)+n≤n,((↑(s.getD k (0:UInt8)).toNat:Int)==(34:Int))=true→areBytes (bytesF b) (0:Nat) n,(bif (↑(s.getD k (0:UInt8)).toNat:Int)==(34:Int) then false else false)=false,(bif (↑(s.getD k (0:UInt8)).toNat:Int)==(34:Int) then true else decide ((↑(s.getD k (0:UInt8)).toNat:Int)<(32:Int)))=true,EqvI (.c .nilif) (.c (wdC JWd.no).cl),EqvD (.c .nilif) (.c (wdC JWd.no).cl)] ⟨aS,oM,i6,fun _ _=>trivial,(by intro _;assumption),oM,(by simp_all<;>omega),(by simp;done),(by simp_all<;>omega),fun _ _=>trivial,(show EqvD (.c .nilif) (.c (wdC JWd.no).cl) from aS)⟩ ?_
    exact zb []
  rw [beq_eq_false_iff_ne.2 h34] at hc1
  by_cases h32:s.getD k 0<32
  ·rw [txtW,if_neg oM,if_neg h34,if_pos h32] at hR
   rw [decide_eq_true h32] at hc3
   subst hR
   clear again hc2 h34 h32
   refine zg [(5,{cs:=[(5,pc cv)],fm:=[(4,.c (.str b))]}),(8,{fm:=[(0,.c (.cl (wdC .no)))]})] [true,false,true] [decide ((k:Int)<(s.length:Int))=true,(0:Int)≤(k:Int)∧(k:Int)<(s.length:Int),inR .i64 ((k:Int)+1),EqvI (.c (.str (byteL (bytesF b) 0 n))) (.c (.str b)),((↑(s.getD k (0:UInt8)).toNat:Int)==(34:Int))=true→EqvD (.c (.str (byteL (bytesF b) (0:Nat) n))) (.c (.str b)),((↑(s.getD k (0:UInt8)).toNat:Int)==(34:Int))=true→(0:Nat)+n≤n,((↑(s.getD k (0:UInt8)).toNat:Int)==(34:Int))=true→areBytes (bytesF b) (0:Nat) n,(bif (↑(s.getD k (0:UInt8)).toNat:Int)==(34:Int) then validT b else false)=false,(bif (↑(s.getD k (0:UInt8)).toNat:Int)==(34:Int) then true else decide ((↑(s.getD k (0:UInt8)).toNat:Int)<(32:Int)))=true,EqvI (.c .nilif) (.c (wdC JWd.no).cl),EqvD (.c .nilif) (.c (wdC JWd.no).cl)] ⟨aS,oM,i6,fun _ _=>trivial,(by intro _;assumption),oM,(by simp_all<;>omega),(by simp_all<;>omega),(by simp_all<;>omega),fun _ _=>trivial,(show EqvD (.c .nilif) (.c (wdC JWd.no).cl) from aS)⟩ ?_
   exact zb []
  rw [decide_eq_false h32] at hc3
  by_cases h92:s.getD k 0=92
  ·rw [txtW,if_neg oM,if_neg h34,if_neg h32,if_pos h92] at hR
   rw [beq_iff_eq.2 h92] at hc2
   have ce:=escaped_ok (G:=G) (s.drop (k+1)) (by rw [List.length_drop];omega)
   have he:=escW_len (s.drop (k+1))
   rw [List.length_drop] at he
   have e6:EqvD (.c (.str ((s.take s.length).drop (k+1)))) (.c (.str (s.drop (k+1)))):=eqvD_of (by rw [List.take_length])
   generalize escW (s.drop (k+1))=y at *
   obtain ⟨c',n'⟩:=y
   simp only at he hR ce
   by_cases h0:n'=0
   ·subst h0
    rw [if_pos rfl] at hR
    subst hR
    clear again h34 h32 h92
    refine zg [(5,{cs:=[(5,pc cv)],fm:=[(4,.c (.str b))]}),(10,{cs:=[(9,pc ce)],fm:=[(8,.c (.str (s.drop (k+1))))]}),(12,{fm:=[(0,.c (.cl (wdC .no)))]})] [true,false,false,true,true] [decide ((k:Int)<(s.length:Int))=true,(0:Int)≤(k:Int)∧(k:Int)<(s.length:Int),inR .i64 ((k:Int)+1),EqvI (.c (.str (byteL (bytesF b) 0 n))) (.c (.str b)),((↑(s.getD k (0:UInt8)).toNat:Int)==(34:Int))=true→EqvD (.c (.str (byteL (bytesF b) (0:Nat) n))) (.c (.str b)),((↑(s.getD k (0:UInt8)).toNat:Int)==(34:Int))=true→(0:Nat)+n≤n,((↑(s.getD k (0:UInt8)).toNat:Int)==(34:Int))=true→areBytes (bytesF b) (0:Nat) n,(bif (↑(s.getD k (0:UInt8)).toNat:Int)==(34:Int) then validT b else false)=false,(bif (↑(s.getD k (0:UInt8)).toNat:Int)==(34:Int) then true else decide ((↑(s.getD k (0:UInt8)).toNat:Int)<(32:Int)))=false,((↑(s.getD k (0:UInt8)).toNat:Int)==(92:Int))=true,EqvI (.c (.str (List.drop (Int.ofNat (k+1)).toNat (List.take (Int.ofNat s.length).toNat s)))) (.c (.str (List.drop (k+(1:Nat)) s))),EqvD (.c (.str (List.drop (Int.ofNat (k+1)).toNat (List.take (Int.ofNat s.length).toNat s)))) (.c (.str (List.drop (k+(1:Nat)) s))),(0:Int)≤Int.ofNat (k+1)∧Int.ofNat (k+1)≤Int.ofNat s.length∧Int.ofNat s.length≤(s.length:Int),((↑(0:Nat):Int)==(0:Int))=true,EqvI (.c .nilif) (.c (wdC JWd.no).cl),EqvD (.c .nilif) (.c (wdC JWd.no).cl)] ⟨aS,oM,i6,fun _ _=>trivial,(by intro _;assumption),oM,(by simp_all<;>omega),(by simp_all<;>omega),(by simp_all<;>omega),aS,fun _ _=>trivial,aS,⟨sO,⟨sO,(by simp;done)⟩⟩,rfl,fun _ _=>trivial,(show EqvD (.c .nilif) (.c (wdC JWd.no).cl) from aS)⟩ ?_
    exact zb []
   ·rw [if_neg h0] at hR
    have hz:((n':Int)==0)=false:=by simp;omega
    have e1:BlkEqv (.row 5 1 (n+1) (catF n (bytesF b) (fun i j=>nthD [.int .u8 (c'.toNat:Int)] ((0+i)*1+j)))) (.row 5 1 (n+1) (bytesF (b++[c']))):=bytes_app b [c'] hn
    have hF:ptF0 s R (m,k+1+n',n+1,b++[c']):=⟨by show k+1+n'≤s.length;omega,by simp [hn],by show n+1≤k+1+n';omega,hR,by show s.length<k+1+n'+m;omega⟩
    clear hR h34 h32 h92
    refine zg [(5,{cs:=[(5,pc cv)],fm:=[(4,.c (.str b))]}),(10,{cs:=[(9,pc ce)],fm:=[(8,.c (.str (s.drop (k+1))))]}),(15,{bs:=[(3,.row 5 1 (n+1) (bytesF (b++[c'])))]})] [true,false,false,true,false] [decide ((k:Int)<(s.length:Int))=true,(0:Int)≤(k:Int)∧(k:Int)<(s.length:Int),inR .i64 ((k:Int)+1),EqvI (.c (.str (byteL (bytesF b) 0 n))) (.c (.str b)),((↑(s.getD k (0:UInt8)).toNat:Int)==(34:Int))=true→EqvD (.c (.str (byteL (bytesF b) (0:Nat) n))) (.c (.str b)),((↑(s.getD k (0:UInt8)).toNat:Int)==(34:Int))=true→(0:Nat)+n≤n,((↑(s.getD k (0:UInt8)).toNat:Int)==(34:Int))=true→areBytes (bytesF b) (0:Nat) n,(bif (↑(s.getD k (0:UInt8)).toNat:Int)==(34:Int) then validT b else false)=false,(bif (↑(s.getD k (0:UInt8)).toNat:Int)==(34:Int) then true else decide ((↑(s.getD k (0:UInt8)).toNat:Int)<(32:Int)))=false,((↑(s.getD k (0:UInt8)).toNat:Int)==(92:Int))=true,EqvI (.c (.str (List.drop (Int.ofNat (k+1)).toNat (List.take (Int.ofNat s.length).toNat s)))) (.c (.str (List.drop (k+(1:Nat)) s))),EqvD (.c (.str (List.drop (Int.ofNat (k+1)).toNat (List.take (Int.ofNat s.length).toNat s)))) (.c (.str (List.drop (k+(1:Nat)) s))),(0:Int)≤Int.ofNat (k+1)∧Int.ofNat (k+1)≤Int.ofNat s.length∧Int.ofNat s.length≤(s.length:Int),((n':Int)==(0:Int))=false,inR .i64 ((k:Int)+1+(n':Int)),(n+1)*1≤140737488355328,BlkEqv (.row 5 (1:Nat) (n+(1:Nat)) (catF n (bytesF b) fun i j=>nthD [.int .u8 (c'.toNat:Int)] (((0:Nat)+i)*(1:Nat)+j))) (.row 5 (1:Nat) (n+(1:Nat)) (bytesF (b++[c']))),n≤n,0+1≤1] ⟨aS,oM,i6,fun _ _=>trivial,(by intro _;assumption),oM,(by simp_all<;>omega),(by simp_all<;>omega),(by simp_all<;>omega),aS,fun _ _=>trivial,aS,⟨sO,⟨sO,(by simp;done)⟩⟩,aS,i6,oM,aS,oM,(show (0:Nat)+(1:Nat)≤(1:Nat) from oM)⟩ ?_
    exact za [(33,1281)] (again _ (m,k+1+n',n+1,b++[c']) aS oM)
  ·rw [txtW_go s m k b hlt h34 h32 h92] at hR
   rw [beq_eq_false_iff_ne.2 h92] at hc2
   have e1:BlkEqv (.row 5 1 (n+1) (catF n (bytesF b) (fun i j=>nthD [.int .u8 ((s.getD k 0).toNat:Int)] ((0+i)*1+j)))) (.row 5 1 (n+1) (bytesF (b++[s.getD k 0]))):=bytes_app b [s.getD k 0] hn
   have hF:ptF0 s R (m,k+1,n+1,b++[s.getD k 0]):=⟨hlt,by simp [hn],by show n+1≤k+1;omega,hR,by show s.length<k+1+m;omega⟩
   clear hR h34 h32 h92
   refine zg [(5,{cs:=[(5,pc cv)],fm:=[(4,.c (.str b))]}),(15,{bs:=[(3,.row 5 1 (n+1) (bytesF (b++[s.getD k 0])))]})] [true,false,false,false] [decide ((k:Int)<(s.length:Int))=true,(0:Int)≤(k:Int)∧(k:Int)<(s.length:Int),inR .i64 ((k:Int)+1),EqvI (.c (.str (byteL (bytesF b) 0 n))) (.c (.str b)),((↑(s.getD k (0:UInt8)).toNat:Int)==(34:Int))=true→EqvD (.c (.str (byteL (bytesF b) (0:Nat) n))) (.c (.str b)),((↑(s.getD k (0:UInt8)).toNat:Int)==(34:Int))=true→(0:Nat)+n≤n,((↑(s.getD k (0:UInt8)).toNat:Int)==(34:Int))=true→areBytes (bytesF b) (0:Nat) n,(bif (↑(s.getD k (0:UInt8)).toNat:Int)==(34:Int) then validT b else false)=false,(bif (↑(s.getD k (0:UInt8)).toNat:Int)==(34:Int) then true else decide ((↑(s.getD k (0:UInt8)).toNat:Int)<(32:Int)))=false,((↑(s.getD k (0:UInt8)).toNat:Int)==(92:Int))=false,(n+1)*1≤140737488355328,BlkEqv (.row 5 (1:Nat) (n+(1:Nat)) (catF n (bytesF b) fun i j=>nthD [.int .u8 (↑(s.getD k (0:UInt8)).toNat:Int)] (((0:Nat)+i)*(1:Nat)+j))) (.row 5 (1:Nat) (n+(1:Nat)) (bytesF (b++[s.getD k (0:UInt8)]))),n≤n,0+1≤1] ⟨aS,oM,i6,fun _ _=>trivial,(by intro _;assumption),oM,(by simp_all<;>omega),(by simp_all<;>omega),(by simp_all<;>omega),aS,oM,aS,oM,(show (0:Nat)+(1:Nat)≤(1:Nat) from oM)⟩ ?_
   exact za [(33,833)] (again _ (m,k+1,n+1,b++[s.getD k 0]) aS oM)
 ·have ht:decide ((k:Int)<(s.length:Int))=false:=decide_eq_false oM
  rw [txtW,if_pos hge] at hR
  subst hR
  clear again
  refine zg [(16,{fm:=[(0,.c (.cl (wdC .no)))]})] [false] [decide ((k:Int)<(s.length:Int))=false,EqvI (.c .nilif) (.c (wdC JWd.no).cl),EqvD (.c .nilif) (.c (wdC JWd.no).cl)] ⟨aS,fun _ _=>trivial,(show EqvD (.c .nilif) (.c (wdC JWd.no).cl) from aS)⟩ ?_
  exact zb []
theorem Pur.of_belowI {P:Program} {f:FuncId} {args rs:List V1} (hin:∀ (S:Nat→Prop) (j:Nat) (x:V1),rs[j]?=some x→x.inS S)
  (h:∀ (D:Dat) (ρ:Rho) (w:World) (vs:Array Value),DenL D ρ args vs→GlobOk G D→GlobW G w→Agree D w →
   Calls P f vs w fun e w'=>∃ v,e = .returned v∧ResDen D ρ rs v∧BelowD G w.heap.size w w'):Pur P G f args rs:=by
 unfold Pur Go.Sv.Fn
 intro D ρ w vs h1 h2 hgw h3 _ _
 refine (h D ρ w vs h1 h2 hgw h3).mono ?_
 rintro e w' ⟨v,rfl,hr,hb⟩
 refine ⟨rs,[],D,ρ,v,rfl,⟨rfl,rfl⟩,hr,fun j x hj=>hin _ j x hj,?_⟩
 have ag:Agree D w':=by
  intro b o v hv
  have:=h3 b o v hv
  rw [cell_block (hb.block b (heap_of_cell this))]
  exact this
 exact {
  hp:=fun id b hb=>by cases (show none=some b from hb)
  inj:=fun i j bi bj hi=>by cases (show none=some bi from hi)
  sep:=fun id b hb=>by cases (show none=some b from hb)
  agree:=ag
  le:=DatLe.refl D
  kin:=fun i hi=>rfl
  own:=fun id b hb=>by cases (show none=some b from hb)
  newD:=fun b o v hv => .inl hv
  frame:=fun b hlt _=>hb.block b hlt
  os:=hb.os
  tape:=hb.tape
  output:=hb.output
  grow:=hb.size
  drawn:=hb.drawn
  ids:=fun id b hb=>by cases (show none=some b from hb) }
def HasErr (G:Nat→Option (List Cell)):Prop:=(∃ t s c,G 3=some [.ifc t s c])∧∃ t s c,G 4=some [.ifc t s c]
def numE:Cell := .ifc 284 none (fun _ => .dp 0 (fun _ => .nilif))
theorem atoi_yes (t:List UInt8) (hl:t.length≤1000000000) (v:Int) (h:Lib.atoiAll t = .ok v):Pur Tryz.prog G 234 [.c (.str t)] [.c (.int .i64 v),.c .nilif]:=by
 refine Pur.of_below rfl ?_
 intro D ρ w vs h1 k1 _ k3
 obtain ⟨u,rfl,hu⟩:=h1.one
 have hu:u = .string ⟨t.toArray⟩:=hu
 subst hu
 refine (Go.Proofs.Tryz.strconv_Atoi_ok ⟨t.toArray⟩ (by rw [size_lt];omega) v h w).mono ?_
 rintro e w' ⟨rfl,hw⟩
 have hb:Below w.heap.size w w':=by
  rcases hw with rfl | ⟨t,rfl⟩
  ·exact Below.refl _ _
  ·exact Lib.bytesWorld_below _ _ _
 refine ⟨_,rfl,⟨_,rfl,rfl,fun j x hj => ?_⟩,BelowD.of hb⟩
 match j,hj with
 | 0,hj=>simp at hj; subst hj; exact ⟨_,rfl,rfl⟩
 | 1,hj=>simp at hj; subst hj; exact ⟨_,rfl,rfl⟩
 | j+2,hj=>simp at hj
theorem numE_in {n:Int} (S:Nat→Prop) (j:Nat) (x:V1) (h:[V1.c (.int .i64 n),.c numE][j]?=some x):x.inS S:=by
 match j,h with
 | 0,h=>simp at h; subst h; trivial
 | 1,h=>simp at h; subst h; exact (Cell.inS_flat rfl:(Cell.dp 0 (fun _ => .nilif)).inS S)
 | j+2,h=>simp at h
theorem numE_den {D:Dat} {ρ:Rho} {n:Int} (N:Nat):ResDen D ρ [.c (.int .i64 n),.c numE] (.tuple #[.int .i64 n,.iface 284 (.pointer (some ⟨N,0,none⟩))]):=by
 refine ⟨_,rfl,rfl,fun j x hj => ?_⟩
 match j,hj with
 | 0,hj=>simp at hj; subst hj; exact ⟨_,rfl,rfl⟩
 | 1,hj=>simp at hj; subst hj; exact ⟨_,rfl,_,rfl,N,0,rfl,fun j hj=>absurd hj (Nat.not_lt_zero j)⟩
 | j+2,hj=>simp at hj
theorem atoi_no (hE:HasErr G) (t:List UInt8) (hl:t.length≤1000000000) (h:∀ v,Lib.atoiAll t ≠ .ok v):∃ n,Pur Tryz.prog G 234 [.c (.str t)] [.c (.int .i64 n),.c numE]:=by
 obtain ⟨⟨t1,s1,c1,h1⟩,t2,s2,c2,h2⟩:=hE
 cases hr:Lib.atoiAll t
 ·exact absurd hr (h _)
 ·refine ⟨0,Pur.of_belowI numE_in ?_⟩
  intro D ρ w vs g1 k1 _ k3
  obtain ⟨u,rfl,hu⟩:=g1.one
  have hu:u = .string ⟨t.toArray⟩:=hu
  subst hu
  obtain ⟨x,hx,hd⟩:=glob_one h1 k1 k3
  simp only [Den] at hd
  obtain ⟨y,rfl,_⟩:=hd
  refine (Go.Proofs.Tryz.strconv_Atoi_syntax ⟨t.toArray⟩ (by rw [size_lt];omega) hr _ w hx (.inr ⟨_,_,rfl⟩)).mono ?_
  rintro e w' ⟨N,rfl,_,_,hb⟩
  exact ⟨_,rfl,numE_den N,BelowD.of hb⟩
 ·refine ⟨Lib.atoiSat t,Pur.of_belowI numE_in ?_⟩
  intro D ρ w vs g1 k1 _ k3
  obtain ⟨u,rfl,hu⟩:=g1.one
  have hu:u = .string ⟨t.toArray⟩:=hu
  subst hu
  obtain ⟨x,hx,hd⟩:=glob_one h2 k1 k3
  simp only [Den] at hd
  obtain ⟨y,rfl,_⟩:=hd
  refine (Go.Proofs.Tryz.strconv_Atoi_range ⟨t.toArray⟩ (by rw [size_lt];omega) hr _ w hx (.inr ⟨_,_,rfl⟩)).mono ?_
  rintro e w' ⟨N,rfl,_,_,hb⟩
  exact ⟨_,rfl,numE_den N,BelowD.of hb⟩
def keyN:Nat→List UInt8
 | 0=>[110,117,108,108]
 | 1=>[116,114,117,101]
 | _=>[102,97,108,115,101]
def namL:List (List UInt8×V1):=[([(110:UInt8),117,108,108],V1.agg [Cell.int .i64 (1:Int),Cell.bool false,Cell.int .i64 (0:Int),Cell.str [],Cell.nilsl,Cell.nilsl]),([(116:UInt8),114,117,101],V1.agg [Cell.int .i64 (2:Int),Cell.bool true,Cell.int .i64 (0:Int),Cell.str [],Cell.nilsl,Cell.nilsl]),([(102:UInt8),97,108,115,101],V1.agg [Cell.int .i64 (2:Int),Cell.bool false,Cell.int .i64 (0:Int),Cell.str [],Cell.nilsl,Cell.nilsl])]
theorem isPre:∀ (w l:List UInt8),w.isPrefixOf l=(l.take w.length==w)
 | [],l=>by cases l<;>rfl
 | c::w,[]=>rfl
 | c::w,d::l=>by
  rw [List.isPrefixOf,isPre w l,List.length_cons,List.take_succ_cons]
  show _=(d==c&&l.take w.length==w)
  rw [Bool.beq_comm (a:=c) (b:=d)]
theorem hp_word (s:List UInt8) (q:Nat) (w:List UInt8):Lib.hasPrefix (s.drop q) w=wordB s q w:=isPre w _
theorem pnamed_ok (s:List UInt8) (q:Nat) (hl:s.length≤1000000000) (hq:q≤s.length):FnB Tryz.prog G 191 [pjB s q] [.c (.ptr 0 0)] [.c (.cl (wdC (jwN s q).1))] [(0,pjB s (jwN s q).2)]:=by
 refine zf Tryz.func191 ?_
 have e6:EqvD (.c (.str ((s.take s.length).drop q))) (.c (.str (s.drop q))):=eqvD_of (by rw [List.take_length])
 have c0:=lib_HasPrefix (G:=G) (s.drop q) [110,117,108,108]
 rw [hp_word] at c0
 have v0:=wJ_den 1 false 0 []
 have c1:=lib_HasPrefix (G:=G) (s.drop q) [116,114,117,101]
 rw [hp_word] at c1
 have v1:=wJ_den 2 true 0 []
 have c2:=lib_HasPrefix (G:=G) (s.drop q) [102,97,108,115,101]
 rw [hp_word] at c2
 have v2:=wJ_den 2 false 0 []
 refine z0 [] [] ?_
 refine zl (fun (x:List Nat)=>⟨[(0,.v (.c (.ptr (0:Nat) (0:Nat)))),(10,.v (.c (.ptr (145:Nat) (0:Nat))))],[(0,.box 187 [.str s,.int .i64 (↑q:Int)]),(17,.ob (Ob.ms namL)),(145,.ob (Ob.mi (17:Nat) (3:Nat) x))],161⟩) (fun x=>x.Nodup∧(∀ j∈x,j<3)∧∀ j∈x,wordB s q (keyN j)=false) (fun x=>3-x.length) [] ⟨List.nodup_nil,fun _ h=>absurd h List.not_mem_nil,fun _ h=>absurd h List.not_mem_nil⟩ ?_
 rintro seen L ⟨hnd,hlt,hall⟩ again
 refine zn [] 1 [] [] trivial ?_
 refine Wp.nextK namL seen kR kR kR kR (fun j key v hj hns => ?_) (fun hover => ?_)
 ·match j,hj,hns with
  | 0,hj,hns =>
   obtain ⟨rfl,rfl⟩:[110,117,108,108]=key∧_=v:=by simpa [namL] using hj
   refine Nx.mk kR kR ?_
   cases hc:wordB s q [110,117,108,108] with
   | true =>
    have hJ:jwN s q=(.va (.mk 1 false 0 [] [] []),q+4):=by unfold jwN;rw [if_pos hc]
    have hw:=wordB_len hc hq
    have hw:q+4≤s.length:=hw
    rw [hJ]
    rw [hc] at c0
    clear again hJ
    have n1:=wd_in (.va (.mk 1 false 0 [] [] []))
    refine zg [(4,{cs:=[(10,pc c0)],fm:=[(8,.c (.str (s.drop q)))]}),(6,{fm:=[(0,.agg (encJ (.mk 1 false 0 [] [] []))),(1,.c (.cl (wdC (.va (.mk 1 false 0 [] [] [])))))]})] [true,true] [true=true,0<namL.length,3=namL.length,EqvI (.c (.str (List.drop (Int.ofNat q).toNat (List.take (Int.ofNat s.length).toNat s)))) (.c (.str (List.drop q s))),EqvD (.c (.str (List.drop (Int.ofNat q).toNat (List.take (Int.ofNat s.length).toNat s)))) (.c (.str (List.drop q s))),(0:Int)≤Int.ofNat q∧Int.ofNat q≤Int.ofNat s.length∧Int.ofNat s.length≤(s.length:Int),true=true,inR .i64 ((q:Int)+(↑(4:Nat):Int)),EqvI (.agg [.int .i64 1,.bool false,.int .i64 0,.str [],.nilsl,.nilsl]) (.agg (encJ (JV.mk (1:Int) false (0:Int) [] [] []))),EqvD (.agg [.int .i64 1,.bool false,.int .i64 0,.str [],.nilsl,.nilsl]) (.agg (encJ (JV.mk (1:Int) false (0:Int) [] [] []))),EqvI (.c (.ifc 253 (some (len (encJ (JV.mk (1:Int) false (0:Int) [] [] [])))) (nthD (encJ (JV.mk (1:Int) false (0:Int) [] [] []))))) (.c (wdC (JWd.va (JV.mk (1:Int) false (0:Int) [] [] []))).cl),EqvD (.c (.ifc 253 (some (len (encJ (JV.mk (1:Int) false (0:Int) [] [] [])))) (nthD (encJ (JV.mk (1:Int) false (0:Int) [] [] []))))) (.c (wdC (JWd.va (JV.mk (1:Int) false (0:Int) [] [] []))).cl)] ⟨rfl,dC,rfl,fun _ _=>trivial,aS,⟨(by simp;done),⟨sO,(by simp;done)⟩⟩,rfl,i6,eqvI_flat _ _ kR,aS,fun _ _=>trivial,(show EqvD (.c (.ifc 253 (some (len (encJ (JV.mk (1:Int) false (0:Int) [] [] [])))) (nthD (encJ (JV.mk (1:Int) false (0:Int) [] [] []))))) (.c (wdC (JWd.va (JV.mk (1:Int) false (0:Int) [] [] []))).cl) from aS)⟩ ?_
    exact zb []
   | false =>
    obtain ⟨m1,m2,m3⟩:=seen_more hnd hlt (show 0<3 by decide) hns
    have m4:∀ i∈0::seen,wordB s q (keyN i)=false:=fun i hi=>by
     rcases List.mem_cons.1 hi with rfl | h
     ·exact hc
     ·exact hall i h
    rw [hc] at c0
    refine zg [(4,{cs:=[(10,pc c0)],fm:=[(8,.c (.str (s.drop q)))]})] [true,false] [true=true,0<namL.length,3=namL.length,EqvI (.c (.str (List.drop (Int.ofNat q).toNat (List.take (Int.ofNat s.length).toNat s)))) (.c (.str (List.drop q s))),EqvD (.c (.str (List.drop (Int.ofNat q).toNat (List.take (Int.ofNat s.length).toNat s)))) (.c (.str (List.drop q s))),(0:Int)≤Int.ofNat q∧Int.ofNat q≤Int.ofNat s.length∧Int.ofNat s.length≤(s.length:Int),false=false] ⟨rfl,dC,rfl,fun _ _=>trivial,aS,⟨(by simp;done),⟨sO,(by simp;done)⟩⟩,rfl⟩ ?_
    exact za [] (again _ (0::seen) ⟨aS,⟨aS,aS⟩⟩ oM)
  | 1,hj,hns =>
   obtain ⟨rfl,rfl⟩:[116,114,117,101]=key∧_=v:=by simpa [namL] using hj
   refine Nx.mk kR kR ?_
   cases hc:wordB s q [116,114,117,101] with
   | true =>
    have hJ:jwN s q=(.va (.mk 2 true 0 [] [] []),q+4):=by unfold jwN;rw [jword_ne (w:=[117,108,108]) (c:=110) (by rw [wordB_hd hc];decide),if_neg dC,if_pos hc]
    have hw:=wordB_len hc hq
    have hw:q+4≤s.length:=hw
    rw [hJ]
    rw [hc] at c1
    clear again hJ
    have n1:=wd_in (.va (.mk 2 true 0 [] [] []))
    refine zg [(4,{cs:=[(10,pc c1)],fm:=[(8,.c (.str (s.drop q)))]}),(6,{fm:=[(0,.agg (encJ (.mk 2 true 0 [] [] []))),(1,.c (.cl (wdC (.va (.mk 2 true 0 [] [] [])))))]})] [true,true] [true=true,1<namL.length,3=namL.length,EqvI (.c (.str (List.drop (Int.ofNat q).toNat (List.take (Int.ofNat s.length).toNat s)))) (.c (.str (List.drop q s))),EqvD (.c (.str (List.drop (Int.ofNat q).toNat (List.take (Int.ofNat s.length).toNat s)))) (.c (.str (List.drop q s))),(0:Int)≤Int.ofNat q∧Int.ofNat q≤Int.ofNat s.length∧Int.ofNat s.length≤(s.length:Int),true=true,inR .i64 ((q:Int)+(↑(4:Nat):Int)),EqvI (.agg [.int .i64 2,.bool true,.int .i64 0,.str [],.nilsl,.nilsl]) (.agg (encJ (JV.mk (2:Int) true (0:Int) [] [] []))),EqvD (.agg [.int .i64 2,.bool true,.int .i64 0,.str [],.nilsl,.nilsl]) (.agg (encJ (JV.mk (2:Int) true (0:Int) [] [] []))),EqvI (.c (.ifc 253 (some (len (encJ (JV.mk (2:Int) true (0:Int) [] [] [])))) (nthD (encJ (JV.mk (2:Int) true (0:Int) [] [] []))))) (.c (wdC (JWd.va (JV.mk (2:Int) true (0:Int) [] [] []))).cl),EqvD (.c (.ifc 253 (some (len (encJ (JV.mk (2:Int) true (0:Int) [] [] [])))) (nthD (encJ (JV.mk (2:Int) true (0:Int) [] [] []))))) (.c (wdC (JWd.va (JV.mk (2:Int) true (0:Int) [] [] []))).cl)] ⟨rfl,dC,rfl,fun _ _=>trivial,aS,⟨(by simp;done),⟨sO,(by simp;done)⟩⟩,rfl,i6,eqvI_flat _ _ kR,aS,fun _ _=>trivial,(show EqvD (.c (.ifc 253 (some (len (encJ (JV.mk (2:Int) true (0:Int) [] [] [])))) (nthD (encJ (JV.mk (2:Int) true (0:Int) [] [] []))))) (.c (wdC (JWd.va (JV.mk (2:Int) true (0:Int) [] [] []))).cl) from aS)⟩ ?_
    exact zb []
   | false =>
    obtain ⟨m1,m2,m3⟩:=seen_more hnd hlt (show 1<3 by decide) hns
    have m4:∀ i∈1::seen,wordB s q (keyN i)=false:=fun i hi=>by
     rcases List.mem_cons.1 hi with rfl | h
     ·exact hc
     ·exact hall i h
    rw [hc] at c1
    refine zg [(4,{cs:=[(10,pc c1)],fm:=[(8,.c (.str (s.drop q)))]})] [true,false] [true=true,1<namL.length,3=namL.length,EqvI (.c (.str (List.drop (Int.ofNat q).toNat (List.take (Int.ofNat s.length).toNat s)))) (.c (.str (List.drop q s))),EqvD (.c (.str (List.drop (Int.ofNat q).toNat (List.take (Int.ofNat s.length).toNat s)))) (.c (.str (List.drop q s))),(0:Int)≤Int.ofNat q∧Int.ofNat q≤Int.ofNat s.length∧Int.ofNat s.length≤(s.length:Int),false=false] ⟨rfl,dC,rfl,fun _ _=>trivial,aS,⟨(by simp;done),⟨sO,(by simp;done)⟩⟩,rfl⟩ ?_
    exact za [] (again _ (1::seen) ⟨aS,⟨aS,aS⟩⟩ oM)
  | 2,hj,hns =>
   obtain ⟨rfl,rfl⟩:[102,97,108,115,101]=key∧_=v:=by simpa [namL] using hj
   refine Nx.mk kR kR ?_
   cases hc:wordB s q [102,97,108,115,101] with
   | true =>
    have hJ:jwN s q=(.va (.mk 2 false 0 [] [] []),q+5):=by unfold jwN;rw [jword_ne (w:=[117,108,108]) (c:=110) (by rw [wordB_hd hc];decide),if_neg dC,jword_ne (w:=[114,117,101]) (c:=116) (by rw [wordB_hd hc];decide),if_neg dC,if_pos hc]
    have hw:=wordB_len hc hq
    have hw:q+5≤s.length:=hw
    rw [hJ]
    rw [hc] at c2
    clear again hJ
    have n1:=wd_in (.va (.mk 2 false 0 [] [] []))
    refine zg [(4,{cs:=[(10,pc c2)],fm:=[(8,.c (.str (s.drop q)))]}),(6,{fm:=[(0,.agg (encJ (.mk 2 false 0 [] [] []))),(1,.c (.cl (wdC (.va (.mk 2 false 0 [] [] [])))))]})] [true,true] [true=true,2<namL.length,3=namL.length,EqvI (.c (.str (List.drop (Int.ofNat q).toNat (List.take (Int.ofNat s.length).toNat s)))) (.c (.str (List.drop q s))),EqvD (.c (.str (List.drop (Int.ofNat q).toNat (List.take (Int.ofNat s.length).toNat s)))) (.c (.str (List.drop q s))),(0:Int)≤Int.ofNat q∧Int.ofNat q≤Int.ofNat s.length∧Int.ofNat s.length≤(s.length:Int),true=true,inR .i64 ((q:Int)+(↑(5:Nat):Int)),EqvI (.agg [.int .i64 2,.bool false,.int .i64 0,.str [],.nilsl,.nilsl]) (.agg (encJ (JV.mk (2:Int) false (0:Int) [] [] []))),EqvD (.agg [.int .i64 2,.bool false,.int .i64 0,.str [],.nilsl,.nilsl]) (.agg (encJ (JV.mk (2:Int) false (0:Int) [] [] []))),EqvI (.c (.ifc 253 (some (len (encJ (JV.mk (2:Int) false (0:Int) [] [] [])))) (nthD (encJ (JV.mk (2:Int) false (0:Int) [] [] []))))) (.c (wdC (JWd.va (JV.mk (2:Int) false (0:Int) [] [] []))).cl),EqvD (.c (.ifc 253 (some (len (encJ (JV.mk (2:Int) false (0:Int) [] [] [])))) (nthD (encJ (JV.mk (2:Int) false (0:Int) [] [] []))))) (.c (wdC (JWd.va (JV.mk (2:Int) false (0:Int) [] [] []))).cl)] ⟨rfl,dC,rfl,fun _ _=>trivial,aS,⟨(by simp;done),⟨sO,(by simp;done)⟩⟩,rfl,i6,eqvI_flat _ _ kR,aS,fun _ _=>trivial,(show EqvD (.c (.ifc 253 (some (len (encJ (JV.mk (2:Int) false (0:Int) [] [] [])))) (nthD (encJ (JV.mk (2:Int) false (0:Int) [] [] []))))) (.c (wdC (JWd.va (JV.mk (2:Int) false (0:Int) [] [] []))).cl) from aS)⟩ ?_
    exact zb []
   | false =>
    obtain ⟨m1,m2,m3⟩:=seen_more hnd hlt (show 2<3 by decide) hns
    have m4:∀ i∈2::seen,wordB s q (keyN i)=false:=fun i hi=>by
     rcases List.mem_cons.1 hi with rfl | h
     ·exact hc
     ·exact hall i h
    rw [hc] at c2
    refine zg [(4,{cs:=[(10,pc c2)],fm:=[(8,.c (.str (s.drop q)))]})] [true,false] [true=true,2<namL.length,3=namL.length,EqvI (.c (.str (List.drop (Int.ofNat q).toNat (List.take (Int.ofNat s.length).toNat s)))) (.c (.str (List.drop q s))),EqvD (.c (.str (List.drop (Int.ofNat q).toNat (List.take (Int.ofNat s.length).toNat s)))) (.c (.str (List.drop q s))),(0:Int)≤Int.ofNat q∧Int.ofNat q≤Int.ofNat s.length∧Int.ofNat s.length≤(s.length:Int),false=false] ⟨rfl,dC,rfl,fun _ _=>trivial,aS,⟨(by simp;done),⟨sO,(by simp;done)⟩⟩,rfl⟩ ?_
    exact za [] (again _ (2::seen) ⟨aS,⟨aS,aS⟩⟩ oM)
  | j+3,hj,hns=>simp [namL] at hj
 ·refine Nx.mk kR kR ?_
  have hJ:jwN s q=(.no,q):=by
   have h0:=hall 0 (hover 0 dC)
   have h1:=hall 1 (hover 1 dC)
   have h2:=hall 2 (hover 2 dC)
   unfold jwN
   rw [show wordB s q [110,117,108,108]=false from h0,show wordB s q [116,114,117,101]=false from h1,show wordB s q [102,97,108,115,101]=false from h2];rfl
  rw [hJ]
  have n1:=wd_in .no
  clear again hall hover
  refine zg [(7,{fm:=[(0,.c (.cl (wdC .no)))]})] [false] [false=false,EqvI (.c .nilif) (.c (wdC JWd.no).cl),EqvD (.c .nilif) (.c (wdC JWd.no).cl)] ⟨rfl,fun _ _=>trivial,(show EqvD (.c .nilif) (.c (wdC JWd.no).cl) from aS)⟩ ?_
  exact zb []
theorem atoi_rng {t:List UInt8} {v:Int} (h:Lib.atoiAll t = .ok v) : -9223372036854775808≤v∧v≤9223372036854775807:=by
 unfold Lib.atoiAll at h
 split at h
 ·cases h
 ·simp only at h
  split at h
  ·cases h
  ·cases h
  ·split at h
   ·cases h
   ·split at h
    ·cases h
    ·rename_i h1 h2
     injection h with h
     subst h
     split<;>rename_i h3<;>simp only [h3,not_true,not_false_eq_true,true_and,false_and] at h1 h2<;>omega
theorem pnumber_ok (hE:HasErr G) (hp:HasPow G) (s:List UInt8) (q:Nat) (hl:s.length≤1000000000) (hq:q<s.length) (hc:s.getD q 0=45∨digitB (s.getD q 0)=true):FnB Tryz.prog G 190 [pjB s q] [.c (.ptr 0 0)] [.c (.cl (wdC (jwM s q).1))] [(0,pjB s (jwM s q).2)]:=by
 refine zf Tryz.func190 ?_
 have hQ1:digP s (sgP s q)=digP s (q+1):=by
  rcases hc with hc | hc
  ·unfold sgP;rw [if_pos (by unfold atB;rw [hc,decide_eq_true hq];rfl)]
  ·have h45:s.getD q 0≠45:=by intro h;rw [h] at hc;revert hc;decide
   unfold sgP
   rw [if_neg (by unfold atB;rw [beq_eq_false_iff_ne.2 h45];simp)]
   exact (digP_yes hq hc).1
 have hQl:=digP_len s (q+1) hq
 have hQg:=digP_le s (q+1)
 have hJ:jwM s q=if numOk s q then (.nu (numV s q),digP s (sgP s q)) else (.no,digP s (sgP s q)):=rfl
 have hT:(s.take (digP s (sgP s q))).drop q=jnumT s q:=by unfold jnumT;rw [List.drop_take]
 have hTl:(jnumT s q).length≤1000000000:=by unfold jnumT;simp;omega
 have hy:=@jnum_yes s q
 have hn:numOk s q=false→∀ {v:Int},Lib.atoiAll (jnumT s q) = .ok v→¬ (v≤9007199254740992 ∧ -9007199254740992≤v∧Lib.itoa v=jnumT s q):=fun h=>jnum_no h oM
 rw [hJ]
 generalize numV s q=V at *
 generalize numOk s q=K at *
 generalize jnumT s q=T at *
 generalize hQ:digP s (sgP s q)=Q at *
 refine zg [] [] [inR .i64 ((q:Int)+1)] (i6) ?_
 refine zl (fun (k:Nat)=>⟨[(0,.v (.c (.ptr 0 0))),(3,.v (.c (.int .i64 (q:Int))))],[(0,pjB s k)],33⟩) (fun k=>q+1≤k∧k≤s.length∧Q=digP s k) (fun k=>s.length-k) (q+1) ⟨Nat.le_refl _,hq,hQ1⟩ ?_
 rintro k L ⟨hqk,hk,hq2⟩ again
 have hd:digitB (s.getD k 0)=(bif decide (((s.getD k 0).toNat:Int)≥48) then decide (((s.getD k 0).toNat:Int)≤57) else false):=by
  have:=byte_all (fun c=>digitB c==(bif decide ((c.toNat:Int)≥48) then decide ((c.toNat:Int)≤57) else false)) kR (s.getD k 0)
  exact eq_of_beq this
 by_cases hgo:k<s.length∧digitB (s.getD k 0)=true
 ·obtain ⟨hlt,hdg⟩:=hgo
  rw [(digP_yes hlt hdg).1] at hq2
  rw [hdg] at hd
  have hcond:(bif bif decide ((k:Int)<(s.length:Int)) then decide (((s.getD k 0).toNat:Int)≥48) else false then decide (((s.getD k 0).toNat:Int)≤57) else false)=true:=by
   rw [decide_eq_true (show (k:Int)<(s.length:Int) by omega)];exact hd.symm
  clear hd hdg hy hn hJ hT hQ hQ1
  refine zg [] [true] [decide ((k:Int)<(s.length:Int))=true→(0:Int)≤(k:Int)∧(k:Int)<(s.length:Int),(bif decide ((k:Int)<(s.length:Int)) then decide ((↑(s.getD k (0:UInt8)).toNat:Int)≥(48:Int)) else false)=true→(0:Int)≤(k:Int)∧(k:Int)<(s.length:Int),(bif bif decide ((k:Int)<(s.length:Int)) then decide ((↑(s.getD k (0:UInt8)).toNat:Int)≥(48:Int)) else false then decide ((↑(s.getD k (0:UInt8)).toNat:Int)≤(57:Int)) else false)=true,inR .i64 ((k:Int)+1)] ⟨oM,oM,aS,i6⟩ ?_
  exact za [] (again _ (k+1) oM oM)
 ·have hQk:digP s k=k:=(digP_no (fun hlt=>by
   cases hx:digitB (s.getD k 0) with
   | false=>rfl
   | true=>exact absurd ⟨hlt,hx⟩ hgo)).1
  have hcond:(bif bif decide ((k:Int)<(s.length:Int)) then decide (((s.getD k 0).toNat:Int)≥48) else false then decide (((s.getD k 0).toNat:Int)≤57) else false)=false:=by
   by_cases hlt:k<s.length
   ·have hx:digitB (s.getD k 0)=false:=by
     cases hx:digitB (s.getD k 0) with
     | false=>rfl
     | true=>exact absurd ⟨hlt,hx⟩ hgo
    rw [decide_eq_true (show (k:Int)<(s.length:Int) by omega)]
    rw [hx] at hd
    exact hd.symm
   ·rw [decide_eq_false oM];rfl
  rw [hQk] at hq2
  subst hq2
  clear hd hgo again hQ hJ hQ1
  have e1:EqvD (.c (.str ((s.take Q).drop q))) (.c (.str T)):=eqvD_of (by rw [hT])
  by_cases hok:∃ v,Lib.atoiAll T = .ok v
  ·obtain ⟨v,hv⟩:=hok
   have c1:=atoi_yes (G:=G) T hTl v hv
   have hr:=atoi_rng hv
   have c2:=itoa_p hp v hr.1 hr.2
   cases K with
   | true =>
    obtain ⟨h1,h2,h3,h4⟩:=hy rfl
    rw [hv] at h1
    have h1:v=V:=by injection h1
    subst h1
    have hB:(bif bif bif false then true else decide (v < -9007199254740992) then true else decide (v>9007199254740992) then true else !(Lib.itoa v==T))=false:=by
     rw [h4,decide_eq_false oM,decide_eq_false oM];simp
    have n1:=wd_in (.nu v)
    rw [if_pos rfl]
    clear hy hn hT hv
    refine zg [(5,{cs:=[(10,pc c1)],fm:=[(9,.c (.str T))]}),(6,{cs:=[(12,pc c2)],fm:=[(22,.c (.str T))]}),(8,{fm:=[(1,.c (.cl (wdC (.nu v))))]})] [false,false] [decide ((Q:Int)<(s.length:Int))=true→(0:Int)≤(Q:Int)∧(Q:Int)<(s.length:Int),(bif decide ((Q:Int)<(s.length:Int)) then decide ((↑(s.getD Q (0:UInt8)).toNat:Int)≥(48:Int)) else false)=true→(0:Int)≤(Q:Int)∧(Q:Int)<(s.length:Int),(bif bif decide ((Q:Int)<(s.length:Int)) then decide ((↑(s.getD Q (0:UInt8)).toNat:Int)≥(48:Int)) else false then decide ((↑(s.getD Q (0:UInt8)).toNat:Int)≤(57:Int)) else false)=false,EqvI (.c (.str (List.drop (Int.ofNat q).toNat (List.take (Int.ofNat Q).toNat s)))) (.c (.str T)),EqvD (.c (.str (List.drop (Int.ofNat q).toNat (List.take (Int.ofNat Q).toNat s)))) (.c (.str T)),(0:Int)≤Int.ofNat q∧Int.ofNat q≤Int.ofNat Q∧Int.ofNat Q≤(s.length:Int),EqvI (.c (.str (List.drop (Int.ofNat q).toNat (List.take (Int.ofNat Q).toNat s)))) (.c (.str T)),(bif bif !true then true else decide (v<(-9007199254740992:Int)) then true else decide (v>(9007199254740992:Int)))=false→EqvD (.c (.str (List.drop (Int.ofNat q).toNat (List.take (Int.ofNat Q).toNat s)))) (.c (.str T)),(bif bif !true then true else decide (v<(-9007199254740992:Int)) then true else decide (v>(9007199254740992:Int)))=false→(0:Int)≤Int.ofNat q∧Int.ofNat q≤Int.ofNat Q∧Int.ofNat Q≤(s.length:Int),(bif bif bif !true then true else decide (v<(-9007199254740992:Int)) then true else decide (v>(9007199254740992:Int)) then true else !Lib.itoa v==T)=false,EqvI (.c (.ifc 251 none fun (x:Nat) => .int .i64 v)) (.c (wdC (JWd.nu v)).cl),EqvD (.c (.ifc 251 none fun (x:Nat) => .int .i64 v)) (.c (wdC (JWd.nu v)).cl)] ⟨(by simp;done),sO,aS,fun _ _=>trivial,aS,⟨(by simp;done),⟨sO,sO⟩⟩,fun _ _=>trivial,(by intro _;assumption),sO,aS,fun _ _=>trivial,(show EqvD (.c (.ifc 251 none fun (x:Nat) => .int .i64 v)) (.c (wdC (JWd.nu v)).cl) from aS)⟩ ?_
    exact zb []
   | false =>
    have h0:=hn rfl hv
    have hB:(bif bif bif false then true else decide (v < -9007199254740992) then true else decide (v>9007199254740992) then true else !(Lib.itoa v==T))=true:=by
     by_cases g1:v≤9007199254740992
     ·by_cases g2 : -9007199254740992≤v
      ·have g3:(Lib.itoa v==T)=false:=beq_eq_false_iff_ne.2 (fun h=>h0 ⟨g1,g2,h⟩)
       rw [g3];simp
      ·rw [decide_eq_true (by omega:v < -9007199254740992)];simp
     ·rw [decide_eq_true (by omega:v>9007199254740992)];simp
    have n1:=wd_in .no
    rw [if_neg dC]
    clear hy hn hT hv h0
    refine zg [(5,{cs:=[(10,pc c1)],fm:=[(9,.c (.str T))]}),(6,{cs:=[(12,pc c2)],fm:=[(22,.c (.str T))]}),(7,{fm:=[(0,.c (.cl (wdC .no)))]})] [false,true] [decide ((Q:Int)<(s.length:Int))=true→(0:Int)≤(Q:Int)∧(Q:Int)<(s.length:Int),(bif decide ((Q:Int)<(s.length:Int)) then decide ((↑(s.getD Q (0:UInt8)).toNat:Int)≥(48:Int)) else false)=true→(0:Int)≤(Q:Int)∧(Q:Int)<(s.length:Int),(bif bif decide ((Q:Int)<(s.length:Int)) then decide ((↑(s.getD Q (0:UInt8)).toNat:Int)≥(48:Int)) else false then decide ((↑(s.getD Q (0:UInt8)).toNat:Int)≤(57:Int)) else false)=false,EqvI (.c (.str (List.drop (Int.ofNat q).toNat (List.take (Int.ofNat Q).toNat s)))) (.c (.str T)),EqvD (.c (.str (List.drop (Int.ofNat q).toNat (List.take (Int.ofNat Q).toNat s)))) (.c (.str T)),(0:Int)≤Int.ofNat q∧Int.ofNat q≤Int.ofNat Q∧Int.ofNat Q≤(s.length:Int),EqvI (.c (.str (List.drop (Int.ofNat q).toNat (List.take (Int.ofNat Q).toNat s)))) (.c (.str T)),(bif bif !true then true else decide (v<(-9007199254740992:Int)) then true else decide (v>(9007199254740992:Int)))=false→EqvD (.c (.str (List.drop (Int.ofNat q).toNat (List.take (Int.ofNat Q).toNat s)))) (.c (.str T)),(bif bif !true then true else decide (v<(-9007199254740992:Int)) then true else decide (v>(9007199254740992:Int)))=false→(0:Int)≤Int.ofNat q∧Int.ofNat q≤Int.ofNat Q∧Int.ofNat Q≤(s.length:Int),(bif bif bif !true then true else decide (v<(-9007199254740992:Int)) then true else decide (v>(9007199254740992:Int)) then true else !Lib.itoa v==T)=true,EqvI (.c .nilif) (.c (wdC JWd.no).cl),EqvD (.c .nilif) (.c (wdC JWd.no).cl)] ⟨(by simp;done),sO,aS,fun _ _=>trivial,aS,⟨(by simp;done),⟨sO,sO⟩⟩,fun _ _=>trivial,(by intro _;assumption),sO,aS,fun _ _=>trivial,(show EqvD (.c .nilif) (.c (wdC JWd.no).cl) from aS)⟩ ?_
    exact zb []
  ·obtain ⟨v,c1⟩:=atoi_no (G:=G) hE T hTl (fun v h=>hok ⟨v,h⟩)
   have hK:K=false:=by
    cases K with
    | false=>rfl
    | true=>exact absurd ⟨_,(hy rfl).1⟩ hok
   subst hK
   have n1:=wd_in .no
   rw [if_neg dC]
   clear hy hn hT hok
   refine zg [(5,{cs:=[(10,pc c1)],fm:=[(9,.c (.str T))]}),(6,{grd:=[(11,false),(12,false),(13,false),(14,false),(15,false),(16,false),(17,false),(18,false),(19,false),(20,false),(21,false),(22,false),(23,false),(24,true)]}),(7,{fm:=[(0,.c (.cl (wdC .no)))]})] [false,true] [decide ((Q:Int)<(s.length:Int))=true→(0:Int)≤(Q:Int)∧(Q:Int)<(s.length:Int),(bif decide ((Q:Int)<(s.length:Int)) then decide ((↑(s.getD Q (0:UInt8)).toNat:Int)≥(48:Int)) else false)=true→(0:Int)≤(Q:Int)∧(Q:Int)<(s.length:Int),(bif bif decide ((Q:Int)<(s.length:Int)) then decide ((↑(s.getD Q (0:UInt8)).toNat:Int)≥(48:Int)) else false then decide ((↑(s.getD Q (0:UInt8)).toNat:Int)≤(57:Int)) else false)=false,EqvI (.c (.str (List.drop (Int.ofNat q).toNat (List.take (Int.ofNat Q).toNat s)))) (.c (.str T)),EqvD (.c (.str (List.drop (Int.ofNat q).toNat (List.take (Int.ofNat Q).toNat s)))) (.c (.str T)),(0:Int)≤Int.ofNat q∧Int.ofNat q≤Int.ofNat Q∧Int.ofNat Q≤(s.length:Int),(bif bif !false then true else decide (v<(-9007199254740992:Int)) then true else decide (v>(9007199254740992:Int))) = !false,(bif bif !false then true else decide (v<(-9007199254740992:Int)) then true else decide (v>(9007199254740992:Int))) = !false,(bif bif !false then true else decide (v<(-9007199254740992:Int)) then true else decide (v>(9007199254740992:Int))) = !false,(bif bif !false then true else decide (v<(-9007199254740992:Int)) then true else decide (v>(9007199254740992:Int))) = !false,(bif bif !false then true else decide (v<(-9007199254740992:Int)) then true else decide (v>(9007199254740992:Int))) = !false,(bif bif !false then true else decide (v<(-9007199254740992:Int)) then true else decide (v>(9007199254740992:Int))) = !false,(bif bif !false then true else decide (v<(-9007199254740992:Int)) then true else decide (v>(9007199254740992:Int))) = !false,(bif bif !false then true else decide (v<(-9007199254740992:Int)) then true else decide (v>(9007199254740992:Int))) = !false,(bif bif !false then true else decide (v<(-9007199254740992:Int)) then true else decide (v>(9007199254740992:Int))) = !false,(bif bif !false then true else decide (v<(-9007199254740992:Int)) then true else decide (v>(9007199254740992:Int))) = !false,(bif bif !false then true else decide (v<(-9007199254740992:Int)) then true else decide (v>(9007199254740992:Int))) = !false,(bif bif !false then true else decide (v<(-9007199254740992:Int)) then true else decide (v>(9007199254740992:Int))) = !false,(bif bif !false then true else decide (v<(-9007199254740992:Int)) then true else decide (v>(9007199254740992:Int))) = !false,(bif bif !false then true else decide (v<(-9007199254740992:Int)) then true else decide (v>(9007199254740992:Int)))=true,true=true,EqvI (.c .nilif) (.c (wdC JWd.no).cl),EqvD (.c .nilif) (.c (wdC JWd.no).cl)] ⟨(by simp;done),sO,aS,fun _ _=>trivial,aS,⟨(by simp;done),⟨sO,sO⟩⟩,rfl,rfl,rfl,rfl,rfl,rfl,rfl,rfl,rfl,rfl,rfl,rfl,rfl,rfl,rfl,fun _ _=>trivial,(show EqvD (.c .nilif) (.c (wdC JWd.no).cl) from aS)⟩ ?_
   exact zb []
def numK (K:Nat) (s:List UInt8):Bool:=decide (s.length≤K)&&canonB s
theorem numK_yes {K:Nat} (hK:K≤15) (s:List UInt8) (h:numK K s=true):Pur Tryz.prog G 135 [.c (.str s),.c (.int .i64 (K:Int))] [.c (.int .i64 ((nv s:Nat):Int)),.c (.bool true)]:=by
 refine zp Tryz.func135 ?_
 unfold numK canonB at h
 simp only [Bool.and_eq_true,decide_eq_true_eq,Bool.not_eq_true'] at h
 obtain ⟨hl,hd,hne,hh⟩:=h
 have c:=All_digit (G:=G) s oM
 rw [hd] at c
 have hp:0<s.length:=by
  cases s with
  | nil=>simp at hne
  | cons a r=>simp
 have hi0:(((s.getD 0 0).toNat:Int)==48)=(s.getD 0 0==48):=ibeq (s.getD 0 0) 48
 have ht:(bif bif bif s==[] then true else decide ((s.length:Int)>(K:Int)) then true else !true then true else bif decide ((s.length:Int)>1) then ((s.getD 0 0).toNat:Int)==48 else false)=false:=by
  rw [hne,hi0,decide_eq_false (show ¬ ((s.length:Int)>(K:Int)) by omega)]
  by_cases h1:1<s.length
  ·rw [decide_eq_true h1,Bool.true_and] at hh
   rw [hh,decide_eq_true (show (s.length:Int)>1 by omega)];rfl
  ·rw [decide_eq_false (show ¬ ((s.length:Int)>1) by omega)];rfl
 have hall:∀ k,k<s.length→digitB (s.getD k 0)=true:=fun k hk=>by
  rw [List.all_eq_true] at hd
  exact hd _ (by simp [List.getD,hk])
 have hlt:∀ k,k≤s.length→nv (s.take k)<10^K:=fun k hk=>nv_lt K _ sO (by rw [List.all_eq_true] at hd ⊢;exact fun x hx=>hd x (List.mem_of_mem_take hx))
 have hnv:∀ k,k<s.length→nv (s.take (k+1))=nv (s.take k)*10+((s.getD k 0).toNat-48):=fun k hk=>by
  rw [List.take_succ_eq_append_getElem hk,nv_snoc];simp [List.getD,hk]
 have hi1:0≤(0:Int)∧(0:Int)<(s.length:Int):=by omega
 clear hd hh hne hi0
 refine zg [(1,{cs:=[(10,pc c)]})] [false] [decide ((s.length:Int)>(1:Int))=true∧(bif bif s==[] then true else decide ((s.length:Int)>(K:Int)) then true else !true)=false→(0:Int)≤(0:Int)∧(0:Int)<(s.length:Int),(bif bif bif s==[] then true else decide ((s.length:Int)>(K:Int)) then true else !true then true else bif decide ((s.length:Int)>(1:Int)) then (↑(s.getD (0:Nat) (0:UInt8)).toNat:Int)==(48:Int) else false)=false] ⟨oM,(show (bif bif bif s==[] then true else decide ((↑s.length:Int)>(↑K:Int)) then true else !true then true else bif decide ((↑s.length:Int)>(1:Int)) then (↑(s.getD (0:Nat) (0:UInt8)).toNat:Int)==(48:Int) else false)=false from aS)⟩ ?_
 refine zl (fun (x:Nat×Nat)=>⟨[(0,.v (.c (.str s))),(6,.v (.c (.int .i64 (x.2:Int)))),(32,.v (.c (.int .i64 (s.length:Int)))),(33,.v (.c (.int .i64 (x.1:Int))))],[],448⟩) (fun x=>x.1≤s.length∧x.2=nv (s.take x.1)) (fun x=>s.length-x.1) (0,0) ⟨Nat.zero_le _,rfl⟩ ?_
 rintro ⟨k,n⟩ L ⟨hk,hn⟩ again
 simp only at hk hn
 rcases Nat.lt_or_ge k s.length with hlk | hge
 ·have hb:=dig_to (hall k hlk)
  have hlim:=hlt k hk
  rw [← hn] at hlim
  have hn2:n*10+((s.getD k 0).toNat-48)=nv (s.take (k+1)):=by rw [hnv k hlk,hn]
  have ew:IntKind.u8.wrap (((s.getD k 0).toNat:Int)-48)=(((s.getD k 0).toNat-48:Nat):Int):=by rw [wrap8 oM oM];omega
  have ew2:IntKind.i64.wrap (((s.getD k 0).toNat-48:Nat):Int)=(((s.getD k 0).toNat-48:Nat):Int):=wrap64 oM oM
  have e7:EqvD (.c (.int .u8 (IntKind.u8.wrap (((s.getD k 0).toNat:Int)-48)))) (.c (.int .u8 (((s.getD k 0).toNat-48:Nat):Int))):=eqvD_of (by rw [ew])
  have e8:EqvD (.c (.int .i64 (IntKind.i64.wrap (((s.getD k 0).toNat-48:Nat):Int)))) (.c (.int .i64 (((s.getD k 0).toNat-48:Nat):Int))):=eqvD_of (by rw [ew2])
  have e9:EqvD (.c (.int .i64 ((n:Int)*10+(((s.getD k 0).toNat-48:Nat):Int)))) (.c (.int .i64 ((n*10+((s.getD k 0).toNat-48):Nat):Int))):=eqvD_of (by rw [show (n:Int)*10+(((s.getD k 0).toNat-48:Nat):Int)=((n*10+((s.getD k 0).toNat-48):Nat):Int) from by omega])
  have hlim2:n<1000000000000000:=Nat.lt_of_lt_of_le hlim (Nat.pow_le_pow_right (n:=10) dC hK)
  clear ew ew2 hlt hnv hall ht hlim hn
  refine zg [(7,{fm:=[(5,.c (.int .u8 (((s.getD k 0).toNat-48:Nat):Int))),(6,.c (.int .i64 (((s.getD k 0).toNat-48:Nat):Int))),(7,.c (.int .i64 ((n*10+((s.getD k 0).toNat-48):Nat):Int)))]})] [true] [decide ((k:Int)<(s.length:Int))=true,inR .i64 ((n:Int)*10),(0:Int)≤(k:Int)∧(k:Int)<(s.length:Int),EqvI (.c (.int .u8 (IntKind.u8.wrap ((↑(s.getD k (0:UInt8)).toNat:Int)-(48:Int))))) (.c (.int .u8 (↑((s.getD k (0:UInt8)).toNat-(48:Nat)):Int))),EqvD (.c (.int .u8 (IntKind.u8.wrap ((↑(s.getD k (0:UInt8)).toNat:Int)-(48:Int))))) (.c (.int .u8 (↑((s.getD k (0:UInt8)).toNat-(48:Nat)):Int))),EqvI (.c (.int .i64 (IntKind.i64.wrap (↑((s.getD k (0:UInt8)).toNat-(48:Nat)):Int)))) (.c (.int .i64 (↑((s.getD k (0:UInt8)).toNat-(48:Nat)):Int))),EqvD (.c (.int .i64 (IntKind.i64.wrap (↑((s.getD k (0:UInt8)).toNat-(48:Nat)):Int)))) (.c (.int .i64 (↑((s.getD k (0:UInt8)).toNat-(48:Nat)):Int))),EqvI (.c (.int .i64 ((n:Int)*(10:Int)+(↑((s.getD k (0:UInt8)).toNat-(48:Nat)):Int)))) (.c (.int .i64 (↑(n*(10:Nat)+((s.getD k (0:UInt8)).toNat-(48:Nat))):Int))),EqvD (.c (.int .i64 ((n:Int)*(10:Int)+(↑((s.getD k (0:UInt8)).toNat-(48:Nat)):Int)))) (.c (.int .i64 (↑(n*(10:Nat)+((s.getD k (0:UInt8)).toNat-(48:Nat))):Int))),inR .i64 ((n:Int)*(10:Int)+(↑((s.getD k (0:UInt8)).toNat-(48:Nat)):Int)),inR .i64 ((k:Int)+1)] ⟨sO,i6,oM,fun _ _=>trivial,aS,fun _ _=>trivial,aS,fun _ _=>trivial,aS,i6,i6⟩ ?_
  exact za [] (again _ (k+1,n*10+((s.getD k 0).toNat-48)) ⟨aS,aS⟩ oM)
 ·rw [List.take_of_length_le hge] at hn
  subst hn
  clear hlt hnv hall ht
  refine zg [] [false] [decide ((k:Int)<(s.length:Int))=false] (oN sO) ?_
  exact zr
theorem numK_no {K:Nat} (s:List UInt8) (hl:s.length<1000000000) (h:numK K s=false):Pur Tryz.prog G 135 [.c (.str s),.c (.int .i64 (K:Int))] [.c (.int .i64 0),.c (.bool false)]:=by
 refine zp Tryz.func135 ?_
 have c:=All_digit (G:=G) s oM
 have hi0:(((s.getD 0 0).toNat:Int)==48)=(s.getD 0 0==48):=ibeq (s.getD 0 0) 48
 have hi1:decide ((s.length:Int)>1)=true→0≤(0:Int)∧(0:Int)<(s.length:Int):=fun h=>by have:=of_decide_eq_true h;omega
 have ht:(bif bif bif s==[] then true else decide ((s.length:Int)>(K:Int)) then true else !s.all digitB then true else bif decide ((s.length:Int)>1) then ((s.getD 0 0).toNat:Int)==48 else false)=true:=by
  rw [hi0]
  unfold numK canonB at h
  revert h
  have hd1:decide ((s.length:Int)>(K:Int)) = !decide (s.length≤K):=by by_cases hh:s.length≤K<;>simp [hh]<;>omega
  have hd2:decide ((s.length:Int)>1)=decide (1<s.length):=by by_cases hh:1<s.length<;>simp [hh]<;>omega
  rw [hd1,hd2]
  cases (s==[])<;>cases decide (s.length≤K)<;>cases (s.all digitB)<;>cases decide (1<s.length)<;>cases (s.getD 0 0==48)<;>decide
 clear h hi0
 refine zg [(1,{cs:=[(10,pc c)]})] [true] [decide ((s.length:Int)>(1:Int))=true∧(bif bif s==[] then true else decide ((s.length:Int)>(K:Int)) then true else !s.all digitB)=false→(0:Int)≤(0:Int)∧(0:Int)<(s.length:Int),(bif bif bif s==[] then true else decide ((s.length:Int)>(K:Int)) then true else !s.all digitB then true else bif decide ((s.length:Int)>(1:Int)) then (↑(s.getD (0:Nat) (0:UInt8)).toNat:Int)==(48:Int) else false)=true] ⟨sO,(show (bif bif bif s==[] then true else decide ((↑s.length:Int)>(↑K:Int)) then true else !s.all digitB then true else bif decide ((↑s.length:Int)>(1:Int)) then (↑(s.getD (0:Nat) (0:UInt8)).toNat:Int)==(48:Int) else false)=true from aS)⟩ ?_
 exact zr
end Go.Proofs.Tw
end
