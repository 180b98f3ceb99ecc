/- Own texts for this claim: Lib, Pri, Ref6, R12, Q12, P12, Rep, Tape, Bas, Spl, Mrk, Mrk2, B64, Key, Q10, Uri, Sgn, Sg8, D8, B6, B7, B8, Te1, Tab, Http, Pct, Te2, Lw8, D64, Rn, Rt, Ro, Rk, Rm, Rr, Cr, Ca, Ct, Cd, Ce, Cf, Cg, Pk, Tc0, Tc1, Tc2, Tc3, Tc4, Mt0, Mt1, Mt2, Mt3, Mt4, Mt5, Mt6, Mt7, Mt8. -/
import Derived.Test.YtgnhhialddlknaaGreatDoorGuardApartCardP3
import Derived.Test.YtgnhhialddlknaaGreatDoorGuardApartCardP5
import Derived.Lib.Small
import Derived.Lib.Join
import Derived.Lib.ItoaNum
import Derived.Lib.IndexMore
import Derived.Test.YtgnhhialddlknaaGreatDoorGuardApartCardP4
import Derived.Lib.SplitLaws
set_option linter.all false
section
open Go Go.Sv Go.RowKit
namespace Go.Proofs
theorem lib_FormatBool {G:Nat→Option (List Cell)} (b:Bool):Pur Tryz.prog G 242 [.c (.bool b)] [.c (.str (Lib.formatBool b))]:=by
 refine Pur.of_below rfl ?_
 intro D ρ w vs h1 _ _ _
 obtain ⟨u,rfl,hu⟩:=h1.one
 have hu:u = .bool b:=hu
 subst hu
 refine (Tryz.strconv_FormatBool b w).mono ?_
 rintro e w' ⟨rfl,rfl⟩
 exact ⟨_,rfl,rfl,BelowD.refl _ _⟩
theorem lib_Join {G:Nat→Option (List Cell)} [Back G] (xs:List (List UInt8)) (sep:List UInt8) (hN:xs.length≤140737488355328) (hlen:(Lib.join xs sep).length≤140737488355328) :
  Pur Tryz.prog G 210 [.c (.sl 1 xs.length (fun i j=>nthD [.str (xs.getD i [])] j)),.c (.str sep)] [.c (.str (Lib.join xs sep))]:=by
 refine Pur.of_below rfl ?_
 intro D ρ w vs h1 _ _ ha
 obtain ⟨u,v,rfl,hu,hv⟩:=h1.two
 have hv:v = .string ⟨sep.toArray⟩:=hv
 subst hv
 have hu:∃ a cap,u = .slice a xs.length cap∧xs.length≤cap∧cap≤maxLen∧(cap=0∨∃ b o,a=some ⟨b,o,none⟩∧∀ i,i<xs.length→∀ j,j<1→∃ u,D b (o+i*1+j)=some u∧Den D rho0 (nthD [.str (xs.getD i [])] j) u):=hu
 obtain ⟨a,cap,rfl,h2,h3,h4⟩:=hu
 by_cases h0:xs=[]
 ·subst h0
  refine (Tryz.strings_Join_none a cap _ w).mono ?_
  rintro e w' ⟨rfl,rfl⟩
  exact ⟨_,rfl,rfl,BelowD.refl _ _⟩
 ·have hpos:0<xs.length:=List.length_pos_iff.2 h0
  rcases h4 with h4 | ⟨b,o,rfl,h4⟩
  ·omega
  ·have hcells:∀ (j:Nat) x,(xs.map fun l=>(⟨l.toArray⟩:ByteArray))[j]?=some x→w.cell? ⟨b,o+j,none⟩=some (.string x):=by
    intro j x hx
    rw [List.getElem?_map,Option.map_eq_some_iff] at hx
    obtain ⟨l,hl,rfl⟩:=hx
    have hj:j<xs.length:=by
     rcases Nat.lt_or_ge j xs.length with h | h
     ·exact h
     ·rw [List.getElem?_eq_none h] at hl;cases hl
    obtain ⟨u,hu,hd⟩:=h4 j hj 0 oM
    have hd:u = .string ⟨(xs.getD j []).toArray⟩:=hd
    subst hd
    have:=ha _ _ _ hu
    rw [Nat.mul_one,Nat.add_zero] at this
    rw [this,List.getD_eq_getElem?_getD,hl]
    rfl
   have hmm:(xs.map fun l=>(⟨l.toArray⟩:ByteArray)).map (·.data.toList)=xs:=by
    rw [List.map_map]
    conv=>rhs;rw [← List.map_id xs]
    exact List.map_congr_left (fun l _=>by simp)
   have hb:b<w.heap.size:=by
    obtain ⟨u,hu,_⟩:=h4 0 hpos 0 oM
    exact heap_of_cell (ha _ _ _ hu)
   have:=Tryz.strings_Join b o cap (xs.map fun l=>(⟨l.toArray⟩:ByteArray)) ⟨sep.toArray⟩ w hcells hb (by simpa using hN) (by simpa using h2) (by rw [hmm];exact hlen)
   rw [hmm,List.length_map] at this
   refine this.mono ?_
   rintro e w' ⟨rfl,hbl⟩
   exact ⟨_,rfl,rfl,.of hbl⟩
theorem tabIs {P:Program} {G:Nat→Option (List Cell)} {D:Dat} {w:World} {g:Nat} {name:String} {k:IntKind} {zs:List Int} (hg:P.globalNamed name=some g) (hG:G g=some (zs.map fun z => .int k z)) (hne:zs≠[])
  (h1:GlobOk G D) (h2:GlobW G w) (h3:Agree D w):Lib.TabIs P w name k zs:=by
 obtain ⟨arr,e,fz,q1,q2⟩:=h2 g _ hG (by simpa using hne)
 unfold Lib.TabIs World.var?
 rw [hg]
 simp only [Option.bind_some,q1,Option.some.injEq]
 apply Array.ext_getElem?
 intro j
 rw [List.length_map] at q2
 rcases Nat.lt_or_ge j zs.length with hj | hj
 ·obtain ⟨u,hu,hd⟩:=h1 g _ hG j (.int k zs[j]) (by simp [hj])
  have hd:u = .int k zs[j]:=hd
  subst hd
  have:=h3 _ _ _ hu
  simp only [World.cell?,q1,Option.isSome_none,Bool.false_eq_true,if_false] at this
  rw [this]
  simp [hj]
 ·rw [Array.getElem?_eq_none oM,Array.getElem?_eq_none (by simpa using hj)]
theorem below_grow {G:Nat→Option (List Cell)} (w:World) (k:Nat) (os:Array Obj):BelowD G w.heap.size w (Go.Sort.grow (w.drewN k) os):=by
 refine ⟨⟨rfl,rfl,rfl,?_,?_⟩,fun _=>Nat.le_add_right _ _⟩
 ·simp [Go.Sort.grow]
 ·intro b hb
  simp [Go.Sort.grow,Array.getElem?_append,hb]
theorem lib_Itoa {G:Nat→Option (List Cell)} (gp:Nat) (hg:Tryz.prog.globalNamed "internal/strconv.uint64pow10" = some gp) (hG:G gp=some (Lib.pow10Tab.map fun z => .int .u64 z)) (n:Int) (h0 : -9223372036854775808≤n) (h1:n≤9223372036854775807) :
  Pur Tryz.prog G 221 [.c (.int .i64 n)] [.c (.str (Lib.itoa n))]:=by
 refine Pur.of_below rfl ?_
 intro D ρ w vs hv k1 k2 k3
 obtain ⟨u,rfl,hu⟩:=hv.one
 have hu:u = .int .i64 n:=hu
 subst hu
 refine (Tryz.strconv_Itoa n h0 h1 w (tabIs hg hG dC k1 k2 k3)).mono ?_
 rintro e w' ⟨rfl,k,os,rfl⟩
 exact ⟨_,rfl,rfl,below_grow w k os⟩
end Go.Proofs
end
section
open Go Go.Sv
namespace Go.Proofs.Tw
attribute [local irreducible] Wp FinQ resV Ent Pur Go.Sv.Fn Sat0
set_option maxRecDepth 100000
variable {G:Nat→Option (List Cell)} [Back G]
mutual
def printJ:JV→List UInt8
 | .mk k b n s ns ks=>if k==1 then [110,117,108,108] else if k==2 then Lib.formatBool b else if k==3 then Lib.itoa n else if k==4 then quotedT s else
  if k==6 then (123::Lib.join (partsJ k ns ks) [44])++[125] else (91::Lib.join (partsJ k ns ks) [44])++[93]
def partsJ:Int→List (List UInt8)→List JV→List (List UInt8)
 | _,_,[]=>[]
 | k,ns,x::r=>(if k==6 then quotedT (ns.headD [])++[58]++printJ x else printJ x)::partsJ k ns.tail r
end
def partAt (v:JV) (i:Nat):List UInt8:=if v.kind==6 then quotedT (v.names.getD i [])++[58]++printJ (v.kids.getD i .nil) else printJ (v.kids.getD i .nil)
def parts (v:JV) (k:Nat):List (List UInt8):=(List.range k).map (partAt v)
theorem partsJ_eq (k:Int):∀ (ks:List JV) (ns:List (List UInt8)),partsJ k ns ks=(List.range ks.length).map (fun i=>if k==6 then quotedT (ns.getD i [])++[58]++printJ (ks.getD i .nil) else printJ (ks.getD i .nil))
 | [],ns=>by rw [partsJ]; rfl
 | x::r,ns=>by
  rw [partsJ,partsJ_eq k r ns.tail,List.length_cons,List.range_succ_eq_map,List.map_cons,List.map_map]
  congr 1
  ·cases ns<;>rfl
  ·apply List.map_congr_left
   intro i _
   cases ns<;>simp [List.getD]
theorem printJ_eq (v:JV):printJ v=if v.kind==1 then [110,117,108,108] else if v.kind==2 then Lib.formatBool v.b else if v.kind==3 then Lib.itoa v.n else if v.kind==4 then quotedT v.s else
  if v.kind==6 then (123::Lib.join (parts v v.kids.length) [44])++[125] else (91::Lib.join (parts v v.kids.length) [44])++[93]:=by
 cases v;rw [printJ,partsJ_eq];rfl
theorem join_part {x:List UInt8} {xs:List (List UInt8)} (sep:List UInt8) (h:x∈xs):x.length≤(Lib.join xs sep).length:=by
 cases xs with
 | nil=>simp at h
 | cons y r =>
  rw [Lib.join_cons,List.length_append]
  rcases List.mem_cons.1 h with rfl | h
  ·omega
  ·have:x.length≤(Lib.joinTail sep r).length:=by
    unfold Lib.joinTail
    induction r with
    | nil=>simp at h
    | cons z t ih =>
     simp only [List.map_cons,List.flatten_cons,List.length_append]
     rcases List.mem_cons.1 h with rfl | h
     ·omega
     ·have:=ih (by simp [h]) h;omega
   omega
inductive Fit:JV→Prop
 | mk {v:JV} (h2:v.kids.length≤1000000000000) (h6:v.kind=6→v.kids.length≤v.names.length) (h0 : -4611686018427387904≤v.n) (h1:v.n≤4611686018427387904) (hp:(printJ v).length≤140737488355328) (h3:∀ x∈v.kids,Fit x):Fit v
def strsF (l:List (List UInt8)):Nat→Nat→Cell:=fun i _ => .str (l.getD i [])
theorem parts_succ (v:JV) (k:Nat):parts v (k+1)=parts v k++[partAt v k]:=by unfold parts;rw [List.range_succ,List.map_append];rfl
theorem strs_app {e:TypeId} {k:Nat} (l:List (List UInt8)) (x:List UInt8) (hk:k=l.length):BlkEqv (.row e 1 (k+1) (catF k (strsF l) (fun i j=>nthD [.str x] ((0+i)*1+j)))) (.row e 1 (k+1) (strsF (l++[x]))):=by
 refine BlkEqv.row_ext rfl fun i hi j hj => ?_
 subst hk
 unfold catF
 split
 ·rename_i h;simp only [strsF,List.getD,List.getElem?_append,h,if_true]
 ·obtain ⟨h1,rfl⟩:i=l.length∧j=0:=by omega
  subst h1
  rw [Nat.sub_self]
  simp only [strsF,List.getD,List.getElem?_append,Nat.lt_irrefl,if_false,Nat.sub_self]
  rfl
theorem parts_len (v:JV) (k:Nat):k=(parts v k).length:=by simp [parts]
theorem strs_sl {v:JV} {k m:Nat} (h:k=m):∀ i,i<k→∀ j,j<1→strsF (parts v k) (0+i) j=nthD [.str ((parts v m).getD i [])] j:=by
 intro i hi j hj
 obtain rfl:j=0:=by omega
 subst h
 rw [Nat.zero_add];rfl
def priInv (v:JV) (k:Nat):St:=⟨[(1,.v (.c (.ptr 0 0))),(3,.v (.c (.row 1 1 0 k))),(28,.v (.c (.sl 6 v.kids.length (kidC v.kids)))),(29,.v (.c (.int .i64 (v.kids.length:Int)))),(30,.v (.c (.int .i64 (k:Int))))],[(0,.box 53 (encJ v)),(1,.row 9 1 k (strsF (parts v k)))],16⟩
theorem prints_ok (gp:Nat) (hg:Tryz.prog.globalNamed "internal/strconv.uint64pow10" = some gp) (hG:G gp=some (Lib.pow10Tab.map fun z => .int .u64 z)) {v:JV} (hf:Fit v):Pur Tryz.prog G 199 [.agg (encJ v)] [.c (.str (printJ v))]:=by
 induction hf with
 | mk h2 h6 h0 h1 hp h3 ih =>
 rename_i v
 rw [printJ_eq] at hp ⊢
 refine zp Tryz.func199 ?_
 refine z0 [] [] ?_
 refine zc (v.kind==1) (fun h => ?_) (fun h => ?_)
 ·refine z0 [] [] ?_
  exact zS [.c (.str [110,117,108,108])] (by rw [if_pos h])
 rw [if_neg (by simp [h])] at hp
 have k1:=h
 refine z0 [] [] ?_
 refine zc (v.kind==2) (fun h => ?_) (fun h => ?_)
 ·refine z0 [(5,{cs:=[(2,pc (lib_FormatBool v.b))]})] [] ?_
  exact zS [.c (.str (Lib.formatBool v.b))] (by rw [if_neg (by simp [k1]),if_pos h])
 rw [if_neg (by simp [h])] at hp
 have k2:=h
 refine z0 [] [] ?_
 refine zc (v.kind==3) (fun h => ?_) (fun h => ?_)
 ·refine z0 [(7,{cs:=[(2,pc (lib_Itoa gp hg hG v.n oM oM))]})] [] ?_
  exact zS [.c (.str (Lib.itoa v.n))] (by rw [if_neg (by simp [k1]),if_neg (by simp [k2]),if_pos h])
 rw [if_neg (by simp [h])] at hp
 have k3:=h
 refine z0 [] [] ?_
 refine zc (v.kind==4) (fun h => ?_) (fun h => ?_)
 ·rw [if_pos h] at hp
  refine z0 [(9,{cs:=[(2,pc (quoted_ok v.s hp))]})] [] ?_
  exact zS [.c (.str (quotedT v.s))] (by rw [if_neg (by simp [k1]),if_neg (by simp [k2]),if_neg (by simp [k3]),if_pos h])
 rw [if_neg (by simp [h])] at hp
 have k4:=h
 refine z0 [] [] ?_
 refine Wp.loopK kR (priInv v) (fun k=>k≤v.kids.length) (fun k=>v.kids.length-k) 0 (Ent.trans (Ent.empT (t:=3) (sz:=1) (e:=9) (f:=strsF []) dC kR rfl) (Ent.of [(1,272)] kR kR kR trivial)) (Nat.zero_le _) ?_
 intro k L hk again
 refine z0 [] [] ?_
 refine zc (decide ((k:Int)<(v.kids.length:Int))) (fun h => ?_) (fun h => ?_)
 ·have hk':k<v.kids.length:=by simpa using h
  have hin:0≤(k:Int)∧(k:Int)<(v.kids.length:Int):=by omega
  have hm:v.kids.getD k .nil∈v.kids:=by simp [List.getD,hk']
  have hpart:(partAt v k).length+2≤140737488355328:=by
   have:=join_part [44] (x:=partAt v k) (xs:=parts v v.kids.length) (List.mem_map.2 ⟨k,by simpa using hk',rfl⟩)
   split at hp<;>simp only [List.length_append,List.length_cons,List.length_nil] at hp<;>omega
  refine zg [(13,{fm:=[(2,.agg (encJ (v.kids.getD k .nil)))]}),(14,{cs:=[(1,pc (ih _ hm))]})] [] [0≤(k:Int)∧(k:Int)<(v.kids.length:Int),EqvD (.agg [kidC v.kids k 0,kidC v.kids k 1,kidC v.kids k 2,kidC v.kids k 3,kidC v.kids k 4,kidC v.kids k 5]) (.agg (encJ (v.kids.getD k .nil)))] ⟨hin,kid_den hk'⟩ ?_
  refine zc (v.kind==6) (fun h => ?_) (fun h => ?_)
  ·have hp1:partAt v k=(quotedT (v.names.getD k [])++[58])++printJ (v.kids.getD k .nil):=by unfold partAt;rw [if_pos h]
   have hq:(quotedT (v.names.getD k [])).length≤140737488355328:=by rw [hp1] at hpart;simp only [List.length_append] at hpart;omega
   have hin2:0≤(k:Int)∧(k:Int)<(v.names.length:Int):=by have:=h6 (by simpa using h);omega
   have hb:BlkEqv (.row 9 1 (k+1) (catF k (strsF (parts v k)) (fun i j=>nthD [.str ((quotedT (v.names.getD k [])++[58])++printJ (v.kids.getD k .nil))] ((0+i)*1+j)))) (.row 9 1 (k+1) (strsF (parts v (k+1)))):=by
    rw [parts_succ,hp1];exact strs_app _ _ (parts_len v k)
   rw [hp1] at hpart
   simp only [List.length_append,List.length_cons,List.length_nil] at hpart
   refine zg [(16,{cs:=[(5,pc (quoted_ok (v.names.getD k []) hq))]}),(17,{bs:=[(3,.row 9 1 (k+1) (strsF (parts v (k+1))))]})] [] [0≤(k:Int)∧(k:Int)<(v.names.length:Int),(quotedT (v.names.getD k [])).length+1≤9223372036854775807,(quotedT (v.names.getD k [])++[58]).length+(printJ (v.kids.getD k .nil)).length≤9223372036854775807,(k+1)*16≤140737488355328,BlkEqv (.row 9 1 (k+1) (catF k (strsF (parts v k)) (fun i j=>nthD [.str ((quotedT (v.names.getD k [])++[58])++printJ (v.kids.getD k .nil))] ((0+i)*1+j)))) (.row 9 1 (k+1) (strsF (parts v (k+1)))),k≤k,1≤1,inR .i64 ((k:Int)+1)] ⟨hin2,by omega,by simp only [List.length_append,List.length_cons,List.length_nil];omega,by omega,hb,Nat.le_refl _,Nat.le_refl _,i6⟩ ?_
   exact za [(1,432)] (again _ (k+1) hk' (by show v.kids.length-(k+1)<v.kids.length-k;omega))
  ·have hp1:partAt v k=printJ (v.kids.getD k .nil):=by unfold partAt;rw [if_neg (by simp [h])]
   have hb:BlkEqv (.row 9 1 (k+1) (catF k (strsF (parts v k)) (fun i j=>nthD [.str (printJ (v.kids.getD k .nil))] ((0+i)*1+j)))) (.row 9 1 (k+1) (strsF (parts v (k+1)))):=by
    rw [parts_succ,hp1];exact strs_app _ _ (parts_len v k)
   refine zg [(17,{bs:=[(3,.row 9 1 (k+1) (strsF (parts v (k+1))))]})] [] [(k+1)*16≤140737488355328,BlkEqv (.row 9 1 (k+1) (catF k (strsF (parts v k)) (fun i j=>nthD [.str (printJ (v.kids.getD k .nil))] ((0+i)*1+j)))) (.row 9 1 (k+1) (strsF (parts v (k+1)))),k≤k,1≤1,inR .i64 ((k:Int)+1)] ⟨by omega,hb,Nat.le_refl _,Nat.le_refl _,i6⟩ ?_
   exact za [(1,272)] (again _ (k+1) hk' (by show v.kids.length-(k+1)<v.kids.length-k;omega))
 ·have hke:k=v.kids.length:=by simp at h;omega
  refine Wp.ent' kR (Ent.pubT (e:=9) (id:=1) (t:=3) (off:=0) (m:=k) (n:=k) (f:=strsF (parts v k)) (m':=(parts v v.kids.length).length) (f':=fun i j=>nthD [.str ((parts v v.kids.length).getD i [])] j) kR kR oM (by simp [parts,hke]) (strs_sl hke) rfl) ?_
  have hj:(Lib.join (parts v v.kids.length) [44]).length+2≤140737488355328:=by
   split at hp<;>simp only [List.length_append,List.length_cons,List.length_nil] at hp<;>omega
  have hj2:∀ c:UInt8,(c::Lib.join (parts v v.kids.length) [44]).length+1≤9223372036854775807:=fun c=>by simp only [List.length_cons];omega
  refine z0 [(19,{cs:=[(1,pc (lib_Join (parts v v.kids.length) [44] (by rw [← parts_len];omega) oM))]})] [] ?_
  refine zc (v.kind==6) (fun h => ?_) (fun h => ?_)
  ·refine zg [] [] [1+(Lib.join (parts v v.kids.length) [44]).length≤9223372036854775807,(123::Lib.join (parts v v.kids.length) [44]).length+1≤9223372036854775807] ⟨by omega,hj2 _⟩ ?_
   exact zS [.c (.str ((123::Lib.join (parts v v.kids.length) [44])++[125]))] (by rw [if_neg (by simp [k1]),if_neg (by simp [k2]),if_neg (by simp [k3]),if_neg (by simp [k4]),if_pos h])
  ·refine zg [] [] [1+(Lib.join (parts v v.kids.length) [44]).length≤9223372036854775807,(91::Lib.join (parts v v.kids.length) [44]).length+1≤9223372036854775807] ⟨by omega,hj2 _⟩ ?_
   exact zS [.c (.str ((91::Lib.join (parts v v.kids.length) [44])++[93]))] (by rw [if_neg (by simp [k1]),if_neg (by simp [k2]),if_neg (by simp [k3]),if_neg (by simp [k4]),if_neg (by simp [h])])
def printT (v:JV):List UInt8:=if mayJ v 0 then printJ v else []
theorem Print_ok (gp:Nat) (hg:Tryz.prog.globalNamed "internal/strconv.uint64pow10" = some gp) (hG:G gp=some (Lib.pow10Tab.map fun z => .int .u64 z)) {v:JV} (hs:Small v) (hf:mayJ v 0=true→Fit v):Pur Tryz.prog G 147 [.agg (encJ v)] [.c (.str (printT v))]:=by
 refine zp Tryz.func147 ?_
 refine z0 [(1,{cs:=[(1,pc (May_ok hs))]})] [] ?_
 refine zc (!(mayJ v 0)) (fun h => ?_) (fun h => ?_)
 ·refine z0 [] [] ?_
  exact zS [.c (.str [])] (by unfold printT;rw [if_neg (by simpa using h)])
 ·have hm:mayJ v 0=true:=by simpa using h
  refine z0 [(3,{cs:=[(1,pc (prints_ok gp hg hG (hf hm)))]})] [] ?_
  exact zS [.c (.str (printJ v))] (by unfold printT;rw [if_pos hm])
end Go.Proofs.Tw
end
section
open Go Go.Sv
namespace Go.Proofs.Tw
attribute [local irreducible] Wp FinQ resV Ent Pur Go.Sv.Fn Sat0
set_option maxRecDepth 100000
variable {G:Nat→Option (List Cell)} [Back G]
theorem wrap64 {n:Int} (h1 : -9223372036854775808≤n) (h2:n≤9223372036854775807):IntKind.i64.wrap n=n:=by
 simp [IntKind.wrap,IntKind.signed,IntKind.bits]
 omega
end Go.Proofs.Tw
end
section

end
section

end
section
open Go Go.Sv
namespace Go.Proofs.Tw
attribute [local irreducible] Wp FinQ resV Ent Pur Go.Sv.Fn Sat0
set_option maxRecDepth 100000
variable {G:Nat→Option (List Cell)} [Back G]
theorem dec_len (m:Nat):(Lib.decDigits m).length≤m+1:=by
 induction m using Nat.strongRecOn with
 | _ m ih =>
 rw [Lib.decDigits]
 split
 ·simp
 ·rename_i h
  have:=ih (m / 10) oM
  simp only [List.length_append,List.length_cons,List.length_nil];omega
theorem dec_len2 (m:Nat) (h:10≤m*10):(Lib.decDigits m).length≤m:=by
 rw [Lib.decDigits]
 split
 ·simp;omega
 ·have:=dec_len (m / 10)
  simp only [List.length_append,List.length_cons,List.length_nil];omega
theorem dig_nat (m:Nat):m<9223372036854775808→Pur Tryz.prog G 163 [.c (.int .i64 (m:Int))] [.c (.str (Lib.decDigits m))]:=by
 induction m using Nat.strongRecOn with
 | _ m ih =>
 intro hm
 refine zp Tryz.func163 ?_
 refine z0 [] [] ?_
 refine zc (decide ((m:Int)<0)) (fun h => ?_) (fun h => ?_)
 ·simp at h
  omega
 refine z0 [] [] ?_
 refine zc (decide ((m:Int)<10)) (fun h => ?_) (fun h => ?_)
 ·have h10:m<10:=by simp at h;omega
  have e1:IntKind.u8.wrap (48+(m:Int))=((UInt8.ofNat (48+m)).toNat:Int):=by rw [wrap8 oM oM,UInt8.toNat_ofNat',Nat.mod_eq_of_lt oM];omega
  have e2:byteL (rowB [UInt8.ofNat (48+m)]) 0 1=Lib.decDigits m:=by rw [byteL_B (n:=1) [UInt8.ofNat (48+m)] rfl,Lib.decDigits_one h10]
  refine zg [(4,{fm:=[(2,.c (.int .u8 ((UInt8.ofNat (48+m)).toNat:Int))),(4,.c (.str (Lib.decDigits m)))]})] [] [inR .i64 (48+(m:Int)),EqvI (.c (.int .u8 (IntKind.u8.wrap (48+(m:Int))))) (.c (.int .u8 ((UInt8.ofNat (48+m)).toNat:Int))),EqvD (.c (.int .u8 (IntKind.u8.wrap (48+(m:Int))))) (.c (.int .u8 ((UInt8.ofNat (48+m)).toNat:Int))),EqvI (.c (.str (byteL (rowB [UInt8.ofNat (48+m)]) 0 1))) (.c (.str (Lib.decDigits m))),EqvD (.c (.str (byteL (rowB [UInt8.ofNat (48+m)]) 0 1))) (.c (.str (Lib.decDigits m))),0+1≤1,areBytes (rowB [UInt8.ofNat (48+m)]) 0 1] ⟨i6,fun _ _=>trivial,by rw [e1];exact fun _ _ _ h=>h,fun _ _=>trivial,by rw [e2];exact fun _ _ _ h=>h,Nat.le_refl _,areBytes_B _ rfl⟩ ?_
  exact zr
 ·have h10:¬ m<10:=by simp at h;omega
  have hd:Lib.decDigits m=Lib.decDigits (m / 10)++[UInt8.ofNat (48+m%10)]:=by conv=>lhs;rw [Lib.decDigits,dif_neg h10]
  have hq:IntKind.i64.wrap ((m:Int).tdiv 10)=((m / 10:Nat):Int):=by
   rw [Int.tdiv_eq_ediv_of_nonneg oM,wrap64 (n:=(m:Int) / 10) oM oM];omega
  have hr:(m:Int).tmod 10=((m%10:Nat):Int):=by rw [Int.tmod_eq_emod_of_nonneg oM];omega
  have e1:IntKind.u8.wrap (48+(m:Int).tmod 10)=((UInt8.ofNat (48+m%10)).toNat:Int):=by rw [hr,wrap8 (n:=48+((m%10:Nat):Int)) oM oM,UInt8.toNat_ofNat',Nat.mod_eq_of_lt (a:=48+m%10) (b:=2^8) oM];omega
  have e2:byteL (rowB [UInt8.ofNat (48+m%10)]) 0 1=[UInt8.ofNat (48+m%10)]:=byteL_B _ rfl
  have hlen:(Lib.decDigits (m / 10)).length≤m / 10+1:=dec_len _
  have hle:(Lib.decDigits (m / 10)).length+1≤9223372036854775807:=by omega
  refine zg [(5,{fm:=[(1,.c (.int .i64 ((m / 10:Nat):Int))),(6,.c (.int .u8 ((UInt8.ofNat (48+m%10)).toNat:Int))),(8,.c (.str [UInt8.ofNat (48+m%10)]))],cs:=[(2,pc (ih (m / 10) oM oM))]})] [] [EqvI (.c (.int .i64 (IntKind.i64.wrap ((m:Int).tdiv 10)))) (.c (.int .i64 ((m / 10:Nat):Int))),EqvD (.c (.int .i64 (IntKind.i64.wrap ((m:Int).tdiv 10)))) (.c (.int .i64 ((m / 10:Nat):Int))),(10:Int)≠0,(10:Int)≠0,inR .i64 (48+(m:Int).tmod 10),EqvI (.c (.int .u8 (IntKind.u8.wrap (48+(m:Int).tmod 10)))) (.c (.int .u8 ((UInt8.ofNat (48+m%10)).toNat:Int))),EqvD (.c (.int .u8 (IntKind.u8.wrap (48+(m:Int).tmod 10)))) (.c (.int .u8 ((UInt8.ofNat (48+m%10)).toNat:Int))),EqvI (.c (.str (byteL (rowB [UInt8.ofNat (48+m%10)]) 0 1))) (.c (.str [UInt8.ofNat (48+m%10)])),EqvD (.c (.str (byteL (rowB [UInt8.ofNat (48+m%10)]) 0 1))) (.c (.str [UInt8.ofNat (48+m%10)])),0+1≤1,areBytes (rowB [UInt8.ofNat (48+m%10)]) 0 1,(Lib.decDigits (m / 10)).length+1≤9223372036854775807] ⟨fun _ _=>trivial,by rw [hq];exact fun _ _ _ h=>h,by decide,by decide,by rw [hr];exact i6,fun _ _=>trivial,by rw [e1];exact fun _ _ _ h=>h,fun _ _=>trivial,by rw [e2];exact fun _ _ _ h=>h,Nat.le_refl _,areBytes_B _ rfl,hle⟩ ?_
  exact zS [.c (.str (Lib.decDigits (m / 10)++[UInt8.ofNat (48+m%10)]))] (by rw [hd])
theorem digits_ok (n:Int) (h0 : -4611686018427387904≤n) (h1:n≤4611686018427387904):Pur Tryz.prog G 163 [.c (.int .i64 n)] [.c (.str (Lib.itoa n))]:=by
 by_cases hn:n<0
 ·have hm:=dig_nat (G:=G) n.natAbs oM
  rw [show ((n.natAbs:Nat):Int)=0-n from by omega] at hm
  have hl:=dec_len n.natAbs
  refine zp Tryz.func163 ?_
  refine z0 [] [] ?_
  refine zc (decide (n<0)) (fun h => ?_) (fun h => ?_)
  ·have hl2:1+(Lib.decDigits n.natAbs).length≤9223372036854775807:=by have:=dec_len2 n.natAbs oM;omega
   refine zg [(2,{cs:=[(2,pc hm)]})] [] [inR .i64 (0-n),1+(Lib.decDigits n.natAbs).length≤9223372036854775807] ⟨i6,hl2⟩ ?_
   exact zS [.c (.str (45::Lib.decDigits n.natAbs))] (by unfold Lib.itoa;rw [if_pos hn])
  ·simp at h;omega
 ·have hm:=dig_nat (G:=G) n.toNat oM
  rw [show ((n.toNat:Nat):Int)=n from by omega] at hm
  rw [show Lib.itoa n=Lib.decDigits n.toNat from by unfold Lib.itoa;rw [if_neg hn]]
  exact hm
end Go.Proofs.Tw
end
section
open Go Go.Sv
namespace Go.Proofs.Tw
attribute [local irreducible] Wp FinQ resV Ent Pur Go.Sv.Fn Sat0
set_option maxRecDepth 100000
variable {G:Nat→Option (List Cell)} [Back G]
def CEq (x y:Cell):Prop:=∀ D ρ u,Den D ρ x u→Den D ρ y u
theorem CEq.rfl' {x:Cell}:CEq x x:=fun _ _ _ h=>h
theorem CEq.nil {sz:Nat} {f:Nat→Nat→Cell}:CEq .nilsl (.sl sz 0 f):=by
 intro D ρ u h
 have h:u = .slice none 0 0:=h
 subst h
 exact ⟨none,0,rfl,Nat.le_refl _,by unfold maxLen;omega,.inl rfl⟩
inductive CEqs:List Cell→List Cell→Prop
 | nil:CEqs [] []
 | cons {x y:Cell} {l l':List Cell} (h:CEq x y) (t:CEqs l l'):CEqs (x::l) (y::l')
theorem CEqs.len {l l':List Cell} (h:CEqs l l'):l.length=l'.length:=by
 induction h with
 | nil=>rfl
 | cons _ _ ih=>simp [ih]
theorem agg_eqv {l l':List Cell} (h:CEqs l l'):EqvD (.agg l) (.agg l'):=by
 intro D ρ u hd
 obtain ⟨us,e,hs,hx⟩:=hd
 have hl:=h.len
 refine ⟨us,e,by rw [hs,hl],fun j y hj => ?_⟩
 have:∀ (l l':List Cell),CEqs l l'→∀ (j:Nat) (y:Cell),l'[j]?=some y→∃ x,l[j]?=some x∧CEq x y:=by
  intro l l' h
  induction h with
  | nil=>intro j y hj; simp at hj
  | cons h1 h2 ih =>
   intro j y hj
   cases j with
   | zero=>simp at hj; subst hj; exact ⟨_,by simp,h1⟩
   | succ j=>simp at hj; obtain ⟨x,hx,hc⟩:=ih j y hj; exact ⟨x,by simpa using hx,hc⟩
 obtain ⟨x,hxl,hc⟩:=this l l' h j y hj
 obtain ⟨v,hv,hd⟩:=hx j x hxl
 exact ⟨v,hv,hc _ _ _ hd⟩
theorem EqvI.flatA {v:V1} {l:List Cell} (h:flats l=true):EqvI v (.agg l):=fun S _=>flats_inS h S
structure FT where (name value:List UInt8)
def FT.nil:FT:=⟨[],[]⟩
def encF (x:FT):List Cell:=[.str x.name,.str x.value]
def encH (l:List FT):Cell := .sl 2 l.length (fun i j=>nthD (encF (l.getD i .nil)) j)
structure RT where
 (status:Int) (head:List FT) (body:List UInt8)
def encT (r:RT):List Cell:=[.int .i64 r.status,encH r.head,.str r.body]
def rowsL:List (Int×List UInt8×Int):=[
 (9,[105,110,118,97,108,105,100,95,99,108,105,101,110,116],401),(11,[117,110,115,117,112,112,111,114,116,101,100,95,114,101,115,112,111,110,115,101,95,116,121,112,101],400),(12,[105,110,118,97,108,105,100,95,115,99,111,112,101],400),(13,[105,110,118,97,108,105,100,95,103,114,97,110,116],400),(19,[117,110,115,117,112,112,111,114,116,101,100,95,103,114,97,110,116,95,116,121,112,101],400),(14,[108,111,103,105,110,95,114,101,113,117,105,114,101,100],401),
 (15,[97,99,99,101,115,115,95,100,101,110,105,101,100],403),(18,[110,111,116,95,102,111,117,110,100],404),(17,[109,101,116,104,111,100,95,110,111,116,95,97,108,108,111,119,101,100],405),(4,[116,111,111,95,108,97,114,103,101],413),(16,[116,101,109,112,111,114,97,114,105,108,121,95,117,110,97,118,97,105,108,97,98,108,101],503)]
def rowNil:Int×List UInt8×Int:=(0,[],0)
def encR (r:Int×List UInt8×Int):List Cell:=[.int .i64 r.1,.str r.2.1,.int .i64 r.2.2]
def rowsC:List Cell:=rowsL.flatMap encR
def ofT (e:Int):Int×List UInt8×Int:=match rowsL.find? (fun r=>r.1==e) with
 | some r=>r
 | none=>(e,[105,110,118,97,108,105,100,95,114,101,113,117,101,115,116],400)
theorem row_at:∀ k:Nat,k<11→[nthD rowsC (k*3),nthD rowsC (k*3+1),nthD rowsC (k*3+2)]=encR (rowsL.getD k rowNil):=by
 intro k hk
 obtain rfl | rfl | rfl | rfl | rfl | rfl | rfl | rfl | rfl | rfl | rfl:k=0∨k=1∨k=2∨k=3∨k=4∨k=5∨k=6∨k=7∨k=8∨k=9∨k=10:=by omega
 all_goals rfl
theorem of_some {e:Int} {k:Nat} (hk:k<11) (hall:∀ i,i<k→((rowsL.getD i rowNil).1==e)=false) (h:((rowsL.getD k rowNil).1==e)=true):ofT e=rowsL.getD k rowNil:=by
 unfold ofT
 have:rowsL.find? (fun r=>r.1==e)=some (rowsL.getD k rowNil):=by
  rw [List.find?_eq_some_iff_getElem]
  refine ⟨h,k,hk,by rw [List.getD,List.getElem?_eq_getElem (show k<rowsL.length from hk)];rfl,fun j hj => ?_⟩
  have:=hall j hj
  simpa [List.getD,show j<rowsL.length from Nat.lt_trans hj hk] using this
 rw [this]
theorem of_none {e:Int} (hall:∀ i,i<11→((rowsL.getD i rowNil).1==e)=false):ofT e=(e,[105,110,118,97,108,105,100,95,114,101,113,117,101,115,116],400):=by
 unfold ofT
 have:rowsL.find? (fun r=>r.1==e)=none:=by
  rw [List.find?_eq_none]
  intro x hx
  obtain ⟨i,hi,rfl⟩:=List.getElem_of_mem hx
  have:=hall i hi
  simpa [List.getD,hi] using this
 rw [this]
def Gd:Nat→Option (List Cell)
 | 0=>some rowsC
 | 5=>some (Lib.pow10Tab.map fun z => .int .u64 z)
 | _=>none
instance back_Gd:Back Gd:=⟨fun h=>by cases h⟩
def ofInv (e:Int) (k:Nat):St:=⟨[(0,.v (.c (.int .i64 e))),(2,.v (.c (.ptr 0 0))),(5,.v (.agg rowsC)),(6,.v (.c (.int .i64 (k:Int))))],[(0,.box 209 [.int .i64 0,.str [],.int .i64 0])],16⟩
theorem of_ok (e:Int):Pur Tryz.prog Gd 174 [.c (.int .i64 e)] [.agg (encR (ofT e))]:=by
 refine zp Tryz.func174 ?_
 refine z0 [] [] ?_
 refine zl (ofInv e) (fun k=>k≤11∧∀ i,i<k→((rowsL.getD i rowNil).1==e)=false) (fun k=>11-k) 0 ⟨Nat.zero_le _,fun i hi=>absurd hi (Nat.not_lt_zero i)⟩ ?_
 rintro k L ⟨hk,hall⟩ again
 refine z0 [] [] ?_
 refine zc (decide ((k:Int)<11)) (fun h => ?_) (fun h => ?_)
 ·have hk':k<11:=by simp at h;omega
  have hin:0≤(k:Int)∧(k:Int)<((11:Nat):Int):=by omega
  refine zg [(3,{fm:=[(0,.agg (encR (rowsL.getD k rowNil)))]})] [] [EqvI (.agg [nthD rowsC (k*3),nthD rowsC (k*3+1),nthD rowsC (k*3+2)]) (.agg (encR (rowsL.getD k rowNil))),EqvD (.agg [nthD rowsC (k*3),nthD rowsC (k*3+1),nthD rowsC (k*3+2)]) (.agg (encR (rowsL.getD k rowNil))),0≤(k:Int)∧(k:Int)<((11:Nat):Int)] ⟨EqvI.flatA rfl,by rw [row_at k hk'];exact fun _ _ _ h=>h,hin⟩ ?_
  refine zc ((rowsL.getD k rowNil).1==e) (fun h => ?_) (fun h => ?_)
  ·rw [of_some hk' hall h]
   refine z0 [] [] ?_
   exact zr
  ·refine zg [] [] [inR .i64 ((k:Int)+1)] (i6) ?_
   exact za [] (again _ (k+1) ⟨hk',up1 hall h⟩ (by show 11-(k+1)<11-k;omega))
 ·rw [of_none (fun i hi=>hall i (by simp at h;omega))]
  refine z0 [] [] ?_
  exact zr
def wordT (e:Int):List UInt8:=(ofT e).2.1
def statT (e:Int):Int:=(ofT e).2.2
theorem Word_ok (e:Int):Pur Tryz.prog Gd 127 [.c (.int .i64 e)] [.c (.str (wordT e))]:=by
 refine zp Tryz.func127 ?_
 refine z0 [(1,{cs:=[(1,pc (of_ok e))]})] [] ?_
 exact zr
theorem Status_ok (e:Int):Pur Tryz.prog Gd 128 [.c (.int .i64 e)] [.c (.int .i64 (statT e))]:=by
 refine zp Tryz.func128 ?_
 refine z0 [(1,{cs:=[(1,pc (of_ok e))]})] [] ?_
 exact zr
theorem of_hit:∀ k:Nat,k<11→ofT (rowsL.getD k rowNil).1=rowsL.getD k rowNil:=by decide
theorem of_miss {e:Int} (h:∀ k:Nat,k<11→(e==(rowsL.getD k rowNil).1)=false):ofT e=(e,[105,110,118,97,108,105,100,95,114,101,113,117,101,115,116],400):=of_none fun i hi=>by
 have:=h i hi
 rw [beq_eq_false_iff_ne] at this ⊢
 exact fun e=>this e.symm
def textJ (s:List UInt8):JV := .mk 4 false 0 s [] []
def objJ (ns:List (List UInt8)) (ks:List JV):JV := .mk 6 false 0 [] ns ks
def rawText (s:List UInt8):List Cell:=[.int .i64 4,.bool false,.int .i64 0,.str s,.nilsl,.nilsl]
theorem text_eqv (s:List UInt8):EqvD (.agg (rawText s)) (.agg (encJ (textJ s))):=agg_eqv (.cons CEq.rfl' (.cons CEq.rfl' (.cons CEq.rfl' (.cons CEq.rfl' (.cons CEq.nil (.cons CEq.nil .nil))))))
theorem text_ok (s:List UInt8):Pur Tryz.prog G 126 [.c (.str s)] [.agg (encJ (textJ s))]:=by
 refine zp Tryz.func126 ?_
 refine zg [(1,{fm:=[(1,.agg (encJ (textJ s)))]})] [] [EqvI (.agg (rawText s)) (.agg (encJ (textJ s))),EqvD (.agg (rawText s)) (.agg (encJ (textJ s)))] ⟨EqvI.flatA rfl,text_eqv s⟩ ?_
 exact zr
theorem kept_ok:Pur Tryz.prog G 146 [] [.agg (encF ⟨[99,97,99,104,101,45,99,111,110,116,114,111,108],[110,111,45,115,116,111,114,101]⟩)]:=by
 refine zp Tryz.func146 ?_
 refine z0 [] [] ?_
 exact zr
def jsonH:List FT:=[⟨[99,111,110,116,101,110,116,45,116,121,112,101],[97,112,112,108,105,99,97,116,105,111,110,47,106,115,111,110]⟩,⟨[99,97,99,104,101,45,99,111,110,116,114,111,108],[110,111,45,115,116,111,114,101]⟩]
def jsonT (v:JV):RT:=⟨200,jsonH,printT v⟩
theorem flat_get {α:Type} (enc:α→List Cell) (d:α) {sz:Nat} (hs:∀ x,(enc x).length=sz):∀ (l:List α) (i:Nat),i<l.length→∀ j,j<sz→nthD (l.flatMap enc) (i*sz+j)=nthD (enc (l.getD i d)) j
 | [],i,h,_,_=>by simp at h
 | x::r,0,_,j,hj=>by
  simp only [nthD,nth_eq,List.flatMap_cons,Nat.zero_mul,Nat.zero_add]
  rw [List.getElem?_append_left (by rw [hs];exact hj)];rfl
 | x::r,i+1,h,j,hj=>by
  have ih:=flat_get enc d hs r i (by simpa using h) j hj
  simp only [nthD,nth_eq,List.flatMap_cons] at ih ⊢
  rw [List.getElem?_append_right (by rw [hs,Nat.add_mul];omega),hs,show (i+1)*sz+j-sz=i*sz+j from by rw [Nat.add_mul];omega]
  exact ih
theorem Json_ok {v:JV} (hs:Small v) (hf:mayJ v 0=true→Fit v):Pur Tryz.prog Gd 86 [.agg (encJ v)] [.agg (encT (jsonT v))]:=by
 refine zp Tryz.func86 ?_
 refine zg [(1,{fm:=[(2,.c (encH jsonH))],cs:=[(1,pc kept_ok),(4,pc (Print_ok (G:=Gd) 5 kR rfl hs hf))]})] [] [EqvI (.c (.sl 2 2 (fun i j=>nthD (jsonH.flatMap encF) (i*2+j)))) (.c (encH jsonH)),EqvD (.c (.sl 2 2 (fun i j=>nthD (jsonH.flatMap encF) (i*2+j)))) (.c (encH jsonH))] ⟨fun _ _=>trivial,EqvD.sl rfl (fun i hi j hj=>flat_get encF .nil (fun _=>rfl) jsonH i hi j hj)⟩ ?_
 exact zr
def errJ (w:List UInt8):JV:=objJ [[101,114,114,111,114]] [textJ w]
def failT (e:Int):RT:=⟨statT e,jsonH,printT (errJ (wordT e))⟩
theorem strs_new (l:List (List UInt8)):EqvD (.c (.sl 1 l.length (fun i j=>nthD (l.map Cell.str) (i*1+j)))) (.c (encS l)):=by
 refine EqvD.sl rfl fun i hi j hj => ?_
 obtain rfl:j=0:=by omega
 show nthD (l.map Cell.str) (i*1+0)=nthD [.str (l.getD i [])] 0
 rw [show i*1+0=i from by omega]
 simp [nthD,nth_eq,List.getD,hi]
theorem kids_new (ks:List JV):EqvD (.c (.sl 6 ks.length (fun i j=>nthD (ks.flatMap encJ) (i*6+j)))) (.c (.sl 6 ks.length (kidC ks))):=by
 refine EqvD.sl rfl fun i hi j hj => ?_
 rw [flat_get encJ .nil (fun _=>rfl) ks i hi j hj]
 unfold kidC
 rw [cellsL_eq ks i hi]
theorem word_short (e:Int):(wordT e).length≤30:=by
 unfold wordT
 by_cases q:∃ k,k<11∧e=(rowsL.getD k rowNil).1
 ·obtain ⟨k,hk,rfl⟩:=q
  rw [of_hit k hk]
  have:∀ k:Nat,k<11→(rowsL.getD k rowNil).2.1.length≤30:=by decide
  exact this k hk
 ·rw [of_miss (fun k hk=>by rw [beq_eq_false_iff_ne];exact fun h=>q ⟨k,hk,h⟩)]
  show List.length _≤30
  simp
theorem quoted_len (s:List UInt8):(quotedT s).length≤6*s.length+2:=by
 unfold quotedT
 have:(s.flatMap qByte).length≤6*s.length:=by
  induction s with
  | nil=>simp
  | cons c r ih =>
   have:(qByte c).length≤6:=by unfold qByte;split<;>(try split)<;>simp
   simp only [List.flatMap_cons,List.length_append,List.length_cons];omega
 simp only [List.length_cons,List.length_append,List.length_nil];omega
theorem text_print (w:List UInt8):printJ (textJ w)=quotedT w:=by rw [printJ_eq];rfl
theorem err_print (w:List UInt8):printJ (errJ w)=(123::((quotedT [101,114,114,111,114]++[58])++quotedT w))++[125]:=by
 rw [printJ_eq]
 show (123::Lib.join (parts (errJ w) 1) [44])++[125]=_
 have:parts (errJ w) 1=[(quotedT [101,114,114,111,114]++[58])++quotedT w]:=by
  show [partAt (errJ w) 0]=_
  unfold partAt
  rw [if_pos (by rfl)]
  show [(quotedT [101,114,114,111,114]++[58])++printJ (textJ w)]=_
  rw [text_print]
 rw [this,Lib.join_one]
theorem text_small (w:List UInt8):Small (textJ w) := .mk (by show 0<_;omega) (by show 0<_;omega) (by intro x hx;cases hx)
theorem err_small (w:List UInt8):Small (errJ w) := .mk (by show 1<_;omega) (by show 1<_;omega) (by intro x hx;rcases List.mem_singleton.1 hx with rfl;exact text_small w)
theorem text_fit (w:List UInt8) (hw:w.length≤1000000):Fit (textJ w) := .mk (by show 0≤_;omega) (by intro h;have h:(4:Int)=6:=h;omega) (by show _≤(0:Int);omega) (by show (0:Int)≤_;omega) (by rw [text_print];have:=quoted_len w;omega) (by intro x hx;cases hx)
theorem err_fit (w:List UInt8) (hw:w.length≤1000000):Fit (errJ w):=by
 have h1:=quoted_len w
 have h2:(quotedT [101,114,114,111,114]).length=7:=by decide
 refine .mk (by show 1≤_;omega) (by intro h;show 1≤1;omega) (by show _≤(0:Int);omega) (by show (0:Int)≤_;omega) ?_ (by intro x hx;rcases List.mem_singleton.1 hx with rfl;exact text_fit w hw)
 rw [err_print]
 simp only [List.length_append,List.length_cons,List.length_nil,h2];omega
theorem Fail_ok (e:Int):Pur Tryz.prog Gd 78 [.c (.int .i64 e)] [.agg (encT (failT e))]:=by
 have hw:=word_short e
 refine zp Tryz.func78 ?_
 refine zg [(1,{fm:=[(0,.c (encS [[101,114,114,111,114]])),(4,.c (.sl 6 1 (kidC [textJ (wordT e)])))],cs:=[(2,pc (Word_ok e)),(3,pc (text_ok (wordT e))),(6,pc (Json_ok (err_small (wordT e)) (fun _=>err_fit _ oM)))]}),(2,{cs:=[(1,pc (Status_ok e))]})] [] [EqvI (.c (.sl 1 1 (fun i j=>nthD ([[101,114,114,111,114]].map .str) (i*1+j)))) (.c (encS [[101,114,114,111,114]])),EqvD (.c (.sl 1 1 (fun i j=>nthD ([[101,114,114,111,114]].map .str) (i*1+j)))) (.c (encS [[101,114,114,111,114]])),EqvI (.c (.sl 6 1 (fun i j=>nthD ([textJ (wordT e)].flatMap encJ) (i*6+j)))) (.c (.sl 6 1 (kidC [textJ (wordT e)]))),EqvD (.c (.sl 6 1 (fun i j=>nthD ([textJ (wordT e)].flatMap encJ) (i*6+j)))) (.c (.sl 6 1 (kidC [textJ (wordT e)])))] ⟨fun _ _=>trivial,strs_new [[101,114,114,111,114]],fun _ _=>trivial,kids_new [textJ (wordT e)]⟩ ?_
 exact zr
end Go.Proofs.Tw
end
section

end
section
open Go Go.Sv Go.RowKit
namespace Go.Proofs.Tw
attribute [local irreducible] Wp FinQ resV Ent Pur Go.Sv.Fn Sat0
set_option maxRecDepth 100000
set_option maxHeartbeats 4000000
variable {G:Nat→Option (List Cell)} [Back G]
theorem byte_all (p:UInt8→Bool) (h:(List.range 256).all (fun n=>p (UInt8.ofNat n))=true) (c:UInt8):p c=true:=by
 have:=List.all_eq_true.1 h c.toNat (List.mem_range.2 (UInt8.toNat_lt c))
 rwa [UInt8.ofNat_toNat] at this
theorem by_all (p q:UInt8→Bool) (h:(List.range 256).all (fun n=>p (UInt8.ofNat n)==q (UInt8.ofNat n))=true):∀ c:UInt8,[V1.c (Cell.bool (p c))]=[V1.c (Cell.bool (q c))]:=by
 intro c
 have h':p c=q c:=eq_of_beq (byte_all (fun c=>p c==q c) h c)
 rw [h']
theorem by_fun (p q:UInt8→Bool) (h:(List.range 256).all (fun n=>p (UInt8.ofNat n)==q (UInt8.ofNat n))=true) (c:UInt8):p c=q c :=
 eq_of_beq (byte_all (fun c=>p c==q c) h c)
theorem by_b {a b:Bool} (h:a=b):[V1.c (Cell.bool a)]=[V1.c (Cell.bool b)]:=by rw [h]
def greatB (c:UInt8):Bool:=65≤c&&c≤90
def smallB (c:UInt8):Bool:=97≤c&&c≤122
def digitB (c:UInt8):Bool:=48≤c&&c≤57
def letterB (c:UInt8):Bool:=greatB c||smallB c
def plainB (c:UInt8):Bool:=letterB c||digitB c||[45,46,95,126].contains c
def tokenB (c:UInt8):Bool:=letterB c||digitB c||[33,35,36,37,38,39,42,43,45,46,94,95,124,126,96].contains c
def seenB (c:UInt8):Bool:=32≤c&&c≤126
theorem great_ok (c:UInt8):Pur Tryz.prog G 245 [.c (.int .u8 (c.toNat:Int))] [.c (.bool (greatB c))]:=by
 refine zp Tryz.func245 ?_
 refine z0 [] [] ?_
 exact zS [.c (.bool (bif decide ((↑c.toNat:Int)≥(65:Int)) then decide ((↑c.toNat:Int)≤(90:Int)) else false))] (by revert c;refine by_all _ _ ?_;kernel_rfl)
theorem small_ok (c:UInt8):Pur Tryz.prog G 262 [.c (.int .u8 (c.toNat:Int))] [.c (.bool (smallB c))]:=by
 refine zp Tryz.func262 ?_
 refine z0 [] [] ?_
 exact zS [.c (.bool (bif decide ((↑c.toNat:Int)≥(97:Int)) then decide ((↑c.toNat:Int)≤(122:Int)) else false))] (by revert c;refine by_all _ _ ?_;kernel_rfl)
theorem digit_ok (c:UInt8):Pur Tryz.prog G 184 [.c (.int .u8 (c.toNat:Int))] [.c (.bool (digitB c))]:=by
 refine zp Tryz.func184 ?_
 refine z0 [] [] ?_
 exact zS [.c (.bool (bif decide ((↑c.toNat:Int)≥(48:Int)) then decide ((↑c.toNat:Int)≤(57:Int)) else false))] (by revert c;refine by_all _ _ ?_;kernel_rfl)
theorem digit6_ok (c:UInt8):Pur Tryz.prog G 119 [.c (.int .u8 (c.toNat:Int))] [.c (.bool (digitB c))]:=by
 refine zp Tryz.func119 ?_
 refine z0 [] [] ?_
 exact zS [.c (.bool (bif decide ((↑c.toNat:Int)≥(48:Int)) then decide ((↑c.toNat:Int)≤(57:Int)) else false))] (by revert c;refine by_all _ _ ?_;kernel_rfl)
theorem letter6_ok (c:UInt8):Pur Tryz.prog G 164 [.c (.int .u8 (c.toNat:Int))] [.c (.bool (letterB c))]:=by
 refine zp Tryz.func164 ?_
 refine z0 [] [] ?_
 exact zS [.c (.bool (bif bif decide ((↑c.toNat:Int)≥(65:Int)) then decide ((↑c.toNat:Int)≤(90:Int)) else false then true else bif decide ((↑c.toNat:Int)≥(97:Int)) then decide ((↑c.toNat:Int)≤(122:Int)) else false))] (by revert c;refine by_all _ _ ?_;kernel_rfl)
theorem seen1_ok (c:UInt8):Pur Tryz.prog G 185 [.c (.int .u8 (c.toNat:Int))] [.c (.bool (seenB c))]:=by
 refine zp Tryz.func185 ?_
 refine z0 [] [] ?_
 exact zS [.c (.bool (bif decide ((↑c.toNat:Int)≥(32:Int)) then decide ((↑c.toNat:Int)≤(126:Int)) else false))] (by revert c;refine by_all _ _ ?_;kernel_rfl)
theorem lib_IndexByte {G:Nat→Option (List Cell)} [Back G] (s:List UInt8) (c:UInt8):Pur Tryz.prog G 188 [.c (.str s),.c (.int .u8 (c.toNat:Int))] [.c (.int .i64 (Lib.indexByte s c))]:=by
 refine Pur.of_below rfl ?_
 intro D ρ w vs h1 _ _ _
 obtain ⟨u,v,rfl,hu,hv⟩:=h1.two
 have hu:u = .string ⟨s.toArray⟩:=hu
 have hv:v = .int .u8 (c.toNat:Int):=hv
 subst hu hv
 refine (Go.Proofs.Tryz.strings_IndexByte ⟨s.toArray⟩ (c.toNat:Int) w).mono ?_
 rintro e w' ⟨rfl,rfl⟩
 exact ⟨_,rfl,by simp [ResDen,DenV,Den],BelowD.refl _ _⟩
theorem token1_ok (c:UInt8):Pur Tryz.prog G 261 [.c (.int .u8 (c.toNat:Int))] [.c (.bool (tokenB c))]:=by
 refine zp Tryz.func261 ?_
 refine z0 [(1,{cs:=[(1,pc (great_ok c)),(4,pc (small_ok c)),(8,pc (digit_ok c)),(12,pc (lib_IndexByte [(33:UInt8),35,36,37,38,39,42,43,45,46,94,95,124,126,96] c))]})] [] ?_
 exact zS [.c (.bool (bif bif bif greatB c then true else smallB c then true else digitB c then true else decide (Lib.indexByte [(33:UInt8),35,36,37,38,39,42,43,45,46,94,95,124,126,96] c≥(0:Int))))] (by revert c;refine by_all _ _ ?_;kernel_rfl)
theorem ibeq (a b:UInt8):((a.toNat:Int)==(b.toNat:Int))=(a==b):=by
 rw [Bool.eq_iff_iff,beq_iff_eq,beq_iff_eq,Int.ofNat_inj,UInt8.toNat_inj]
theorem dropS (l:List UInt8) (k:Nat) (h:k<l.length):l.drop k=l.getD k 0::l.drop (k+1):=by
 rw [List.getD_eq_getElem?_getD,List.getElem?_eq_getElem h];exact List.drop_eq_getElem_cons h
theorem in6_ok (c:UInt8) (s:List UInt8) (hl:s.length<4611686018427387904):Pur Tryz.prog G 121 [.c (.int .u8 (c.toNat:Int)),.c (.str s)] [.c (.bool (s.contains c))]:=by
 refine zp Tryz.func121 ?_
 refine z0 [] [] ?_
 refine zl (fun (k:Nat)=>⟨[(0,.v (.c (.int .u8 (↑c.toNat:Int)))),(1,.v (.c (.str s))),(5,.v (.c (.int .i64 (k:Int))))],[],32⟩) (fun k=>k≤s.length∧s.contains c=(s.drop k).contains c) (fun k=>s.length-k) 0 ⟨Nat.zero_le _,rfl⟩ ?_
 intro k L ⟨hk,hq⟩ again
 rcases Nat.lt_or_ge k s.length with hlt | hge
 ·rw [dropS s k hlt,List.contains_cons] at hq
  refine zg [] [true] [decide ((k:Int)<(s.length:Int))=true,(0:Int)≤(k:Int)∧(k:Int)<(s.length:Int)] ⟨sO,(show (0:Int)≤(↑k:Int)∧(↑k:Int)<(↑s.length:Int) from oM)⟩ ?_
  refine zc ((↑(s.getD k (0:UInt8)).toNat:Int)==(↑c.toNat:Int)) (fun h0 => ?_) (fun h0 => ?_)
  ·have g0:=eq_of_beq h0
   refine z0 [] [] ?_
   exact zS [.c (.bool true)] (by rw [ibeq] at h0;rw [hq,eq_of_beq h0];simp)
  ·have g0:=ne_of_beq_false h0
   refine zg [] [] [inR .i64 ((k:Int)+1)] (i6) ?_
   exact za [] (again _ (k+1) ⟨hlt,(by rw [ibeq] at h0;rw [hq,show (c==s.getD k 0)=false from by rw [beq_eq_false_iff_ne] at h0 ⊢;exact fun e=>h0 e.symm];rfl)⟩ oM)
 ·obtain rfl:k=s.length:=by omega
  rw [List.drop_length] at hq
  refine zg [] [false] [decide ((s.length:Int)<(s.length:Int))=false] ((show decide ((↑s.length:Int)<(↑s.length:Int))=false from (by simp;done))) ?_
  exact zS [.c (.bool false)] (by simp_all;done)
theorem All_great (s:List UInt8) (hl:s.length<4611686018427387904):Pur Tryz.prog G 183 [.c (.str s),.c (.clo 245 0 (fun _=>none) (fun _ _ => .nilif))] [.c (.bool (s.all greatB))]:=by
 refine zp Tryz.func183 ?_
 refine z0 [] [] ?_
 refine zl (fun (k:Nat)=>⟨[(0,.v (.c (.str s))),(1,.v (.c (.clo 245 (0:Nat) (fun _=>none) fun _ _ => .nilif))),(7,.v (.c (.int .i64 (↑s.length:Int)))),(8,.v (.c (.int .i64 (k:Int))))],[],32⟩) (fun k=>k≤s.length∧s.all greatB=(s.drop k).all greatB) (fun k=>s.length-k) 0 ⟨Nat.zero_le _,rfl⟩ ?_
 intro k L ⟨hk,hq⟩ again
 rcases Nat.lt_or_ge k s.length with hlt | hge
 ·rw [dropS s k hlt,List.all_cons] at hq
  refine zg [(4,{cs:=[(4,pc (great_ok (s.getD k (0:UInt8))))]})] [true] [decide ((k:Int)<(s.length:Int))=true,(0:Int)≤(k:Int)∧(k:Int)<(s.length:Int)] ⟨sO,(show (0:Int)≤(↑k:Int)∧(↑k:Int)<(↑s.length:Int) from oM)⟩ ?_
  refine zc (!greatB (s.getD k (0:UInt8))) (fun h0 => ?_) (fun h0 => ?_)
  ·have g0:=h0
   simp at g0
   refine z0 [] [] ?_
   exact zS [.c (.bool false)] (by simp_all;done)
  ·have g0:=h0
   simp at g0
   refine zg [] [] [inR .i64 ((k:Int)+1)] (i6) ?_
   exact za [] (again _ (k+1) (⟨aS,(by simp_all<;>omega)⟩) oM)
 ·obtain rfl:k=s.length:=by omega
  rw [List.drop_length] at hq
  refine zg [] [false] [decide ((s.length:Int)<(s.length:Int))=false] ((show decide ((↑s.length:Int)<(↑s.length:Int))=false from (by simp;done))) ?_
  exact zS [.c (.bool true)] (by simp [*];done)
theorem All_tok (s:List UInt8) (hl:s.length<4611686018427387904):Pur Tryz.prog G 183 [.c (.str s),.c (.clo 261 0 (fun _=>none) (fun _ _ => .nilif))] [.c (.bool (s.all tokenB))]:=by
 refine zp Tryz.func183 ?_
 refine z0 [] [] ?_
 refine zl (fun (k:Nat)=>⟨[(0,.v (.c (.str s))),(1,.v (.c (.clo 261 (0:Nat) (fun _=>none) fun _ _ => .nilif))),(7,.v (.c (.int .i64 (↑s.length:Int)))),(8,.v (.c (.int .i64 (k:Int))))],[],32⟩) (fun k=>k≤s.length∧s.all tokenB=(s.drop k).all tokenB) (fun k=>s.length-k) 0 ⟨Nat.zero_le _,rfl⟩ ?_
 intro k L ⟨hk,hq⟩ again
 rcases Nat.lt_or_ge k s.length with hlt | hge
 ·rw [dropS s k hlt,List.all_cons] at hq
  refine zg [(4,{cs:=[(4,pc (token1_ok (s.getD k (0:UInt8))))]})] [true] [decide ((k:Int)<(s.length:Int))=true,(0:Int)≤(k:Int)∧(k:Int)<(s.length:Int)] ⟨sO,(show (0:Int)≤(↑k:Int)∧(↑k:Int)<(↑s.length:Int) from oM)⟩ ?_
  refine zc (!tokenB (s.getD k (0:UInt8))) (fun h0 => ?_) (fun h0 => ?_)
  ·have g0:=h0
   simp at g0
   refine z0 [] [] ?_
   exact zS [.c (.bool false)] (by simp_all;done)
  ·have g0:=h0
   simp at g0
   refine zg [] [] [inR .i64 ((k:Int)+1)] (i6) ?_
   exact za [] (again _ (k+1) (⟨aS,(by simp_all<;>omega)⟩) oM)
 ·obtain rfl:k=s.length:=by omega
  rw [List.drop_length] at hq
  refine zg [] [false] [decide ((s.length:Int)<(s.length:Int))=false] ((show decide ((↑s.length:Int)<(↑s.length:Int))=false from (by simp;done))) ?_
  exact zS [.c (.bool true)] (by simp [*];done)
theorem All_seen (s:List UInt8) (hl:s.length<4611686018427387904):Pur Tryz.prog G 183 [.c (.str s),.c (.clo 185 0 (fun _=>none) (fun _ _ => .nilif))] [.c (.bool (s.all seenB))]:=by
 refine zp Tryz.func183 ?_
 refine z0 [] [] ?_
 refine zl (fun (k:Nat)=>⟨[(0,.v (.c (.str s))),(1,.v (.c (.clo 185 (0:Nat) (fun _=>none) fun _ _ => .nilif))),(7,.v (.c (.int .i64 (↑s.length:Int)))),(8,.v (.c (.int .i64 (k:Int))))],[],32⟩) (fun k=>k≤s.length∧s.all seenB=(s.drop k).all seenB) (fun k=>s.length-k) 0 ⟨Nat.zero_le _,rfl⟩ ?_
 intro k L ⟨hk,hq⟩ again
 rcases Nat.lt_or_ge k s.length with hlt | hge
 ·rw [dropS s k hlt,List.all_cons] at hq
  refine zg [(4,{cs:=[(4,pc (seen1_ok (s.getD k (0:UInt8))))]})] [true] [decide ((k:Int)<(s.length:Int))=true,(0:Int)≤(k:Int)∧(k:Int)<(s.length:Int)] ⟨sO,(show (0:Int)≤(↑k:Int)∧(↑k:Int)<(↑s.length:Int) from oM)⟩ ?_
  refine zc (!seenB (s.getD k (0:UInt8))) (fun h0 => ?_) (fun h0 => ?_)
  ·have g0:=h0
   simp at g0
   refine z0 [] [] ?_
   exact zS [.c (.bool false)] (by simp_all;done)
  ·have g0:=h0
   simp at g0
   refine zg [] [] [inR .i64 ((k:Int)+1)] (i6) ?_
   exact za [] (again _ (k+1) (⟨aS,(by simp_all<;>omega)⟩) oM)
 ·obtain rfl:k=s.length:=by omega
  rw [List.drop_length] at hq
  refine zg [] [false] [decide ((s.length:Int)<(s.length:Int))=false] ((show decide ((↑s.length:Int)<(↑s.length:Int))=false from (by simp;done))) ?_
  exact zS [.c (.bool true)] (by simp [*];done)
def tokenT (s:List UInt8):Bool := !(s==[])&&s.all tokenB
def foldB (c:UInt8):UInt8:=if greatB c then c+32 else c
def foldT (s:List UInt8):List UInt8:=s.map foldB
def foldN (s:List UInt8) (k:Nat):List UInt8:=(s.take k).map foldB++s.drop k
theorem token_ok (s:List UInt8) (hl:s.length<4611686018427387904):Pur Tryz.prog G 226 [.c (.str s)] [.c (.bool (tokenT s))]:=by
 refine zp Tryz.func226 ?_
 refine z0 [(1,{cs:=[(4,pc (All_tok s aS))]})] [] ?_
 exact zS [.c (.bool (bif !s==[] then s.all tokenB else false))] (by simp [tokenT];done)
theorem seen_ok (s:List UInt8) (hl:s.length<4611686018427387904):Pur Tryz.prog G 137 [.c (.str s)] [.c (.bool (s.all seenB))]:=by
 refine zp Tryz.func137 ?_
 refine z0 [(1,{cs:=[(1,pc (All_seen s aS))]})] [] ?_
 exact zr
theorem foldN_len (s:List UInt8) (k:Nat):(foldN s k).length=s.length:=by
 unfold foldN;simp;omega
theorem foldN_at (s:List UInt8) (k:Nat) (h:k<s.length):(foldN s k).getD k 0=s.getD k 0:=by
 unfold foldN
 simp only [List.getD,List.getElem?_append]
 rw [if_neg sO]
 simp [Nat.min_eq_left (Nat.le_of_lt h)]
theorem foldN_succ (s:List UInt8) (k:Nat) (h:k<s.length):foldN s (k+1)=(foldN s k).set k (foldB (s.getD k 0)):=by
 unfold foldN
 rw [List.take_succ_eq_append_getElem h,List.map_append]
 simp [List.set_append,Nat.min_eq_left (Nat.le_of_lt h),List.getD,h]
 rw [dropS s k h,List.set_cons_zero]
theorem foldN_end (s:List UInt8):foldN s s.length=foldT s:=by simp [foldN,foldT]
theorem great_32 (c:UInt8) (h:greatB c=true):IntKind.u8.wrap (IntKind.u8.wrap ((c.toNat:Int)-65)+97)=((foldB c).toNat:Int):=by
 have:∀ c:UInt8,(!(greatB c)||IntKind.u8.wrap (IntKind.u8.wrap ((c.toNat:Int)-65)+97)==((foldB c).toNat:Int))=true:=byte_all _ kR
 have:=this c
 rw [h] at this
 exact eq_of_beq this
theorem fold_ok (s:List UInt8) (hl:s.length≤140737488355328):Pur Tryz.prog G 225 [.c (.str s)] [.c (.str (foldT s))]:=by
 refine zp Tryz.func225 ?_
 refine zg [] [] [s.length≤140737488355328] hl ?_
 refine zl (fun (k:Nat)=>⟨[(3,.v (.c (.row (1:Nat) (32:Nat) (0:Nat) s.length))),(8,.v (.c (.row (1:Nat) (32:Nat) (0:Nat) s.length))),(9,.v (.c (.int .i64 (↑s.length:Int)))),(10,.v (.c (.int .i64 (k:Int))))],[(32,.row 5 (1:Nat) s.length (bytesF (foldN s k)))],112⟩) (fun k=>k≤s.length) (fun k=>s.length-k) 0 (Nat.zero_le _) ?_
 intro k L hk again
 rcases Nat.lt_or_ge k s.length with hlt | hge
 ·have e1:EqvD (V1.c (Cell.int .u8 (((foldN s k).getD (0+k) 0).toNat:Int))) (.c (.int .u8 ((s.getD k 0).toNat:Int))):=eqvD_of (by rw [Nat.zero_add,foldN_at s k hlt])
  have e2:greatB (s.getD k 0)=true→BlkEqv (.row 5 1 s.length (rowSet (bytesF (foldN s k)) (0+k) 0 1 [.int .u8 (IntKind.u8.wrap (IntKind.u8.wrap (((s.getD k 0).toNat:Int)-65)+97))])) (.row 5 1 s.length (bytesF (foldN s (k+1)))):=fun h=>by
   rw [foldN_succ s k hlt]
   exact bytes_set _ _ (great_32 _ h) (by rw [foldN_len];exact hlt)
  have e3:greatB (s.getD k 0)=false→foldN s k=foldN s (k+1):=fun h=>by
   rw [foldN_succ s k hlt,← foldN_at s k hlt,foldB,foldN_at s k hlt,if_neg (by rw [h];decide),← foldN_at s k hlt]
   rw [List.getD_eq_getElem?_getD,List.getElem?_eq_getElem (by rw [foldN_len];exact hlt)]
   simp
  by_cases hg:greatB (s.getD k 0)=true
  ·have e2:=e2 hg
   refine Wp.go (mx:=true) (fun _=>mixed) [(4,{fm:=[(2,.c (.int .u8 ((s.getD k 0).toNat:Int)))]}),(6,{bs:=[(6,Blk.row 5 1 s.length (bytesF (foldN s (k+1))))]}),(5,{cs:=[(1,pc (great_ok (s.getD k (0:UInt8))))]})] 100 [true,true] [decide ((↑k:Int)<(↑s.length:Int))=true,(0:Int)≤(↑k:Int)∧(↑k:Int)<(↑s.length:Int),(0:Nat)+k<s.length,EqvD (V1.c (Cell.int .u8 (↑((foldN s k).getD ((0:Nat)+k) (0:UInt8)).toNat:Int))) (V1.c (Cell.int .u8 (↑(s.getD k (0:UInt8)).toNat:Int))),greatB (s.getD k (0:UInt8))=true,(0:Int)≤(↑k:Int)∧(↑k:Int)<(↑s.length:Int),BlkEqv (Blk.row 5 (1:Nat) s.length fun (i j:Nat)=>if i=(0:Nat)+k∧(0:Nat)≤j∧j<(1:Nat) then nthD (V1.c (Cell.int .u8 (IntKind.u8.wrap (IntKind.u8.wrap ((↑(s.getD k (0:UInt8)).toNat:Int)-(65:Int))+(97:Int))))).cells (j-(0:Nat)) else Cell.int .u8 (↑((foldN s k).getD i (0:UInt8)).toNat:Int)) (Blk.row 5 (1:Nat) s.length (bytesF (foldN s (k+(1:Nat))))),(0:Nat)+k<s.length,inR IntKind.i64 ((↑k:Int)+(1:Int))] (by kernel_rfl) (by kernel_rfl) (by kernel_rfl) ⟨(by simp;omega),(by omega),(by omega),(by assumption),(by assumption),(by omega),(by assumption),(by omega),inR64 (by omega) (by omega)⟩ ?_
   exact za [] (again _ (k+1) aS oM)
  ·have hg:greatB (s.getD k 0)=false:=by simpa using hg
   rw [e3 hg] at e1 ⊢
   refine zg [(4,{fm:=[(2,.c (.int .u8 ((s.getD k 0).toNat:Int)))]}),(5,{cs:=[(1,pc (great_ok (s.getD k (0:UInt8))))]})] [true,false] [decide ((k:Int)<(s.length:Int))=true,(0:Int)≤(k:Int)∧(k:Int)<(s.length:Int),0+k<s.length,EqvD (.c (.int .u8 (↑((foldN s (k+(1:Nat))).getD ((0:Nat)+k) (0:UInt8)).toNat:Int))) (.c (.int .u8 (↑(s.getD k (0:UInt8)).toNat:Int))),greatB (s.getD k (0:UInt8))=false,inR .i64 ((k:Int)+1)] ⟨sO,oM,oM,aS,aS,i6⟩ ?_
   exact za [] (again _ (k+1) aS oM)
 ·obtain rfl:k=s.length:=by omega
  have ee:byteL (bytesF (foldN s s.length)) 0 s.length=foldT s:=by rw [byteL_F _ (by rw [foldN_len]),foldN_end]
  refine zg [] [false] [decide ((s.length:Int)<(s.length:Int))=false,0+s.length≤s.length,areBytes (bytesF (foldN s s.length)) 0 s.length] ⟨(by simp;done),oM,areBytes_F _ _ _⟩ ?_
  exact zS [.c (.str (byteL (bytesF (foldN s s.length)) (0:Nat) s.length))] (by simp [*];done)
theorem occ_at (s sep:List UInt8) (k:Nat) (hk:k+sep.length≤s.length):Lib.occAt s sep k=(List.drop k (List.take (k+sep.length) s)==sep):=by
 rw [Lib.occAt_iff_take s sep k hk,List.take_drop]
theorem occ_none {s sep:List UInt8} (hs:sep≠[]) {k:Nat} (hk:¬ (k+sep.length≤s.length)) (hall:∀ j,j<k→Lib.occAt s sep j=false):Lib.index s sep = -1:=by
 refine Lib.index_none fun j hj => ?_
 rcases Nat.lt_or_ge j k with h | h
 ·exact hall j h
 ·cases hq:Lib.occAt s sep j with
  | false=>rfl
  | true =>
   rcases Lib.occAt_room hq with h' | h'
   ·omega
   ·exact (hs h').elim
theorem cut6_ok (s sep:List UInt8) (hl:s.length<4611686018427387904) (hs:sep≠[]) (hn:sep.length<1000):Pur Tryz.prog G 59 [.c (.str s),.c (.str sep)] [.c (.str (Lib.cut s sep).1),.c (.str (Lib.cut s sep).2.1),.c (.bool (Lib.cut s sep).2.2)]:=by
 refine zp Tryz.func59 ?_
 refine z0 [] [] ?_
 refine zl (fun (k:Nat)=>⟨[(0,.v (.c (.str s))),(1,.v (.c (.str sep))),(7,.v (.c (.int .i64 (k:Int))))],[],64⟩) (fun k=>k≤s.length∧∀ j,j<k→Lib.occAt s sep j=false) (fun k=>s.length-k) 0 ⟨Nat.zero_le _,fun _ h=>absurd h (Nat.not_lt_zero _)⟩ ?_
 intro k L ⟨hk,hall⟩ again
 have hp:0<sep.length:=List.length_pos_iff.2 hs
 by_cases hlt:k+sep.length≤s.length
 ·have ho:=occ_at s sep k hlt
  cases hq:Lib.occAt s sep k with
  | true =>
   have hi:=Lib.index_first hk hq hall
   have hc:Lib.cut s sep=(s.take k,s.drop (k+sep.length),true):=by
    unfold Lib.cut;rw [hi];simp
   rw [hc]
   rw [hq] at ho
   have ho:=ho.symm
   refine zg [] [true,true] [inR .i64 ((k:Int)+(sep.length:Int)),decide ((k:Int)+(sep.length:Int)≤(s.length:Int))=true,inR .i64 ((k:Int)+(sep.length:Int)),(0:Int)≤Int.ofNat k∧Int.ofNat k≤Int.ofNat (k+sep.length)∧Int.ofNat (k+sep.length)≤(s.length:Int),(List.drop (Int.ofNat k).toNat (List.take (Int.ofNat (k+sep.length)).toNat s)==sep)=true,(0:Int)≤Int.ofNat (0)∧Int.ofNat (0)≤Int.ofNat k∧Int.ofNat k≤(s.length:Int),inR .i64 ((k:Int)+(sep.length:Int)),(0:Int)≤Int.ofNat (k+sep.length)∧Int.ofNat (k+sep.length)≤Int.ofNat s.length∧Int.ofNat s.length≤(s.length:Int)] ⟨i6,sO,i6,⟨(by simp;done),⟨sO,sO⟩⟩,aS,⟨dC,⟨(by simp;done),sO⟩⟩,i6,⟨sO,⟨sO,(by simp;done)⟩⟩⟩ ?_
   exact zS [.c (.str (List.drop (0:Nat) (List.take (Int.ofNat k).toNat s))),.c (.str (List.drop (Int.ofNat (k+sep.length)).toNat (List.take (Int.ofNat s.length).toNat s))),.c (.bool true)] (by simp only [Int.ofNat_eq_natCast,Int.toNat_natCast,List.take_length,List.drop_zero])
  | false =>
   have hall':=up1 hall hq
   rw [hq] at ho
   have ho:=ho.symm
   refine zg [] [true,false] [inR .i64 ((k:Int)+(sep.length:Int)),decide ((k:Int)+(sep.length:Int)≤(s.length:Int))=true,inR .i64 ((k:Int)+(sep.length:Int)),(0:Int)≤Int.ofNat k∧Int.ofNat k≤Int.ofNat (k+sep.length)∧Int.ofNat (k+sep.length)≤(s.length:Int),(List.drop (Int.ofNat k).toNat (List.take (Int.ofNat (k+sep.length)).toNat s)==sep)=false,inR .i64 ((k:Int)+1)] ⟨i6,sO,i6,⟨(by simp;done),⟨sO,sO⟩⟩,aS,i6⟩ ?_
   exact za [] (again _ (k+1) (⟨oM,aS⟩) oM)
 ·have hi:=occ_none hs hlt hall
  have hc:Lib.cut s sep=(s,[],false):=by
   unfold Lib.cut;rw [hi];rfl
  rw [hc]
  refine zg [] [false] [inR .i64 ((k:Int)+(sep.length:Int)),decide ((k:Int)+(sep.length:Int)≤(s.length:Int))=false] ⟨i6,(show decide ((↑k:Int)+(↑sep.length:Int)≤(↑s.length:Int))=false from sO)⟩ ?_
  exact zr
theorem below_drew {G:Nat→Option (List Cell)} (w:World) (n:Nat):BelowD G w.heap.size w (w.drewN n):=⟨⟨rfl,rfl,rfl,Nat.le_refl _,fun _ _=>rfl⟩,fun _=>Nat.le_add_right _ _⟩
theorem size_lt (s:List UInt8):(⟨s.toArray⟩:ByteArray).size=s.length:=size_mk s
theorem glob_one {D:Dat} {w:World} {g:Nat} {x:Cell} (hG:G g=some [x]) (k1:GlobOk G D) (k3:Agree D w):∃ u,w.cell? ⟨g,0,none⟩=some u∧Den D rho0 x u:=by
 obtain ⟨u,hu,hd⟩:=k1 g _ hG 0 x rfl
 exact ⟨u,k3 _ _ _ hu,hd⟩
theorem lib_CutSuffix (s p:List UInt8) (hl:s.length≤9223372036854775807):Pur Tryz.prog G 201 [.c (.str s),.c (.str p)] [.c (.str (Lib.trimSuffix s p)),.c (.bool (Lib.hasSuffix s p))]:=by
 refine Pur.of_below rfl ?_
 intro D ρ w vs h1 _ _ _
 obtain ⟨u,v,rfl,hu,hv⟩:=h1.two
 have hu:u = .string ⟨s.toArray⟩:=hu
 have hv:v = .string ⟨p.toArray⟩:=hv
 subst hu hv
 refine (Go.Proofs.Tryz.strings_CutSuffix ⟨s.toArray⟩ ⟨p.toArray⟩ w (by rw [size_lt];exact hl)).mono ?_
 rintro e w' ⟨rfl,rfl⟩
 refine ⟨_,rfl,⟨_,rfl,rfl,fun j x hj => ?_⟩,BelowD.refl _ _⟩
 match j,hj with
 | 0,hj=>simp at hj; subst hj; exact ⟨_,rfl,rfl⟩
 | 1,hj=>simp at hj; subst hj; exact ⟨_,rfl,rfl⟩
 | j+2,hj=>simp at hj
theorem lib_Cut {m:Int} (hG:G 2=some [.int .i64 m]) (s p:List UInt8) (hl:s.length<4294967281):Pur Tryz.prog G 134 [.c (.str s),.c (.str p)] [.c (.str (Lib.cut s p).1),.c (.str (Lib.cut s p).2.1),.c (.bool (Lib.cut s p).2.2)]:=by
 refine Pur.of_below rfl ?_
 intro D ρ w vs h1 k1 _ k3
 obtain ⟨u,v,rfl,hu,hv⟩:=h1.two
 have hu:u = .string ⟨s.toArray⟩:=hu
 have hv:v = .string ⟨p.toArray⟩:=hv
 subst hu hv
 obtain ⟨x,hx,hd⟩:=glob_one hG k1 k3
 have hd:x = .int .i64 m:=hd
 subst hd
 refine (Go.Proofs.Tryz.strings_Cut ⟨s.toArray⟩ ⟨p.toArray⟩ m w (by rw [size_lt];exact hl) hx).mono ?_
 rintro e w' ⟨rfl,n,rfl⟩
 refine ⟨_,rfl,⟨_,rfl,rfl,fun j x hj => ?_⟩,below_drew _ _⟩
 match j,hj with
 | 0,hj=>simp at hj; subst hj; exact ⟨_,rfl,rfl⟩
 | 1,hj=>simp at hj; subst hj; exact ⟨_,rfl,rfl⟩
 | 2,hj=>simp at hj; subst hj; exact ⟨_,rfl,rfl⟩
 | j+3,hj=>simp at hj
theorem lib_Split {m:Int} (hG:G 2=some [.int .i64 m]) (s p:List UInt8) (hl:s.length<4294967281) (hp:1≤p.length):Pur Tryz.prog G 224 [.c (.str s),.c (.str p)] [.c (.sl 1 (Lib.split s p).length (strsF (Lib.split s p)))]:=by
 have hsz:(Lib.splitB ⟨p.toArray⟩ 0 (Lib.countB ⟨s.toArray⟩ ⟨p.toArray⟩) ⟨s.toArray⟩).length=Lib.countB ⟨s.toArray⟩ ⟨p.toArray⟩+1:=Lib.splitB_all _ (by rw [size_lt];exact hp) 0 _ _ rfl
 have hdat:(Lib.splitB ⟨p.toArray⟩ 0 (Lib.countB ⟨s.toArray⟩ ⟨p.toArray⟩) ⟨s.toArray⟩).map (·.data.toList)=Lib.split s p:=by rw [Lib.splitB_data];rfl
 have hlen:(Lib.split s p).length=Lib.countB ⟨s.toArray⟩ ⟨p.toArray⟩+1:=by rw [← hdat,List.length_map,hsz]
 have hcl:=Lib.countB_le ⟨p.toArray⟩ (by rw [size_lt];exact hp) s.length ⟨s.toArray⟩ (by rw [size_lt];exact Nat.le_refl _)
 rw [size_lt] at hcl
 refine Pur.of_alloc (by rw [hlen];unfold maxLen;omega) ?_
 intro D ρ w vs h1 k1 _ k3
 obtain ⟨u,v,rfl,hu,hv⟩:=h1.two
 have hu:u = .string ⟨s.toArray⟩:=hu
 have hv:v = .string ⟨p.toArray⟩:=hv
 subst hu hv
 obtain ⟨x,hx,hd⟩:=glob_one hG k1 k3
 have hd:x = .int .i64 m:=hd
 subst hd
 refine (Go.Proofs.Tryz.strings_Split ⟨s.toArray⟩ ⟨p.toArray⟩ m w (by rw [size_lt];exact hl) hx (by rw [size_lt];exact hp)).mono ?_
 rintro e w' ⟨rfl,rfl⟩
 refine ⟨_,_,by rw [hlen],rfl,by simp [hsz,hlen],fun i hi => ?_⟩
 have hi':i<(Lib.splitB ⟨p.toArray⟩ 0 (Lib.countB ⟨s.toArray⟩ ⟨p.toArray⟩) ⟨s.toArray⟩).length:=by rw [hsz,← hlen];exact hi
 refine ⟨.string (Lib.splitB ⟨p.toArray⟩ 0 (Lib.countB ⟨s.toArray⟩ ⟨p.toArray⟩) ⟨s.toArray⟩)[i],by simp [hi'],fun D => ?_⟩
 have:(Lib.split s p).getD i []=(Lib.splitB ⟨p.toArray⟩ 0 (Lib.countB ⟨s.toArray⟩ ⟨p.toArray⟩) ⟨s.toArray⟩)[i].data.toList:=by
  rw [← hdat];simp [List.getD,hi']
 show _=Value.string ⟨((Lib.split s p).getD i []).toArray⟩
 rw [this]
end Go.Proofs.Tw
end
section

end
section

end
section
open Go Go.Sv Go.RowKit
namespace Go.Proofs.Tw
attribute [local irreducible] Wp FinQ resV Ent Pur Go.Sv.Fn Sat0
set_option maxRecDepth 100000
set_option maxHeartbeats 4000000
variable {G:Nat→Option (List Cell)} [Back G]
def sgs:List UInt8:=[65,66,67,68,69,70,71,72,73,74,75,76,77,78,79,80,81,82,83,84,85,86,87,88,89,90,97,98,99,100,101,102,103,104,105,106,107,108,109,110,111,112,113,114,115,116,117,118,119,120,121,122,48,49,50,51,52,53,54,55,56,57,45,95]
def v3 (b:List UInt8) (i:Nat):Nat→Int
 | 0=>0
 | k+1=>if i+k<b.length then v3 b i k*256+((b.getD (i+k) 0).toNat:Int) else v3 b i k*256
def n3 (b:List UInt8) (i:Nat):Nat→Nat
 | 0=>0
 | k+1=>if i+k<b.length then n3 b i k+1 else n3 b i k
theorem n3_le (b:List UInt8) (i:Nat):∀ k,n3 b i k≤k
 | 0=>Nat.le_refl _
 | k+1=>by have:=n3_le b i k; unfold n3; split<;>omega
def six (v:Int) (k:Nat):Int:=(v.fdiv (2^(18-6*k)))%64
def sgn6 (v:Int) (k:Nat):UInt8:=sgs.getD (six v k).toNat 0
def sgs6 (v:Int):Nat→List UInt8
 | 0=>[]
 | k+1=>sgs6 v k++[sgn6 v k]
def grp (b:List UInt8) (g:Nat):List UInt8:=sgs6 (v3 b (3*g) 3) (n3 b (3*g) 3+1)
def encG (b:List UInt8):Nat→List UInt8
 | 0=>[]
 | g+1=>encG b g++grp b g
def enc8 (b:List UInt8):List UInt8:=encG b ((b.length+2) / 3)
def encOF (b:List UInt8):Nat×Option (Nat×List UInt8)→Prop
 | (g,none)=>g=0
 | (g,some (n,l))=>0<g∧3*g<b.length+3∧l=encG b g∧n=l.length∧n≤4*g
end Go.Proofs.Tw
end
section

end
section
open Go Go.Sv Go.RowKit
namespace Go.Proofs.Tw
attribute [local irreducible] Wp FinQ resV Ent Pur Go.Sv.Fn Sat0
set_option maxRecDepth 100000
set_option maxHeartbeats 4000000
variable {G:Nat→Option (List Cell)} [Back G]
def fldF (l:List FT):Nat→Nat→Cell:=rowF encF .nil l
def fGet (l:List FT) (n:List UInt8):Option (List UInt8):=(l.find? fun f=>f.name==n).map (·.value)
theorem fGet_nil (n:List UInt8):fGet [] n=none:=rfl
theorem fGet_cons (x:FT) (l:List FT) (n:List UInt8):fGet (x::l) n=if x.name==n then some x.value else fGet l n:=by
 unfold fGet
 rw [List.find?_cons]
 cases x.name==n<;>rfl
theorem drop_cons {α:Type} (l:List α) (k:Nat) (d:α) (h:k<l.length):l.drop k=l.getD k d::l.drop (k+1):=by
 rw [List.getD_eq_getElem?_getD,List.getElem?_eq_getElem h];exact List.drop_eq_getElem_cons h
theorem get10_ok (l:List FT) (n:List UInt8) (hl:l.length<4611686018427387904):Pur Tryz.prog G 26 [.c (.sl 2 l.length (fldF l)),.c (.str n)] [.c (.str ((fGet l n).getD [])),.c (.bool (fGet l n).isSome)]:=by
 refine zp Tryz.func26 ?_
 refine z0 [] [] ?_
 refine zl (fun (k:Nat)=>⟨[(0,.v (.c (.sl (2:Nat) l.length (fldF l)))),(1,.v (.c (.str n))),(6,.v (.c (.int .i64 (k:Int))))],[],48⟩) (fun k=>k≤l.length∧fGet l n=fGet (l.drop k) n) (fun k=>l.length-k) 0 ⟨Nat.zero_le _,rfl⟩ ?_
 intro k L ⟨hk,hq⟩ again
 rcases Nat.lt_or_ge k l.length with hlt | hge
 ·rw [drop_cons l k ⟨[],[]⟩ hlt,fGet_cons] at hq
  refine zg [] [true] [decide ((k:Int)<(l.length:Int))=true,(0:Int)≤(k:Int)∧(k:Int)<(l.length:Int)] ⟨sO,(show (0:Int)≤(↑k:Int)∧(↑k:Int)<(↑l.length:Int) from oM)⟩ ?_
  refine zc ((l.getD (↑k:Int).toNat FT.nil).name==n) (fun h0 => ?_) (fun h0 => ?_)
  ·have g0:=eq_of_beq h0
   refine zg [] [] [(0:Int)≤(k:Int)∧(k:Int)<(l.length:Int)] ((show (0:Int)≤(↑k:Int)∧(↑k:Int)<(↑l.length:Int) from oM)) ?_
   exact zS [.c (.str (l.getD (↑k:Int).toNat FT.nil).value),.c (.bool true)] (by simp_all [fGet];done)
  ·have g0:=ne_of_beq_false h0
   refine zg [] [] [inR .i64 ((k:Int)+1)] (i6) ?_
   exact za [] (again _ (k+1) (⟨aS,(by simp_all<;>omega)⟩) oM)
 ·obtain rfl:k=l.length:=by omega
  rw [List.drop_length,fGet_nil] at hq
  refine zg [] [false] [decide ((l.length:Int)<(l.length:Int))=false] ((show decide ((↑l.length:Int)<(↑l.length:Int))=false from (by simp;done))) ?_
  exact zS [.c (.str []),.c (.bool false)] (by simp [hq];done)
theorem has10_ok (l:List FT) (n:List UInt8) (hl:l.length<4611686018427387904):Pur Tryz.prog G 61 [.c (.sl 2 l.length (fldF l)),.c (.str n)] [.c (.bool (fGet l n).isSome)]:=by
 refine zp Tryz.func61 ?_
 refine z0 [(1,{cs:=[(2,pc (get10_ok l n aS))]})] [] ?_
 exact zr
theorem has10_n (l:List FT) (n:Nat) (s:List UInt8) (hn:n=l.length) (hl:n<4611686018427387904):Pur Tryz.prog G 61 [.c (.sl 2 n (fldF l)),.c (.str s)] [.c (.bool (fGet l s).isSome)]:=by
 subst hn
 exact has10_ok l s hl
def pathB (c:UInt8):Bool:=plainB c||c==47
def pathT (s:List UInt8):Bool:=s.all pathB&&(decide (1≤s.length)&&s.getD 0 0==47)
def sixtyB (c:UInt8):Bool:=greatB c||smallB c||digitB c||c==45||c==95
theorem sixty_ok (c:UInt8):Pur Tryz.prog G 251 [.c (.int .u8 (c.toNat:Int))] [.c (.bool (sixtyB c))]:=by
 refine zp Tryz.func251 ?_
 refine z0 [(1,{cs:=[(1,pc (great_ok c)),(4,pc (small_ok c)),(8,pc (digit_ok c))]})] [] ?_
 exact zS [.c (.bool (bif bif bif bif greatB c then true else smallB c then true else digitB c then true else (↑c.toNat:Int)==(45:Int) then true else (↑c.toNat:Int)==(95:Int)))] (by revert c;refine by_all _ _ ?_;kernel_rfl)
theorem plain_ok (c:UInt8):Pur Tryz.prog G 206 [.c (.int .u8 (c.toNat:Int))] [.c (.bool (plainB c))]:=by
 refine zp Tryz.func206 ?_
 refine z0 [(1,{cs:=[(1,pc (sixty_ok c))]})] [] ?_
 exact zS [.c (.bool (bif bif sixtyB c then true else (↑c.toNat:Int)==(46:Int) then true else (↑c.toNat:Int)==(126:Int)))] (by revert c;refine by_all _ _ ?_;kernel_rfl)
theorem inPath_ok (c:UInt8):Pur Tryz.prog G 247 [.c (.int .u8 (c.toNat:Int))] [.c (.bool (pathB c))]:=by
 refine zp Tryz.func247 ?_
 refine z0 [(1,{cs:=[(1,pc (plain_ok c))]})] [] ?_
 exact zS [.c (.bool (bif plainB c then true else (↑c.toNat:Int)==(47:Int)))] (by revert c;refine by_all _ _ ?_;kernel_rfl)
theorem All_plain (s:List UInt8) (hl:s.length<4611686018427387904):Pur Tryz.prog G 183 [.c (.str s),.c (.clo 206 0 (fun _=>none) (fun _ _ => .nilif))] [.c (.bool (s.all plainB))]:=by
 refine zp Tryz.func183 ?_
 refine z0 [] [] ?_
 refine zl (fun (k:Nat)=>⟨[(0,.v (.c (.str s))),(1,.v (.c (.clo 206 (0:Nat) (fun _=>none) fun _ _ => .nilif))),(7,.v (.c (.int .i64 (↑s.length:Int)))),(8,.v (.c (.int .i64 (k:Int))))],[],32⟩) (fun k=>k≤s.length∧s.all plainB=(s.drop k).all plainB) (fun k=>s.length-k) 0 ⟨Nat.zero_le _,rfl⟩ ?_
 intro k L ⟨hk,hq⟩ again
 rcases Nat.lt_or_ge k s.length with hlt | hge
 ·rw [dropS s k hlt,List.all_cons] at hq
  refine zg [(4,{cs:=[(4,pc (plain_ok (s.getD k (0:UInt8))))]})] [true] [decide ((k:Int)<(s.length:Int))=true,(0:Int)≤(k:Int)∧(k:Int)<(s.length:Int)] ⟨sO,(show (0:Int)≤(↑k:Int)∧(↑k:Int)<(↑s.length:Int) from oM)⟩ ?_
  refine zc (!plainB (s.getD k (0:UInt8))) (fun h0 => ?_) (fun h0 => ?_)
  ·have g0:=h0
   simp at g0
   refine z0 [] [] ?_
   exact zS [.c (.bool false)] (by simp_all;done)
  ·have g0:=h0
   simp at g0
   refine zg [] [] [inR .i64 ((k:Int)+1)] (i6) ?_
   exact za [] (again _ (k+1) (⟨aS,(by simp_all<;>omega)⟩) oM)
 ·obtain rfl:k=s.length:=by omega
  rw [List.drop_length] at hq
  refine zg [] [false] [decide ((s.length:Int)<(s.length:Int))=false] ((show decide ((↑s.length:Int)<(↑s.length:Int))=false from (by simp;done))) ?_
  exact zS [.c (.bool true)] (by simp [*];done)
theorem All_digit (s:List UInt8) (hl:s.length<4611686018427387904):Pur Tryz.prog G 183 [.c (.str s),.c (.clo 184 0 (fun _=>none) (fun _ _ => .nilif))] [.c (.bool (s.all digitB))]:=by
 refine zp Tryz.func183 ?_
 refine z0 [] [] ?_
 refine zl (fun (k:Nat)=>⟨[(0,.v (.c (.str s))),(1,.v (.c (.clo 184 (0:Nat) (fun _=>none) fun _ _ => .nilif))),(7,.v (.c (.int .i64 (↑s.length:Int)))),(8,.v (.c (.int .i64 (k:Int))))],[],32⟩) (fun k=>k≤s.length∧s.all digitB=(s.drop k).all digitB) (fun k=>s.length-k) 0 ⟨Nat.zero_le _,rfl⟩ ?_
 intro k L ⟨hk,hq⟩ again
 rcases Nat.lt_or_ge k s.length with hlt | hge
 ·rw [dropS s k hlt,List.all_cons] at hq
  refine zg [(4,{cs:=[(4,pc (digit_ok (s.getD k (0:UInt8))))]})] [true] [decide ((k:Int)<(s.length:Int))=true,(0:Int)≤(k:Int)∧(k:Int)<(s.length:Int)] ⟨sO,(show (0:Int)≤(↑k:Int)∧(↑k:Int)<(↑s.length:Int) from oM)⟩ ?_
  refine zc (!digitB (s.getD k (0:UInt8))) (fun h0 => ?_) (fun h0 => ?_)
  ·have g0:=h0
   simp at g0
   refine z0 [] [] ?_
   exact zS [.c (.bool false)] (by simp_all;done)
  ·have g0:=h0
   simp at g0
   refine zg [] [] [inR .i64 ((k:Int)+1)] (i6) ?_
   exact za [] (again _ (k+1) (⟨aS,(by simp_all<;>omega)⟩) oM)
 ·obtain rfl:k=s.length:=by omega
  rw [List.drop_length] at hq
  refine zg [] [false] [decide ((s.length:Int)<(s.length:Int))=false] ((show decide ((↑s.length:Int)<(↑s.length:Int))=false from (by simp;done))) ?_
  exact zS [.c (.bool true)] (by simp [*];done)
theorem All_path (s:List UInt8) (hl:s.length<4611686018427387904):Pur Tryz.prog G 183 [.c (.str s),.c (.clo 247 0 (fun _=>none) (fun _ _ => .nilif))] [.c (.bool (s.all pathB))]:=by
 refine zp Tryz.func183 ?_
 refine z0 [] [] ?_
 refine zl (fun (k:Nat)=>⟨[(0,.v (.c (.str s))),(1,.v (.c (.clo 247 (0:Nat) (fun _=>none) fun _ _ => .nilif))),(7,.v (.c (.int .i64 (↑s.length:Int)))),(8,.v (.c (.int .i64 (k:Int))))],[],32⟩) (fun k=>k≤s.length∧s.all pathB=(s.drop k).all pathB) (fun k=>s.length-k) 0 ⟨Nat.zero_le _,rfl⟩ ?_
 intro k L ⟨hk,hq⟩ again
 rcases Nat.lt_or_ge k s.length with hlt | hge
 ·rw [dropS s k hlt,List.all_cons] at hq
  refine zg [(4,{cs:=[(4,pc (inPath_ok (s.getD k (0:UInt8))))]})] [true] [decide ((k:Int)<(s.length:Int))=true,(0:Int)≤(k:Int)∧(k:Int)<(s.length:Int)] ⟨sO,(show (0:Int)≤(↑k:Int)∧(↑k:Int)<(↑s.length:Int) from oM)⟩ ?_
  refine zc (!pathB (s.getD k (0:UInt8))) (fun h0 => ?_) (fun h0 => ?_)
  ·have g0:=h0
   simp at g0
   refine z0 [] [] ?_
   exact zS [.c (.bool false)] (by simp_all;done)
  ·have g0:=h0
   simp at g0
   refine zg [] [] [inR .i64 ((k:Int)+1)] (i6) ?_
   exact za [] (again _ (k+1) (⟨aS,(by simp_all<;>omega)⟩) oM)
 ·obtain rfl:k=s.length:=by omega
  rw [List.drop_length] at hq
  refine zg [] [false] [decide ((s.length:Int)<(s.length:Int))=false] ((show decide ((↑s.length:Int)<(↑s.length:Int))=false from (by simp;done))) ?_
  exact zS [.c (.bool true)] (by simp [*];done)
theorem lib_HasPrefix {G:Nat→Option (List Cell)} [Back G] (s p:List UInt8):Pur Tryz.prog G 235 [.c (.str s),.c (.str p)] [.c (.bool (Lib.hasPrefix s p))]:=by
 refine Pur.of_below rfl ?_
 intro D ρ w vs h1 _ _ _
 obtain ⟨u,v,rfl,hu,hv⟩:=h1.two
 have hu:u = .string ⟨s.toArray⟩:=hu
 have hv:v = .string ⟨p.toArray⟩:=hv
 subst hu hv
 refine (Go.Proofs.Tryz.strings_HasPrefix ⟨s.toArray⟩ ⟨p.toArray⟩ w).mono ?_
 rintro e w' ⟨rfl,rfl⟩
 exact ⟨_,rfl,by simp [ResDen,DenV,Den],BelowD.refl _ _⟩
theorem pathed_b (p:List UInt8):(bif Lib.hasPrefix p [47] then p.all pathB else false)=pathT p:=by
 unfold pathT
 cases p with
 | nil=>rfl
 | cons a r =>
  have:Lib.hasPrefix (a::r) [47]=(a==47):=by
   simp only [Lib.hasPrefix,List.isPrefixOf,Bool.and_true]
   exact Bool.beq_comm
  rw [this,show decide (1≤(a::r).length)=true from decide_eq_true (by simp),show (a::r).getD 0 0=a from rfl]
  cases (a==47)<;>simp
theorem pathed_ok (h p:List UInt8) (hl:p.length<4611686018427387904):Pur Tryz.prog G 203 [.agg [.str h,.str p]] [.c (.bool (pathT p))]:=by
 refine zp Tryz.func203 ?_
 refine z0 [(1,{cs:=[(2,pc (lib_HasPrefix p [(47:UInt8)])),(6,pc (All_path p aS))]})] [] ?_
 exact zS [.c (.bool (bif Lib.hasPrefix p [(47:UInt8)] then p.all pathB else false))] (by_b (pathed_b p))
end Go.Proofs.Tw
end
section

end
section

end
section
open Go Go.Sv Go.RowKit
namespace Go.Proofs.Tw
attribute [local irreducible] Wp FinQ resV Ent Pur Go.Sv.Fn Sat0
set_option maxRecDepth 100000
set_option maxHeartbeats 4000000
variable {G:Nat→Option (List Cell)} [Back G]
theorem wrap8u {x:Int} (h:0≤x∧x<256):IntKind.u8.wrap x=x:=by simp [IntKind.wrap,IntKind.bits,IntKind.signed];omega
theorem or_is (x y:Int) (k:Nat) (hx:0≤x∧x<256) (hy:0≤y∧y<2^k) (hm:x%2^k=0) (hk:k≤7):bitsI .or .u8 x y=x+y:=by
 obtain ⟨a,rfl⟩:=Int.eq_ofNat_of_zero_le hx.1
 obtain ⟨b,rfl⟩:=Int.eq_ofNat_of_zero_le hy.1
 have hm:a%2^k=0:=by
  have:((a%2^k:Nat):Int)=0:=by rw [Int.natCast_emod,Int.natCast_pow];exact hm
  omega
 have hb:b<2^k:=by
  have:((b:Nat):Int)<((2^k:Nat):Int):=by rw [Int.natCast_pow];exact hy.2
  omega
 have h2k:2^k≤128:=by have:=Nat.pow_le_pow_right (show 0<2 by omega) hk;omega
 have h2:2^k*(a / 2^k)=a:=by have:=Nat.div_add_mod a (2^k);omega
 have hor:a ||| b=a+b:=by
  have:=Nat.two_pow_add_eq_or_of_lt hb (a / 2^k)
  rw [h2] at this;exact this.symm
 have e:(BitVec.ofInt 8 (a:Int) ||| BitVec.ofInt 8 (b:Int)).toNat=a+b:=by
  rw [BitVec.toNat_or,BitVec.toNat_ofInt,BitVec.toNat_ofInt]
  rw [show ((a:Int)%((2^8:Nat):Int)).toNat=a by omega,show ((b:Int)%((2^8:Nat):Int)).toNat=b by omega,hor]
 have hlt:a+b<256:=by
  have e8:a ||| b<2^8:=Nat.or_lt_two_pow oM oM
  rw [hor] at e8;omega
 show IntKind.u8.wrap ((BitVec.ofInt 8 (a:Int) ||| BitVec.ofInt 8 (b:Int)).toNat)=_
 rw [e,wrap8u oM];simp
theorem and63 (x:Int) (hx:0≤x∧x<256):bitsI .and .u8 x 63=x%64:=by
 obtain ⟨n,rfl⟩:=Int.eq_ofNat_of_zero_le hx.1
 have e:(BitVec.ofInt 8 (n:Int) &&& BitVec.ofInt 8 63).toNat=n%64:=by
  rw [BitVec.toNat_and]
  have e1:(BitVec.ofInt 8 (n:Int)).toNat=n:=by rw [BitVec.toNat_ofInt];omega
  have e2:(BitVec.ofInt 8 63).toNat=2^6-1:=rfl
  rw [e1,e2,Nat.and_two_pow_sub_one_eq_mod]
 show IntKind.u8.wrap ((BitVec.ofInt 8 (n:Int) &&& BitVec.ofInt 8 63).toNat)=_
 rw [e,wrap8u oM];simp
theorem fdiv_is (x:Int) (k:Nat) (hx:0≤x):x.fdiv (2^k)=x / 2^k:=Int.fdiv_eq_ediv_of_nonneg _ (Int.le_of_lt (Int.pow_pos dC))
theorem wrap_mod (x:Int):IntKind.u8.wrap x=x%256:=by simp [IntKind.wrap,IntKind.bits,IntKind.signed]
def by3 (b:List UInt8) (j:Nat):Int:=((b.getD j 0).toNat:Int)
theorem by3_rng (b:List UInt8) (j:Nat):0≤by3 b j∧by3 b j<256:=by have:=UInt8.toNat_lt (b.getD j 0);unfold by3;omega
theorem blkEqv_of {b b':Blk} (h:b=b'):BlkEqv b b':=by subst h;exact ⟨fun _ _ _ _ h=>h,fun _ h=>h⟩
theorem cpy3 (e:TypeId) (b:List UInt8) (hb:b.length≤3):BlkEqv (.box e (cpyL 0 b.length (bytesF b) [.int .u8 0,.int .u8 0,.int .u8 0])) (.box e [.int .u8 (by3 b 0),.int .u8 (by3 b 1),.int .u8 (by3 b 2)]):=by
 refine blkEqv_of ?_
 match b,hb with
 | [],_=>rfl
 | [_],_=>rfl
 | [_,_],_=>rfl
 | [_,_,_],_=>rfl
 | _::_::_::_::_,h=>exact absurd h (by simp)
theorem four_ok (b:List UInt8) (hb:b.length≤3):Pur Tryz.prog G 195 [.c (.sl 1 b.length (bytesF b))] [.agg [.int .u8 (by3 b 0 / 4),.int .u8 (by3 b 0%4*16+by3 b 1 / 16),.int .u8 (by3 b 1%16*4+by3 b 2 / 64),.int .u8 (by3 b 2%64)]]:=by
 refine zp Tryz.func195 ?_
 have r0:=by3_rng b 0
 have r1:=by3_rng b 1
 have r2:=by3_rng b 2
 have hfl:∀ k,k<b.length→(bytesF b k 0).flat=true:=fun _ _=>rfl
 have hcp:=cpy3 255 b hb
 have e1:EqvD (.c (.int .u8 ((by3 b 0).fdiv (2^2)))) (.c (.int .u8 (by3 b 0 / 4))):=eqvD_of (by rw [fdiv_is _ 2 r0.1];rfl)
 have e2:EqvD (.c (.int .u8 (IntKind.u8.wrap (by3 b 0*2^4)))) (.c (.int .u8 (by3 b 0%16*16))):=eqvD_of (by rw [wrap_mod];congr 2;omega)
 have e3:EqvD (.c (.int .u8 (bitsI .and .u8 (by3 b 0%16*16) 63))) (.c (.int .u8 (by3 b 0%4*16))):=eqvD_of (by rw [and63 _ oM];congr 2;omega)
 have e4:EqvD (.c (.int .u8 ((by3 b 1).fdiv (2^4)))) (.c (.int .u8 (by3 b 1 / 16))):=eqvD_of (by rw [fdiv_is _ 4 r1.1];rfl)
 have e5:EqvD (.c (.int .u8 (bitsI .or .u8 (by3 b 0%4*16) (by3 b 1 / 16)))) (.c (.int .u8 (by3 b 0%4*16+by3 b 1 / 16))):=eqvD_of (by rw [or_is _ _ 4 oM (by have:(2:Int)^4=16:=rfl;omega) (by have:(2:Int)^4=16:=rfl;omega) dC])
 have e6:EqvD (.c (.int .u8 (IntKind.u8.wrap (by3 b 1*2^2)))) (.c (.int .u8 (by3 b 1%64*4))):=eqvD_of (by rw [wrap_mod];congr 2;omega)
 have e7:EqvD (.c (.int .u8 (bitsI .and .u8 (by3 b 1%64*4) 63))) (.c (.int .u8 (by3 b 1%16*4))):=eqvD_of (by rw [and63 _ oM];congr 2;omega)
 have e8:EqvD (.c (.int .u8 ((by3 b 2).fdiv (2^6)))) (.c (.int .u8 (by3 b 2 / 64))):=eqvD_of (by rw [fdiv_is _ 6 r2.1];rfl)
 have e9:EqvD (.c (.int .u8 (bitsI .or .u8 (by3 b 1%16*4) (by3 b 2 / 64)))) (.c (.int .u8 (by3 b 1%16*4+by3 b 2 / 64))):=eqvD_of (by rw [or_is _ _ 2 oM (by have:(2:Int)^2=4:=rfl;omega) (by have:(2:Int)^2=4:=rfl;omega) dC])
 have e10:EqvD (.c (.int .u8 (bitsI .and .u8 (by3 b 2) 63))) (.c (.int .u8 (by3 b 2%64))):=eqvD_of (by rw [and63 _ r2])
 refine zg [(2,{bs:=[(2,.box 255 [.int .u8 (by3 b 0),.int .u8 (by3 b 1),.int .u8 (by3 b 2)])]}),(3,{fm:=[(2,.c (.int .u8 (by3 b 0 / 4))),(5,.c (.int .u8 (by3 b 0%16*16))),(6,.c (.int .u8 (by3 b 0%4*16))),(9,.c (.int .u8 (by3 b 1 / 16))),(10,.c (.int .u8 (by3 b 0%4*16+by3 b 1 / 16))),(13,.c (.int .u8 (by3 b 1%64*4))),(14,.c (.int .u8 (by3 b 1%16*4))),(17,.c (.int .u8 (by3 b 2 / 64))),(18,.c (.int .u8 (by3 b 1%16*4+by3 b 2 / 64))),(21,.c (.int .u8 (by3 b 2%64)))]})] [] [(0:Int)≤Int.ofNat (0)∧Int.ofNat (0)≤Int.ofNat (3:Nat)∧Int.ofNat (3:Nat)≤(↑(3:Nat):Int),b.length≤3,3≤3,∀ (k:Nat),k<b.length→true=true,BlkEqv (.box 255 [if 0<0 then nthD [.int .u8 0,.int .u8 0,.int .u8 0] 0 else if 0<0+b.length then bytesF b 0 0 else nthD [.int .u8 0,.int .u8 0,.int .u8 0] 0,if 0+1<0 then nthD [.int .u8 0,.int .u8 0,.int .u8 0] (0+1) else if 0+1<0+b.length then bytesF b 1 0 else nthD [.int .u8 0,.int .u8 0,.int .u8 0] (0+1),if 0+1+1<0 then nthD [.int .u8 0,.int .u8 0,.int .u8 0] (0+1+1) else if 0+1+1<0+b.length then bytesF b 2 0 else nthD [.int .u8 0,.int .u8 0,.int .u8 0] (0+1+1)]) (.box 255 [.int .u8 (by3 b 0),.int .u8 (by3 b 1),.int .u8 (by3 b 2)]),(0:Int)≤(0:Int)∧(0:Int)<(↑(3:Nat):Int),EqvI (.c (.int .u8 ((by3 b (0:Nat)).fdiv ((2:Int)^(2:Nat))))) (.c (.int .u8 (by3 b (0:Nat) / (4:Int)))),EqvD (.c (.int .u8 ((by3 b (0:Nat)).fdiv ((2:Int)^(2:Nat))))) (.c (.int .u8 (by3 b (0:Nat) / (4:Int)))),(0:Int)≤(2:Int),(0:Int)≤(0:Int)∧(0:Int)<(↑(3:Nat):Int),EqvI (.c (.int .u8 (IntKind.u8.wrap (by3 b (0:Nat)*(2:Int)^(4:Nat))))) (.c (.int .u8 (by3 b (0:Nat)%(16:Int)*(16:Int)))),EqvD (.c (.int .u8 (IntKind.u8.wrap (by3 b (0:Nat)*(2:Int)^(4:Nat))))) (.c (.int .u8 (by3 b (0:Nat)%(16:Int)*(16:Int)))),(0:Int)≤(4:Int),EqvI (.c (.int .u8 (bitsI BinOp.and .u8 (by3 b (0:Nat)%(16:Int)*(16:Int)) (63:Int)))) (.c (.int .u8 (by3 b (0:Nat)%(4:Int)*(16:Int)))),EqvD (.c (.int .u8 (bitsI BinOp.and .u8 (by3 b (0:Nat)%(16:Int)*(16:Int)) (63:Int)))) (.c (.int .u8 (by3 b (0:Nat)%(4:Int)*(16:Int)))),(0:Int)≤(1:Int)∧(1:Int)<(↑(3:Nat):Int),EqvI (.c (.int .u8 ((by3 b (1:Nat)).fdiv ((2:Int)^(4:Nat))))) (.c (.int .u8 (by3 b (1:Nat) / (16:Int)))),EqvD (.c (.int .u8 ((by3 b (1:Nat)).fdiv ((2:Int)^(4:Nat))))) (.c (.int .u8 (by3 b (1:Nat) / (16:Int)))),(0:Int)≤(4:Int),EqvI (.c (.int .u8 (bitsI BinOp.or .u8 (by3 b (0:Nat)%(4:Int)*(16:Int)) (by3 b (1:Nat) / (16:Int))))) (.c (.int .u8 (by3 b (0:Nat)%(4:Int)*(16:Int)+by3 b (1:Nat) / (16:Int)))),EqvD (.c (.int .u8 (bitsI BinOp.or .u8 (by3 b (0:Nat)%(4:Int)*(16:Int)) (by3 b (1:Nat) / (16:Int))))) (.c (.int .u8 (by3 b (0:Nat)%(4:Int)*(16:Int)+by3 b (1:Nat) / (16:Int)))),(0:Int)≤(1:Int)∧(1:Int)<(↑(3:Nat):Int),EqvI (.c (.int .u8 (IntKind.u8.wrap (by3 b (1:Nat)*(2:Int)^(2:Nat))))) (.c (.int .u8 (by3 b (1:Nat)%(64:Int)*(4:Int)))),EqvD (.c (.int .u8 (IntKind.u8.wrap (by3 b (1:Nat)*(2:Int)^(2:Nat))))) (.c (.int .u8 (by3 b (1:Nat)%(64:Int)*(4:Int)))),(0:Int)≤(2:Int),EqvI (.c (.int .u8 (bitsI BinOp.and .u8 (by3 b (1:Nat)%(64:Int)*(4:Int)) (63:Int)))) (.c (.int .u8 (by3 b (1:Nat)%(16:Int)*(4:Int)))),EqvD (.c (.int .u8 (bitsI BinOp.and .u8 (by3 b (1:Nat)%(64:Int)*(4:Int)) (63:Int)))) (.c (.int .u8 (by3 b (1:Nat)%(16:Int)*(4:Int)))),(0:Int)≤(2:Int)∧(2:Int)<(↑(3:Nat):Int),EqvI (.c (.int .u8 ((by3 b (2:Nat)).fdiv ((2:Int)^(6:Nat))))) (.c (.int .u8 (by3 b (2:Nat) / (64:Int)))),EqvD (.c (.int .u8 ((by3 b (2:Nat)).fdiv ((2:Int)^(6:Nat))))) (.c (.int .u8 (by3 b (2:Nat) / (64:Int)))),(0:Int)≤(6:Int),EqvI (.c (.int .u8 (bitsI BinOp.or .u8 (by3 b (1:Nat)%(16:Int)*(4:Int)) (by3 b (2:Nat) / (64:Int))))) (.c (.int .u8 (by3 b (1:Nat)%(16:Int)*(4:Int)+by3 b (2:Nat) / (64:Int)))),EqvD (.c (.int .u8 (bitsI BinOp.or .u8 (by3 b (1:Nat)%(16:Int)*(4:Int)) (by3 b (2:Nat) / (64:Int))))) (.c (.int .u8 (by3 b (1:Nat)%(16:Int)*(4:Int)+by3 b (2:Nat) / (64:Int)))),(0:Int)≤(2:Int)∧(2:Int)<(↑(3:Nat):Int),EqvI (.c (.int .u8 (bitsI BinOp.and .u8 (by3 b (2:Nat)) (63:Int)))) (.c (.int .u8 (by3 b (2:Nat)%(64:Int)))),EqvD (.c (.int .u8 (bitsI BinOp.and .u8 (by3 b (2:Nat)) (63:Int)))) (.c (.int .u8 (by3 b (2:Nat)%(64:Int))))] ⟨⟨dC,⟨dC,dC⟩⟩,aS,oM,aS,aS,oM,fun _ _=>trivial,aS,oM,oM,fun _ _=>trivial,aS,oM,fun _ _=>trivial,aS,oM,fun _ _=>trivial,aS,oM,fun _ _=>trivial,aS,oM,fun _ _=>trivial,aS,oM,fun _ _=>trivial,aS,oM,fun _ _=>trivial,aS,oM,fun _ _=>trivial,aS,oM,fun _ _=>trivial,(show EqvD (.c (.int .u8 (bitsI BinOp.and .u8 (by3 b (2:Nat)) (63:Int)))) (.c (.int .u8 (by3 b (2:Nat)%(64:Int)))) from aS)⟩ ?_
 exact zr
end Go.Proofs.Tw
end
section

end
section

end
section
open Go Go.Sv Go.RowKit
namespace Go.Proofs.Tw
set_option maxRecDepth 100000
set_option maxHeartbeats 4000000
def sgE (x:Int):UInt8:=sgs.getD x.toNat 0
def outE (c:List UInt8):List UInt8:=([sgE (by3 c 0 / 4),sgE (by3 c 0%4*16+by3 c 1 / 16),sgE (by3 c 1%16*4+by3 c 2 / 64),sgE (by3 c 2%64)]).take (c.length+1)
theorem by3_at (b:List UInt8) (i j:Nat) (hj:j<3):by3 ((b.drop i).take 3) j=if i+j<b.length then ((b.getD (i+j) 0).toNat:Int) else 0:=by
 unfold by3
 rw [List.getD_eq_getElem?_getD,List.getElem?_take,if_pos hj,List.getElem?_drop]
 by_cases h:i+j<b.length
 ·rw [if_pos h,List.getD_eq_getElem?_getD]
 ·rw [if_neg h,List.getElem?_eq_none oM];rfl
theorem v3_at (b:List UInt8) (i:Nat):v3 b i 3=by3 ((b.drop i).take 3) 0*65536+by3 ((b.drop i).take 3) 1*256+by3 ((b.drop i).take 3) 2:=by
 rw [by3_at b i 0 oM,by3_at b i 1 oM,by3_at b i 2 oM]
 simp only [v3]
 repeat' split
 all_goals omega
theorem n3_at (b:List UInt8) (i:Nat):n3 b i 3=((b.drop i).take 3).length:=by
 rw [List.length_take,List.length_drop]
 simp only [n3]
 repeat' split
 all_goals omega
theorem sixE_at (x y z:Int) (hx:0≤x∧x<256) (hy:0≤y∧y<256) (hz:0≤z∧z<256) :
  six (x*65536+y*256+z) 0=x / 4∧six (x*65536+y*256+z) 1=x%4*16+y / 16∧six (x*65536+y*256+z) 2=y%16*4+z / 64∧six (x*65536+y*256+z) 3=z%64:=by
 unfold six
 rw [Int.fdiv_eq_ediv_of_nonneg _ dC,Int.fdiv_eq_ediv_of_nonneg _ dC,Int.fdiv_eq_ediv_of_nonneg _ dC,Int.fdiv_eq_ediv_of_nonneg _ dC]
 simp only [show (2:Int)^(18-6*0)=262144 from rfl,show (2:Int)^(18-6*1)=4096 from rfl,show (2:Int)^(18-6*2)=64 from rfl,show (2:Int)^(18-6*3)=1 from rfl]
 refine ⟨?_,?_,?_,?_⟩<;>omega
theorem grp_out (b:List UInt8) (g:Nat) (hg:3*g<b.length):grp b g=outE ((b.drop (3*g)).take 3):=by
 unfold grp
 rw [n3_at,v3_at]
 generalize hc:(b.drop (3*g)).take 3=c
 have hl:c.length≤3:=by rw [← hc,List.length_take];omega
 obtain ⟨s0,s1,s2,s3⟩:=sixE_at (by3 c 0) (by3 c 1) (by3 c 2) (by3_rng c 0) (by3_rng c 1) (by3_rng c 2)
 generalize by3 c 0*65536+by3 c 1*256+by3 c 2=v at *
 have e0:sgn6 v 0=sgE (by3 c 0 / 4):=by unfold sgn6 sgE;rw [s0]
 have e1:sgn6 v 1=sgE (by3 c 0%4*16+by3 c 1 / 16):=by unfold sgn6 sgE;rw [s1]
 have e2:sgn6 v 2=sgE (by3 c 1%16*4+by3 c 2 / 64):=by unfold sgn6 sgE;rw [s2]
 have e3:sgn6 v 3=sgE (by3 c 2%64):=by unfold sgn6 sgE;rw [s3]
 unfold outE
 rw [← e0,← e1,← e2,← e3]
 match hn:c.length,hl with
 | 0,_=>rfl
 | 1,_=>rfl
 | 2,_=>rfl
 | 3,_=>rfl
end Go.Proofs.Tw
end
section
open Go Go.Sv Go.RowKit
namespace Go.Proofs.Tw
def HasPow (G:Nat→Option (List Cell)):Prop:=G 5=some (Lib.pow10Tab.map fun z => .int .u64 z)
def HasLen (G:Nat→Option (List Cell)):Prop:=∃ m:Int,G 2=some [.int .i64 m]
theorem itoa_p {G:Nat→Option (List Cell)} [Back G] (hp:HasPow G) (n:Int) (h0 : -9223372036854775808≤n) (h1:n≤9223372036854775807):Pur Tryz.prog G 221 [.c (.int .i64 n)] [.c (.str (Lib.itoa n))]:=lib_Itoa 5 kR hp n h0 h1
end Go.Proofs.Tw
end
section
open Go Go.Sv Go.RowKit
namespace Go.Proofs.Tw
attribute [local irreducible] Wp FinQ resV Ent Pur Go.Sv.Fn Sat0
set_option maxRecDepth 100000
set_option maxHeartbeats 4000000
variable {G:Nat→Option (List Cell)}
theorem ws_a {G:Nat→Option (List Cell)} [Back G] (s:List UInt8) (hm:s.length≤140737488355328):FnB Tryz.prog G 255 [.box 224 [.nilptr,.nilsl]] [.c (.ptr 0 0),.c (.str s)] [.c (.int .i64 s.length),.c .nilif]
  [(0,.box 224 [.ptr 0 0,.row 1 1 0 (0+s.length)]),(1,.row 5 1 (0+s.length) (bytesF s))]:=by
 refine zf Tryz.func255 ?_
 refine zg [(1,{cs:=[(1,cb [0] cc_a)]}),(2,{bs:=[(6,.row 5 1 (0+s.length) (bytesF s))]})] [] [(0+s.length)*1≤140737488355328,BlkEqv (.row 5 1 (0+s.length) (catF 0 (fun _ _ => .nilif) (bytesF s))) (.row 5 1 (0+s.length) (bytesF s))] ⟨by omega,?_⟩ ?_
 ·refine BlkEqv.row_ext rfl fun i hi j hj => ?_
  unfold catF
  rw [if_neg oM,Nat.sub_zero]
 exact zb [161]
structure MT where
 (first:List UInt8) (head:List FT) (body:List UInt8)
def encM (m:MT):List Cell:=[.str m.first,encH m.head,.str m.body]
def seenL (l:List (List UInt8)):List (List UInt8×V1):=l.map fun s=>(s,.c (.bool true))
theorem seenL_get (l:List (List UInt8)) (s:List UInt8):mget (seenL l) s (.c (.bool false)) = .c (.bool (l.contains s)):=by
 have:=seen_get l l.length s
 rwa [seenM,List.take_length] at this
theorem seenL_set (l:List (List UInt8)) (s:List UInt8) (h:l.contains s=false):mset (seenL l) s (.c (.bool true))=seenL (l++[s]):=by
 have:=seen_set (l++[s]) l.length (by simp) (by simpa using h)
 rw [seenM,seenM,List.take_left,show l.length+1=(l++[s]).length from by simp,List.take_length] at this
 simpa [seenL,List.getD] using this
def fOk (seen:List (List UInt8)) (f:FT):Bool := !(bif bif bif !(tokenT f.name) then true else !(foldT f.name==f.name) then true else seen.contains f.name then true else !(f.value.all seenB))
def fieldsOk:List (List UInt8)→List FT→Bool
 | _,[]=>true
 | seen,f::r=>fOk seen f&&fieldsOk (seen++[f.name]) r
def namesF (l:List FT) (k:Nat):List (List UInt8):=[99,111,110,116,101,110,116,45,108,101,110,103,116,104]::(l.take k).map (·.name)
def roomT (m:MT):Int:=if m.body==[] then 24 else 23
def fieldedT (m:MT):Bool:=fieldsOk [[99,111,110,116,101,110,116,45,108,101,110,103,116,104]] m.head&&decide ((m.head.length:Int)≤roomT m)
theorem namesF_succ (l:List FT) (k:Nat) (h:k<l.length):namesF l (k+1)=namesF l k++[(l.getD k .nil).name]:=by
 unfold namesF
 rw [List.take_succ_eq_append_getElem h,List.map_append,List.getD_eq_getElem?_getD,List.getElem?_eq_getElem h]
 rfl
theorem fielded_ok {G:Nat→Option (List Cell)} [Back G] (m:MT) (hn:m.head.length<4611686018427387904) (hs:∀ f∈m.head,f.name.length≤140737488355328∧f.value.length≤140737488355328):Pur Tryz.prog G 258 [.agg (encM m)] [.c (.bool (fieldedT m))]:=by
 refine Pur.of Tryz.func258 (by kernel_rfl) (by kernel_rfl) (by kernel_rfl) ?_
 cases hb:m.body==[] with
 | true =>
  have hb':(!(m.body==[]))=false:=by rw [hb];rfl
  have hr:roomT m=24:=by unfold roomT;rw [if_pos hb]
  refine Wp.go (mx:=true) (fun _=>mixed) [] 100 [false] [(!m.body==[])=false] (by kernel_rfl) (by kernel_rfl) (by kernel_rfl) hb' ?_
  refine Wp.loopK (by kernel_rfl) (fun (k:Nat)=>⟨[(1,TV.v (V1.c (Cell.ptr 0 0))),(3,TV.v (V1.c (Cell.int .i64 (24:Int)))),(4,TV.v (V1.c (Cell.map 32))),(15,TV.v (V1.c (encH m.head))),(16,TV.v (V1.c (Cell.int .i64 (m.head.length:Int)))),(17,TV.v (V1.c (Cell.int .i64 (k:Int))))],[(0,Blk.box 182 (encM m)),(32,Blk.ob (Ob.ms (seenL (namesF m.head k))))],224⟩) (fun k=>k≤m.head.length∧fieldsOk [[99,111,110,116,101,110,116,45,108,101,110,103,116,104]] m.head=fieldsOk (namesF m.head k) (m.head.drop k)) (fun k=>m.head.length-k) 0 (Ent.of [] (by kernel_rfl) (by kernel_rfl) (by kernel_rfl) trivial) ⟨Nat.zero_le _,rfl⟩ ?_
  intro k L ⟨hk,hq⟩ again
  rcases Nat.lt_or_ge k m.head.length with hlt | hge
  ·rw [drop_cons m.head k .nil hlt,fieldsOk] at hq
   have hm:m.head.getD k .nil∈m.head:=by simp [List.getD,hlt]
   have hs1:=(hs _ hm).1
   have hs2:=(hs _ hm).2
   have e0:EqvD (mget (seenL (namesF m.head k)) (m.head.getD k .nil).name (.c (.bool false))) (.c (.bool ((namesF m.head k).contains (m.head.getD k .nil).name))):=eqvD_of (seenL_get _ _)
   cases hf:fOk (namesF m.head k) (m.head.getD k .nil) with
   | false =>
    rw [hf,Bool.false_and] at hq
    have hb:fieldedT m=false:=by unfold fieldedT;rw [hq];rfl
    rw [hb]
    have ht:(bif bif bif !(tokenT (m.head.getD k .nil).name) then true else !(foldT (m.head.getD k .nil).name==(m.head.getD k .nil).name) then true else (namesF m.head k).contains (m.head.getD k .nil).name then true else !((m.head.getD k .nil).value.all seenB))=true:=by unfold fOk at hf;rw [Bool.not_eq_false'] at hf;exact hf
    refine Wp.go (mx:=true) (fun _=>mixed) [(7,{cs:=[(2,pc (token_ok ((m.head.getD k FT.nil).name) (by omega))),(7,pc (fold_ok ((m.head.getD k FT.nil).name) (by assumption))),(21,pc (seen_ok ((m.head.getD k FT.nil).value) (by omega)))],fm:=[(16,.c (.bool ((namesF m.head k).contains (m.head.getD k .nil).name)))]})] 100 [true,true] [decide ((↑k:Int)<(↑m.head.length:Int))=true,(0:Int)≤(↑k:Int)∧(↑k:Int)<(↑m.head.length:Int),EqvI (mget (seenL (namesF m.head k)) (m.head.getD k FT.nil).name (V1.c (Cell.bool false))) (V1.c (Cell.bool ((namesF m.head k).contains (m.head.getD k FT.nil).name))),(bif !tokenT (m.head.getD k FT.nil).name then true else !foldT (m.head.getD k FT.nil).name==(m.head.getD k FT.nil).name)=false→EqvD (mget (seenL (namesF m.head k)) (m.head.getD k FT.nil).name (V1.c (Cell.bool false))) (V1.c (Cell.bool ((namesF m.head k).contains (m.head.getD k FT.nil).name))),(bif bif bif !tokenT (m.head.getD k FT.nil).name then true else !foldT (m.head.getD k FT.nil).name==(m.head.getD k FT.nil).name then true else (namesF m.head k).contains (m.head.getD k FT.nil).name then true else !(m.head.getD k FT.nil).value.all seenB)=true] (by kernel_rfl) (by kernel_rfl) (by kernel_rfl) ⟨(by simp;omega),(by omega),fun _ _=>trivial,(by intro _;assumption),(show (bif bif bif !tokenT (m.head.getD k FT.nil).name then true else !foldT (m.head.getD k FT.nil).name==(m.head.getD k FT.nil).name then true else (namesF m.head k).contains (m.head.getD k FT.nil).name then true else !(m.head.getD k FT.nil).value.all seenB)=true from (by assumption))⟩ ?_
    refine Wp.ret' (by kernel_rfl) ?_
    exact FinQ.pure (rs':=[V1.c (Cell.bool false)]) (by kernel_rfl) rfl (by kernel_rfl)
   | true =>
    rw [hf,Bool.true_and,← namesF_succ _ _ hlt] at hq
    have ht:(bif bif bif !(tokenT (m.head.getD k .nil).name) then true else !(foldT (m.head.getD k .nil).name==(m.head.getD k .nil).name) then true else (namesF m.head k).contains (m.head.getD k .nil).name then true else !((m.head.getD k .nil).value.all seenB))=false:=by unfold fOk at hf;rw [Bool.not_eq_true'] at hf;exact hf
    have hc:(namesF m.head k).contains (m.head.getD k .nil).name=false:=by
     cases hc:(namesF m.head k).contains (m.head.getD k .nil).name with
     | false=>rfl
     | true=>rw [hc] at ht; revert ht; cases tokenT (m.head.getD k .nil).name<;>cases foldT (m.head.getD k .nil).name==(m.head.getD k .nil).name<;>(intro h; cases h)
    have e2:BlkEqv (.ob (.ms (mset (seenL (namesF m.head k)) (m.head.getD k .nil).name (.c (.bool true))))) (.ob (.ms (seenL (namesF m.head (k+1))))):=BlkEqv.of_eq (by rw [seenL_set _ _ hc,namesF_succ _ _ hlt])
    refine Wp.go (mx:=true) (fun _=>mixed) [(7,{cs:=[(2,pc (token_ok ((m.head.getD k FT.nil).name) (by omega))),(7,pc (fold_ok ((m.head.getD k FT.nil).name) (by assumption))),(21,pc (seen_ok ((m.head.getD k FT.nil).value) (by omega)))],fm:=[(16,.c (.bool ((namesF m.head k).contains (m.head.getD k .nil).name)))]}),(9,{bs:=[(3,.ob (.ms (seenL (namesF m.head (k+1)))))]})] 100 [true,false] [decide ((↑k:Int)<(↑m.head.length:Int))=true,(0:Int)≤(↑k:Int)∧(↑k:Int)<(↑m.head.length:Int),EqvI (mget (seenL (namesF m.head k)) (m.head.getD k FT.nil).name (V1.c (Cell.bool false))) (V1.c (Cell.bool ((namesF m.head k).contains (m.head.getD k FT.nil).name))),(bif !tokenT (m.head.getD k FT.nil).name then true else !foldT (m.head.getD k FT.nil).name==(m.head.getD k FT.nil).name)=false→EqvD (mget (seenL (namesF m.head k)) (m.head.getD k FT.nil).name (V1.c (Cell.bool false))) (V1.c (Cell.bool ((namesF m.head k).contains (m.head.getD k FT.nil).name))),(bif bif bif !tokenT (m.head.getD k FT.nil).name then true else !foldT (m.head.getD k FT.nil).name==(m.head.getD k FT.nil).name then true else (namesF m.head k).contains (m.head.getD k FT.nil).name then true else !(m.head.getD k FT.nil).value.all seenB)=false,BlkEqv (Blk.ob (Ob.ms (mset (seenL (namesF m.head k)) (m.head.getD k FT.nil).name (V1.c (Cell.bool true))))) (Blk.ob (Ob.ms (seenL (namesF m.head (k+(1:Nat)))))),inR IntKind.i64 ((↑k:Int)+(1:Int))] (by kernel_rfl) (by kernel_rfl) (by kernel_rfl) ⟨(by simp;omega),(by omega),fun _ _=>trivial,(by intro _;assumption),(by assumption),(by assumption),inR64 (by omega) (by omega)⟩ ?_
    exact za [] (again _ (k+1) (⟨aS,aS⟩) oM)
  ·obtain rfl:k=m.head.length:=by omega
   rw [List.drop_length,fieldsOk] at hq
   have hb:fieldedT m=decide ((m.head.length:Int)≤24):=by unfold fieldedT;rw [hq,hr];rfl
   rw [hb]
   refine zg [] [false] [decide ((↑m.head.length:Int)<(↑m.head.length:Int))=false] ((show decide ((↑m.head.length:Int)<(↑m.head.length:Int))=false from (by simp;done))) ?_
   refine Wp.ret' (by kernel_rfl) ?_
   exact FinQ.pure (rs':=[V1.c (Cell.bool (decide ((↑m.head.length:Int)≤(24:Int))))]) (by kernel_rfl) rfl (by kernel_rfl)
 | false =>
  have hb':(!(m.body==[]))=true:=by rw [hb];rfl
  have hr:roomT m=23:=by unfold roomT;rw [if_neg (by rw [hb];decide)]
  refine Wp.go (mx:=true) (fun _=>mixed) [] 100 [true] [(!m.body==[])=true,inR .i64 ((24:Int)-(1:Int))] (by kernel_rfl) (by kernel_rfl) (by kernel_rfl) ⟨hb',inR64 (by decide) (by decide)⟩ ?_
  refine Wp.loopK (by kernel_rfl) (fun (k:Nat)=>⟨[(1,TV.v (V1.c (Cell.ptr 0 0))),(3,TV.v (V1.c (Cell.int .i64 ((24:Int)-(1:Int))))),(4,TV.v (V1.c (Cell.map 32))),(15,TV.v (V1.c (encH m.head))),(16,TV.v (V1.c (Cell.int .i64 (m.head.length:Int)))),(17,TV.v (V1.c (Cell.int .i64 (k:Int))))],[(0,Blk.box 182 (encM m)),(32,Blk.ob (Ob.ms (seenL (namesF m.head k))))],272⟩) (fun k=>k≤m.head.length∧fieldsOk [[99,111,110,116,101,110,116,45,108,101,110,103,116,104]] m.head=fieldsOk (namesF m.head k) (m.head.drop k)) (fun k=>m.head.length-k) 0 (Ent.of [] (by kernel_rfl) (by kernel_rfl) (by kernel_rfl) trivial) ⟨Nat.zero_le _,rfl⟩ ?_
  intro k L ⟨hk,hq⟩ again
  rcases Nat.lt_or_ge k m.head.length with hlt | hge
  ·rw [drop_cons m.head k .nil hlt,fieldsOk] at hq
   have hm:m.head.getD k .nil∈m.head:=by simp [List.getD,hlt]
   have hs1:=(hs _ hm).1
   have hs2:=(hs _ hm).2
   have e0:EqvD (mget (seenL (namesF m.head k)) (m.head.getD k .nil).name (.c (.bool false))) (.c (.bool ((namesF m.head k).contains (m.head.getD k .nil).name))):=eqvD_of (seenL_get _ _)
   cases hf:fOk (namesF m.head k) (m.head.getD k .nil) with
   | false =>
    rw [hf,Bool.false_and] at hq
    have hb:fieldedT m=false:=by unfold fieldedT;rw [hq];rfl
    rw [hb]
    have ht:(bif bif bif !(tokenT (m.head.getD k .nil).name) then true else !(foldT (m.head.getD k .nil).name==(m.head.getD k .nil).name) then true else (namesF m.head k).contains (m.head.getD k .nil).name then true else !((m.head.getD k .nil).value.all seenB))=true:=by unfold fOk at hf;rw [Bool.not_eq_false'] at hf;exact hf
    refine Wp.go (mx:=true) (fun _=>mixed) [(7,{cs:=[(2,pc (token_ok ((m.head.getD k FT.nil).name) (by omega))),(7,pc (fold_ok ((m.head.getD k FT.nil).name) (by assumption))),(21,pc (seen_ok ((m.head.getD k FT.nil).value) (by omega)))],fm:=[(16,.c (.bool ((namesF m.head k).contains (m.head.getD k .nil).name)))]})] 100 [true,true] [decide ((↑k:Int)<(↑m.head.length:Int))=true,(0:Int)≤(↑k:Int)∧(↑k:Int)<(↑m.head.length:Int),EqvI (mget (seenL (namesF m.head k)) (m.head.getD k FT.nil).name (V1.c (Cell.bool false))) (V1.c (Cell.bool ((namesF m.head k).contains (m.head.getD k FT.nil).name))),(bif !tokenT (m.head.getD k FT.nil).name then true else !foldT (m.head.getD k FT.nil).name==(m.head.getD k FT.nil).name)=false→EqvD (mget (seenL (namesF m.head k)) (m.head.getD k FT.nil).name (V1.c (Cell.bool false))) (V1.c (Cell.bool ((namesF m.head k).contains (m.head.getD k FT.nil).name))),(bif bif bif !tokenT (m.head.getD k FT.nil).name then true else !foldT (m.head.getD k FT.nil).name==(m.head.getD k FT.nil).name then true else (namesF m.head k).contains (m.head.getD k FT.nil).name then true else !(m.head.getD k FT.nil).value.all seenB)=true] (by kernel_rfl) (by kernel_rfl) (by kernel_rfl) ⟨(by simp;omega),(by omega),fun _ _=>trivial,(by intro _;assumption),(show (bif bif bif !tokenT (m.head.getD k FT.nil).name then true else !foldT (m.head.getD k FT.nil).name==(m.head.getD k FT.nil).name then true else (namesF m.head k).contains (m.head.getD k FT.nil).name then true else !(m.head.getD k FT.nil).value.all seenB)=true from (by assumption))⟩ ?_
    refine Wp.ret' (by kernel_rfl) ?_
    exact FinQ.pure (rs':=[V1.c (Cell.bool false)]) (by kernel_rfl) rfl (by kernel_rfl)
   | true =>
    rw [hf,Bool.true_and,← namesF_succ _ _ hlt] at hq
    have ht:(bif bif bif !(tokenT (m.head.getD k .nil).name) then true else !(foldT (m.head.getD k .nil).name==(m.head.getD k .nil).name) then true else (namesF m.head k).contains (m.head.getD k .nil).name then true else !((m.head.getD k .nil).value.all seenB))=false:=by unfold fOk at hf;rw [Bool.not_eq_true'] at hf;exact hf
    have hc:(namesF m.head k).contains (m.head.getD k .nil).name=false:=by
     cases hc:(namesF m.head k).contains (m.head.getD k .nil).name with
     | false=>rfl
     | true=>rw [hc] at ht; revert ht; cases tokenT (m.head.getD k .nil).name<;>cases foldT (m.head.getD k .nil).name==(m.head.getD k .nil).name<;>(intro h; cases h)
    have e2:BlkEqv (.ob (.ms (mset (seenL (namesF m.head k)) (m.head.getD k .nil).name (.c (.bool true))))) (.ob (.ms (seenL (namesF m.head (k+1))))):=BlkEqv.of_eq (by rw [seenL_set _ _ hc,namesF_succ _ _ hlt])
    refine Wp.go (mx:=true) (fun _=>mixed) [(7,{cs:=[(2,pc (token_ok ((m.head.getD k FT.nil).name) (by omega))),(7,pc (fold_ok ((m.head.getD k FT.nil).name) (by assumption))),(21,pc (seen_ok ((m.head.getD k FT.nil).value) (by omega)))],fm:=[(16,.c (.bool ((namesF m.head k).contains (m.head.getD k .nil).name)))]}),(9,{bs:=[(3,.ob (.ms (seenL (namesF m.head (k+1)))))]})] 100 [true,false] [decide ((↑k:Int)<(↑m.head.length:Int))=true,(0:Int)≤(↑k:Int)∧(↑k:Int)<(↑m.head.length:Int),EqvI (mget (seenL (namesF m.head k)) (m.head.getD k FT.nil).name (V1.c (Cell.bool false))) (V1.c (Cell.bool ((namesF m.head k).contains (m.head.getD k FT.nil).name))),(bif !tokenT (m.head.getD k FT.nil).name then true else !foldT (m.head.getD k FT.nil).name==(m.head.getD k FT.nil).name)=false→EqvD (mget (seenL (namesF m.head k)) (m.head.getD k FT.nil).name (V1.c (Cell.bool false))) (V1.c (Cell.bool ((namesF m.head k).contains (m.head.getD k FT.nil).name))),(bif bif bif !tokenT (m.head.getD k FT.nil).name then true else !foldT (m.head.getD k FT.nil).name==(m.head.getD k FT.nil).name then true else (namesF m.head k).contains (m.head.getD k FT.nil).name then true else !(m.head.getD k FT.nil).value.all seenB)=false,BlkEqv (Blk.ob (Ob.ms (mset (seenL (namesF m.head k)) (m.head.getD k FT.nil).name (V1.c (Cell.bool true))))) (Blk.ob (Ob.ms (seenL (namesF m.head (k+(1:Nat)))))),inR IntKind.i64 ((↑k:Int)+(1:Int))] (by kernel_rfl) (by kernel_rfl) (by kernel_rfl) ⟨(by simp;omega),(by omega),fun _ _=>trivial,(by intro _;assumption),(by assumption),(by assumption),inR64 (by omega) (by omega)⟩ ?_
    exact za [] (again _ (k+1) (⟨aS,aS⟩) oM)
  ·obtain rfl:k=m.head.length:=by omega
   rw [List.drop_length,fieldsOk] at hq
   have hb:fieldedT m=decide ((m.head.length:Int)≤23):=by unfold fieldedT;rw [hq,hr];rfl
   rw [hb]
   refine zg [] [false] [decide ((↑m.head.length:Int)<(↑m.head.length:Int))=false] ((show decide ((↑m.head.length:Int)<(↑m.head.length:Int))=false from (by simp;done))) ?_
   exact zr
def fieldL (f:FT):List UInt8:=f.name++[58,32]++f.value++[13,10]
def headN (m:MT) (k:Nat):List UInt8:=m.first++[13,10]++(m.head.take k).flatMap fieldL
def lenL (m:MT):List UInt8:=if m.body==[] then [] else [99,111,110,116,101,110,116,45,108,101,110,103,116,104,58,32]++Lib.itoa m.body.length++[13,10]
def aheadT (m:MT):List UInt8:=headN m m.head.length++lenL m++[13,10]
theorem headN_succ (m:MT) (k:Nat) (h:k<m.head.length):headN m (k+1)=headN m k++fieldL (m.head.getD k .nil):=by
 unfold headN
 rw [List.take_succ_eq_append_getElem h,List.flatMap_append,List.getD_eq_getElem?_getD,List.getElem?_eq_getElem h]
 simp
theorem headN_le (m:MT) {k n:Nat} (h:k≤n):(headN m k).length≤(headN m n).length:=by
 obtain ⟨d,rfl⟩:=Nat.exists_eq_add_of_le h
 induction d with
 | zero=>exact Nat.le_refl _
 | succ d ih =>
  refine Nat.le_trans (ih oM) ?_
  rcases Nat.lt_or_ge (k+d) m.head.length with hlt | hge
  ·rw [← Nat.add_assoc,headN_succ m _ hlt];simp
  ·unfold headN
   rw [List.take_of_length_le hge,List.take_of_length_le oM]
   exact Nat.le_refl _
theorem field_len (f:FT):(fieldL f).length=f.name.length+f.value.length+4:=by
 unfold fieldL;simp;omega
theorem ahead_ok {G:Nat→Option (List Cell)} [Back G] (hp:HasPow G) (m:MT) (hn:m.head.length<4611686018427387904) (hb:m.body.length≤140737488355328) (hA:(aheadT m).length≤100000000000000):Pur Tryz.prog G 223 [.agg (encM m)] [.c (.str (aheadT m))]:=by
 refine zp Tryz.func223 ?_
 have hA1:(headN m m.head.length).length+(lenL m).length+2≤100000000000000:=by
  unfold aheadT at hA;simp only [List.length_append] at hA;simpa using hA
 have h0:=headN_le m (Nat.zero_le m.head.length)
 have h0':(headN m 0).length=m.first.length+2:=by unfold headN;simp
 refine zg [(2,{cs:=[(3,cb [32] (ws_a (m.first++[(13:UInt8),10]) sO))]})] [] [m.first.length+2≤9223372036854775807] ((show m.first.length+(2:Nat)≤(9223372036854775807:Nat) from oM)) ?_
 refine zl (fun (x:Nat×Nat×List UInt8)=>⟨[(1,.v (.c (.ptr 0 0))),(3,.v (.c (.ptr 32 0))),(11,.v (.c (encH m.head))),(12,.v (.c (.int .i64 (m.head.length:Int)))),(13,.v (.c (.int .i64 (x.1:Int))))],[(0,.box 182 (encM m)),(32,.box 224 [.ptr 32 0,.row 1 96 0 x.2.1]),(96,.row 5 1 x.2.1 (bytesF x.2.2))],176⟩) (fun x=>x.1≤m.head.length∧x.2.2=headN m x.1∧x.2.1=x.2.2.length) (fun x=>m.head.length-x.1) (0,0+(m.first++[13,10]).length,m.first++[13,10]) ⟨Nat.zero_le _,by unfold headN;simp,by simp⟩ ?_
 rintro ⟨k,n,l⟩ L ⟨hk,hq,hnl⟩ again
 simp only at hk hq hnl
 have h1:=headN_le m hk
 rw [← hq,← hnl] at h1
 rcases Nat.lt_or_ge k m.head.length with hlt | hge
 ·have h2:=headN_le m (show k+1≤m.head.length from hlt)
  rw [headN_succ m k hlt,List.length_append,field_len,← hq,← hnl] at h2
  have h3:l++((m.head.getD k .nil).name++[58,32]++(m.head.getD k .nil).value++[13,10])=headN m (k+1):=by rw [headN_succ m k hlt,← hq];rfl
  have h4:n+((m.head.getD k .nil).name++[58,32]++(m.head.getD k .nil).value++[13,10]).length=(l++((m.head.getD k .nil).name++[58,32]++(m.head.getD k .nil).value++[13,10])).length:=by rw [hnl];exact List.length_append.symm
  refine zg [(6,{cs:=[(7,cb [32,96] (ws_b n l aS ((m.head.getD k .nil).name++[(58:UInt8),32]++(m.head.getD k .nil).value++[(13:UInt8),10]) (by simp_all<;>omega)))]})] [true] [decide ((k:Int)<(m.head.length:Int))=true,(0:Int)≤(k:Int)∧(k:Int)<(m.head.length:Int),(m.head.getD k .nil).name.length+2≤9223372036854775807,((m.head.getD k .nil).name++[(58:UInt8),32]).length+(m.head.getD k .nil).value.length≤(9223372036854775807:Nat),((m.head.getD k .nil).name++[(58:UInt8),32]++(m.head.getD k .nil).value).length+(2:Nat)≤(9223372036854775807:Nat),inR .i64 ((k:Int)+1)] ⟨sO,oM,oM,(by simp_all<;>omega),(by simp_all<;>omega),i6⟩ ?_
  exact za [(96,368)] (again _ (k+1,n+((m.head.getD k .nil).name++[58,32]++(m.head.getD k .nil).value++[13,10]).length,l++((m.head.getD k .nil).name++[58,32]++(m.head.getD k .nil).value++[13,10])) ⟨aS,⟨aS,aS⟩⟩ oM)
 ·obtain rfl:k=m.head.length:=by omega
  have h5:(headN m 0).length≤n:=by rw [hnl,hq];exact headN_le m (Nat.zero_le _)
  have hpos:0<n:=by omega
  cases hbo:m.body==[] with
  | true =>
   have hb':(!(m.body==[]))=false:=by rw [hbo];rfl
   have hT:aheadT m=l++[13,10]:=by unfold aheadT lenL;rw [hbo,if_pos rfl,hq];simp
   rw [hT]
   have h6:n+2≤100000000000000:=by omega
   refine zg [(10,{cs:=[(0,cb [32,96] (str_b n l aS aS oM))]})] [false,false] [decide ((m.head.length:Int)<(m.head.length:Int))=false,(!m.body==[])=false,l.length+2≤9223372036854775807] ⟨(by simp;done),aS,(show l.length+(2:Nat)≤(9223372036854775807:Nat) from oM)⟩ ?_
   exact zr
  | false =>
   have hb':(!(m.body==[]))=true:=by rw [hbo];rfl
   have hT:aheadT m=l++([99,111,110,116,101,110,116,45,108,101,110,103,116,104,58,32]++Lib.itoa (m.body.length:Int)++[13,10])++[13,10]:=by unfold aheadT lenL;rw [hbo,if_neg dC,hq]
   rw [hT]
   have h6:n+(16+((Lib.itoa (m.body.length:Int)).length+2))+2≤100000000000000:=by
    have:(lenL m).length=16+((Lib.itoa (m.body.length:Int)).length+2):=by unfold lenL;rw [hbo,if_neg dC];simp;omega
    omega
   refine zg [(9,{cs:=[(3,pc (itoa_p hp (m.body.length:Int) oM oM)),(6,cb [32,96] (ws_b n l aS ([(99:UInt8),111,110,116,101,110,116,45,108,101,110,103,116,104,58,32]++Lib.itoa (m.body.length:Int)++[(13:UInt8),10]) sO))]}),(10,{cs:=[(0,cb [32,336] (str_b (n+([(99:UInt8),111,110,116,101,110,116,45,108,101,110,103,116,104,58,32]++Lib.itoa (m.body.length:Int)++[(13:UInt8),10]).length) (l++([(99:UInt8),111,110,116,101,110,116,45,108,101,110,103,116,104,58,32]++Lib.itoa (m.body.length:Int)++[(13:UInt8),10])) sO oM sO))]})] [false,true] [decide ((m.head.length:Int)<(m.head.length:Int))=false,(!m.body==[])=true,(16:Nat)+(Lib.itoa (m.body.length:Int)).length≤(9223372036854775807:Nat),([(99:UInt8),111,110,116,101,110,116,45,108,101,110,103,116,104,58,32]++Lib.itoa (m.body.length:Int)).length+(2:Nat)≤(9223372036854775807:Nat),(l++([(99:UInt8),111,110,116,101,110,116,45,108,101,110,103,116,104,58,32]++Lib.itoa (m.body.length:Int)++[(13:UInt8),10])).length+(2:Nat)≤(9223372036854775807:Nat)] ⟨(by simp;done),aS,oM,sO,(show (l++([(99:UInt8),111,110,116,101,110,116,45,108,101,110,103,116,104,58,32]++Lib.itoa (↑m.body.length:Int)++[(13:UInt8),10])).length+(2:Nat)≤(9223372036854775807:Nat) from sO)⟩ ?_
   exact zr
theorem ar_a {G:Nat→Option (List Cell)} [Back G] (c:UInt8) (hc:c.toNat<128):FnB Tryz.prog G 278 [] [.c .nilsl,.c (.int .i32 (c.toNat:Int))] [.c (.row 1 0 0 1)] [(0,.row 5 1 1 (bytesF [c]))]:=by
 refine zf Tryz.func278 ?_
 have hm:IntKind.u8.wrap (c.toNat:Int)=(c.toNat:Int):=by have:=UInt8.toNat_lt c;simp [IntKind.wrap,IntKind.bits,IntKind.signed];omega
 have hw:IntKind.u32.wrap (c.toNat:Int)=(c.toNat:Int):=by have:=UInt8.toNat_lt c;simp [IntKind.wrap,IntKind.bits,IntKind.signed];omega
 have ht:decide (IntKind.u32.wrap (c.toNat:Int)≤127)=true:=by rw [hw];simp;omega
 have e1:BlkEqv (.row 5 1 1 (catF 0 (fun _ _ => .nilif) (fun i j=>nthD [.int .u8 (IntKind.u8.wrap (c.toNat:Int))] ((0+i)*1+j)))) (.row 5 1 1 (bytesF [c])):=by
  rw [hm]
  refine BlkEqv.row_ext rfl fun i hi j hj => ?_
  obtain ⟨rfl,rfl⟩:i=0∧j=0:=by omega
  rfl
 refine zg [(2,{bs:=[(4,.row 5 1 1 (bytesF [c]))]})] [true] [decide (IntKind.u32.wrap (c.toNat:Int)≤(127:Int))=true,1≤140737488355328,BlkEqv (.row 5 (1:Nat) (1:Nat) (catF (0:Nat) (fun (x x_1:Nat) => .nilif) fun i j=>nthD [.int .u8 (IntKind.u8.wrap (c.toNat:Int))] (((0:Nat)+i)*(1:Nat)+j))) (.row 5 (1:Nat) (1:Nat) (bytesF [c])),0+1≤1] ⟨aS,oM,aS,(show (0:Nat)+(1:Nat)≤(1:Nat) from oM)⟩ ?_
 exact zb [128]
theorem ar_b {G:Nat→Option (List Cell)} [Back G] (n:Nat) (l:List UInt8) (hn:n=l.length) (hm:n+1≤140737488355328) (c:UInt8) (hc:c.toNat<128):FnB Tryz.prog G 278 [.row 5 1 n (bytesF l)] [.c (.row 1 0 0 n),.c (.int .i32 (c.toNat:Int))] [.c (.row 1 1 0 (n+1))] [(1,.row 5 1 (n+1) (bytesF (l++[c])))]:=by
 refine zf Tryz.func278 ?_
 have hm8:IntKind.u8.wrap (c.toNat:Int)=(c.toNat:Int):=by have:=UInt8.toNat_lt c;simp [IntKind.wrap,IntKind.bits,IntKind.signed];omega
 have hw:IntKind.u32.wrap (c.toNat:Int)=(c.toNat:Int):=by have:=UInt8.toNat_lt c;simp [IntKind.wrap,IntKind.bits,IntKind.signed];omega
 have ht:decide (IntKind.u32.wrap (c.toNat:Int)≤127)=true:=by rw [hw];simp;omega
 have e1:BlkEqv (.row 5 1 (n+1) (catF n (bytesF l) (fun i j=>nthD [.int .u8 (IntKind.u8.wrap (c.toNat:Int))] ((0+i)*1+j)))) (.row 5 1 (n+1) (bytesF (l++[c]))):=by
  rw [hm8]
  exact bytes_app l [c] hn
 refine zg [(2,{bs:=[(4,.row 5 1 (n+1) (bytesF (l++[c])))]})] [true] [decide (IntKind.u32.wrap (c.toNat:Int)≤(127:Int))=true,(n+1)*1≤140737488355328,BlkEqv (.row 5 (1:Nat) (n+(1:Nat)) (catF n (bytesF l) fun i j=>nthD [.int .u8 (IntKind.u8.wrap (c.toNat:Int))] (((0:Nat)+i)*(1:Nat)+j))) (.row 5 (1:Nat) (n+(1:Nat)) (bytesF (l++[c]))),n≤n,0+1≤1] ⟨aS,oM,aS,oM,(show (0:Nat)+(1:Nat)≤(1:Nat) from oM)⟩ ?_
 exact zb [129]
theorem wr_a {G:Nat→Option (List Cell)} [Back G] (c:UInt8) (hc:c.toNat<128):FnB Tryz.prog G 253 [.box 224 [.nilptr,.nilsl]] [.c (.ptr 0 0),.c (.int .i32 (c.toNat:Int))] [.c (.int .i64 1),.c .nilif] [(0,.box 224 [.ptr 0 0,.row 1 1 0 1]),(1,.row 5 1 1 (bytesF [c]))]:=by
 refine zf Tryz.func253 ?_
 refine zg [(1,{cs:=[(1,cb [0] cc_a)]}),(3,{cs:=[(6,cb [] (ar_a c aS))]})] [] [inR .i64 ((↑(1:Nat):Int)-(0:Int))] (i6) ?_
 exact zb [257]
theorem wr_b {G:Nat→Option (List Cell)} [Back G] (n:Nat) (l:List UInt8) (hn:n=l.length) (hm:n+1≤140737488355328) (c:UInt8) (hc:c.toNat<128):FnB Tryz.prog G 253 [.box 224 [.ptr 0 0,.row 1 1 0 n],.row 5 1 n (bytesF l)] [.c (.ptr 0 0),.c (.int .i32 (c.toNat:Int))] [.c (.int .i64 1),.c .nilif]
  [(0,.box 224 [.ptr 0 0,.row 1 2 0 (n+1)]),(2,.row 5 1 (n+1) (bytesF (l++[c])))]:=by
 refine zf Tryz.func253 ?_
 refine zg [(1,{cs:=[(1,cb [0,1] (cc_b n l))]}),(3,{cs:=[(6,cb [1] (ar_b n l aS aS c aS))]})] [] [inR .i64 ((↑(n+(1:Nat)):Int)-(n:Int))] (i6) ?_
 refine Wp.ret' kR ?_
 exact FinQ.blkE (rs':=[V1.c (Cell.int .i64 ((↑(n+(1:Nat)):Int)-(↑n:Int))),V1.c Cell.nilif]) (hout':=[(0,Blk.box 224 [Cell.ptr (0:Nat) (0:Nat),Cell.row (1:Nat) (2:Nat) (0:Nat) (n+(1:Nat))]),(2,Blk.row 5 (1:Nat) (n+(1:Nat)) (bytesF (l++[c])))]) ⟨by rw [show ((↑(n+1:Nat):Int)-(↑n:Int))=1 from by omega],rfl⟩ [258] kR kR kR kR kR trivial
theorem str_a {G:Nat→Option (List Cell)} [Back G]:FnB Tryz.prog G 197 [.box 224 [.nilptr,.nilsl]] [.c (.ptr 0 0)] [.c (.str [])] []:=by
 refine zf Tryz.func197 ?_
 refine zg [] [] [(0:Int)=(0:Int)] rfl ?_
 exact zr
def hexU:List UInt8:=[48,49,50,51,52,53,54,55,56,57,65,66,67,68,69,70]
def pctB (form:Bool) (c:UInt8):List UInt8:=if plainB c then [c] else if form&&c==32 then [43] else [37,hexU.getD (c.toNat / 16) 0,hexU.getD (c.toNat%16) 0]
def pctT (form:Bool) (s:List UInt8):List UInt8:=s.flatMap (pctB form)
def pctN (form:Bool) (s:List UInt8) (k:Nat):List UInt8:=(s.take k).flatMap (pctB form)
theorem pctN_succ (form:Bool) (s:List UInt8) (k:Nat) (h:k<s.length):pctN form s (k+1)=pctN form s k++pctB form (s.getD k 0):=by
 unfold pctN
 rw [List.take_succ_eq_append_getElem h,List.flatMap_append,List.getD_eq_getElem?_getD,List.getElem?_eq_getElem h]
 simp
theorem pctN_end (form:Bool) (s:List UInt8):pctN form s s.length=pctT form s:=by unfold pctN pctT;rw [List.take_length]
theorem pctB_len (form:Bool) (c:UInt8):1≤(pctB form c).length∧(pctB form c).length≤3:=by
 unfold pctB
 split
 ·exact ⟨Nat.le_refl _,by simp⟩
 ·split<;>simp
theorem pctN_len (form:Bool) (s:List UInt8):∀ k,k≤s.length→k≤(pctN form s k).length∧(pctN form s k).length≤3*k
 | 0,_=>by simp [pctN]
 | k+1,h=>by
  have h1:=pctN_len form s k oM
  have h2:=pctB_len form (s.getD k 0)
  rw [pctN_succ form s k oM,List.length_append]
  omega
theorem pct_cells:∀ c:UInt8,((c.toNat:Int).tdiv 16=((c.toNat / 16:Nat):Int))∧((c.toNat:Int).tmod 16=((c.toNat%16:Nat):Int)):=fun c=>⟨rfl,rfl⟩
end Go.Proofs.Tw
end
section
open Go Go.Sv Go.RowKit
namespace Go.Proofs.Tw
attribute [local irreducible] Wp FinQ resV Ent Pur Go.Sv.Fn Sat0
set_option maxRecDepth 100000
set_option maxHeartbeats 4000000
variable {G:Nat→Option (List Cell)} [Back G]
def encWb (b:List UInt8):Nat×Option (Nat×List UInt8)→St
 | (g,none)=>⟨[(0,.v (.c (.sl 1 (b.length-3*g) (bytesF (b.drop (3*g)))))),(2,.v (.c (.str []))),(3,.v (.c (.ptr 16 0)))],[(16,.box 224 [.nilptr,.nilsl])],32⟩
 | (g,some (n,l))=>⟨[(0,.v (.c (.sl 1 (b.length-3*g) (bytesF (b.drop (3*g)))))),(2,.v (.c (.str []))),(3,.v (.c (.ptr 16 0)))],[(16,.box 224 [.ptr 16 0,.row 1 0 0 n]),(0,.row 5 1 n (bytesF l))],32⟩
theorem encE_ok (b:List UInt8) (hb:b.length≤1000000):Pur Tryz.prog G 145 [.c (.sl 1 b.length (bytesF b))] [.c (.str (enc8 b))]:=by
 refine zp Tryz.func145 ?_
 refine z0 [] [] ?_
 refine zl (encWb b) (encOF b) (fun x=>b.length+3-3*x.1) (0,none) rfl ?_
 rintro ⟨g,o⟩ W hx again
 by_cases hg:3*g<b.length
 ·have hgr:=grp_out b g hg
  have hm:((b.drop (3*g)).take 3).length=min 3 (b.length-3*g):=by rw [List.length_take,List.length_drop]
  have e2:EqvD (.c (.sl 1 ((Int.ofNat ((b.drop (3*g)).take 3).length).toNat-0) (fun i j=>bytesF (b.drop (3*g)) (0+i) j))) (.c (.sl 1 ((b.drop (3*g)).take 3).length (bytesF ((b.drop (3*g)).take 3)))):=by
   refine EqvD.sl rfl fun i hi j hj => ?_
   have hi:i<((b.drop (3*g)).take 3).length:=hi
   rw [hm] at hi
   show bytesF (b.drop (3*g)) (0+i) j=bytesF ((b.drop (3*g)).take 3) i j
   unfold bytesF
   rw [Nat.zero_add,List.getD_eq_getElem?_getD,List.getD_eq_getElem?_getD,List.getElem?_take,if_pos oM]
  have e3:EqvD (.c (.sl 1 ((b.length-3*g)-(Int.ofNat ((b.drop (3*g)).take 3).length).toNat) (fun i j=>bytesF (b.drop (3*g)) ((Int.ofNat ((b.drop (3*g)).take 3).length).toNat+i) j))) (.c (.sl 1 (b.length-3*(g+1)) (bytesF (b.drop (3*(g+1)))))):=by
   have hq:(Int.ofNat ((b.drop (3*g)).take 3).length).toNat=min 3 (b.length-3*g):=hm
   rw [hq]
   refine EqvD.sl oM fun i hi j hj => ?_
   unfold bytesF
   rw [List.getD_eq_getElem?_getD,List.getD_eq_getElem?_getD,List.getElem?_drop,List.getElem?_drop]
   congr 3
   rw [show 3*g+(min 3 (b.length-3*g)+i)=3*(g+1)+i by omega]
  generalize hc:(b.drop (3*g)).take 3=c at *
  have hc3:c.length≤3:=by omega
  have hc1:1≤c.length:=by omega
  have hcl:c.length≤b.length-3*g:=by omega
  have e1:EqvD (.c (.int .i64 (if ((b.length-3*g:Nat):Int)<(3:Int) then ((b.length-3*g:Nat):Int) else (3:Int)))) (.c (.int .i64 (c.length:Int))):=eqvD_of (by congr 2;split<;>omega)
  have c4:=four_ok (G:=G) c hc3
  have r0:=by3_rng c 0
  have r1:=by3_rng c 1
  have r2:=by3_rng c 2
  have hlt:decide (((b.length-3*g:Nat):Int)>(0:Int))=true:=by simp;omega
  match o,hx with
  | none,hx =>
   by_cases hl1:c.length=1
   ·have w0:=wb_a (G:=G) (sgE (by3 c 0 / 4))
    have w1:=wb_b (G:=G) (1) ([sgE (by3 c 0 / 4)]) rfl oM (sgE (by3 c 0%4*16+by3 c 1 / 16))
    have hfin:encOF b (g+1,some (1+1,[sgE (by3 c 0 / 4)]++[sgE (by3 c 0%4*16+by3 c 1 / 16)])):=by
     have hG:encG b (g+1)=encG b g++outE c:=by show encG b g++grp b g=_;rw [hgr]
     have hO:outE c=[sgE (by3 c 0 / 4),sgE (by3 c 0%4*16+by3 c 1 / 16)]:=by unfold outE;rw [hl1];rfl
     obtain rfl:g=0:=hx
     refine ⟨by omega,by omega,?_,rfl,by omega⟩
     rw [hG,hO];rfl
    clear hgr hc hm
    refine zg [(3,{fm:=[(2,.c (.int .i64 (c.length:Int)))]}),(4,{cs:=[(4,pc c4)],fm:=[(3,.c (.sl 1 c.length (bytesF c)))]}),(10,{fm:=[(2,.c (.sl 1 (b.length-3*(g+1)) (bytesF (b.drop (3*(g+1))))))]})] [true] [decide ((↑(b.length-(3:Nat)*g):Int)>(0:Int))=true,EqvI (.c (.int .i64 (if (↑(b.length-(3:Nat)*g):Int)<(3:Int) then (↑(b.length-(3:Nat)*g):Int) else (3:Int)))) (.c (.int .i64 (c.length:Int))),EqvD (.c (.int .i64 (if (↑(b.length-(3:Nat)*g):Int)<(3:Int) then (↑(b.length-(3:Nat)*g):Int) else (3:Int)))) (.c (.int .i64 (c.length:Int))),EqvI (.c (.sl 1 ((Int.ofNat c.length).toNat-(0:Nat)) fun i j=>bytesF (List.drop ((3:Nat)*g) b) ((0:Nat)+i) j)) (.c (.sl 1 c.length (bytesF c))),EqvD (.c (.sl 1 ((Int.ofNat c.length).toNat-(0:Nat)) fun i j=>bytesF (List.drop ((3:Nat)*g) b) ((0:Nat)+i) j)) (.c (.sl 1 c.length (bytesF c))),(0:Int)≤Int.ofNat (0)∧Int.ofNat (0)≤Int.ofNat c.length∧Int.ofNat c.length≤Int.ofNat c.length∧Int.ofNat c.length≤(↑(b.length-(3:Nat)*g):Int),inR .i64 ((c.length:Int)+1),(0:Int)≤Int.ofNat (0)∧Int.ofNat (0)≤Int.ofNat (c.length+1)∧Int.ofNat (c.length+1)≤(↑(4:Nat):Int)] ⟨aS,fun _ _=>trivial,aS,fun _ _=>trivial,aS,⟨dC,⟨(by simp;done),⟨oM,sO⟩⟩⟩,i6,⟨dC,⟨sO,sO⟩⟩⟩ ?_
    refine Wp.unrK kR 5 (fun UL0 uUL0 => ?_)
    refine zg [(3,{fm:=[(2,.c (.int .i64 (c.length:Int)))]}),(4,{fm:=[(3,.c (.sl 1 c.length (bytesF c)))]}),(10,{fm:=[(2,.c (.sl 1 (b.length-3*(g+1)) (bytesF (b.drop (3*(g+1))))))]}),(8,{cs:=[(2,cb [16] w0)]})] [true] [decide ((0:Int)<(↑((Int.ofNat (c.length+1)).toNat-(0:Nat)):Int))=true,(0:Int)≤(0:Int)∧(0:Int)<(↑((Int.ofNat (c.length+1)).toNat-(0:Nat)):Int),(0:Int)≤by3 c (0:Nat) / (4:Int)∧by3 c (0:Nat) / (4:Int)<(↑(64:Nat):Int),inR .i64 (0+1)] ⟨(by simp;done),⟨oM,(by simp;done)⟩,oM,i6⟩ ?_
    refine Wp.lpK kR (uUL0 4 _ ?_)
    refine zg [(3,{fm:=[(2,.c (.int .i64 (c.length:Int)))]}),(4,{fm:=[(3,.c (.sl 1 c.length (bytesF c)))]}),(10,{fm:=[(2,.c (.sl 1 (b.length-3*(g+1)) (bytesF (b.drop (3*(g+1))))))]}),(8,{cs:=[(2,cb [16,432] w1)]})] [true] [decide ((0:Int)+(1:Int)<(↑((Int.ofNat (c.length+1)).toNat-(0:Nat)):Int))=true,(0:Int)≤(0:Int)+(1:Int)∧(0:Int)+(1:Int)<(↑((Int.ofNat (c.length+1)).toNat-(0:Nat)):Int),(0:Int)≤by3 c (0:Nat)%(4:Int)*(16:Int)+by3 c (1:Nat) / (16:Int)∧by3 c (0:Nat)%(4:Int)*(16:Int)+by3 c (1:Nat) / (16:Int)<(↑(64:Nat):Int),inR .i64 (0+1+1)] ⟨sO,⟨oM,sO⟩,oM,i6⟩ ?_
    refine Wp.lpK kR (uUL0 3 _ ?_)
    refine zg [(3,{fm:=[(2,.c (.int .i64 (c.length:Int)))]}),(4,{fm:=[(3,.c (.sl 1 c.length (bytesF c)))]}),(10,{fm:=[(2,.c (.sl 1 (b.length-3*(g+1)) (bytesF (b.drop (3*(g+1))))))]})] [false] [decide ((0:Int)+(1:Int)+(1:Int)<(↑((Int.ofNat (c.length+1)).toNat-(0:Nat)):Int))=false,EqvI (.c (.sl 1 ((Int.ofNat (b.length-(3:Nat)*g)).toNat-(Int.ofNat c.length).toNat) fun i j=>bytesF (List.drop ((3:Nat)*g) b) ((Int.ofNat c.length).toNat+i) j)) (.c (.sl 1 (b.length-(3:Nat)*(g+(1:Nat))) (bytesF (List.drop ((3:Nat)*(g+(1:Nat))) b)))),EqvD (.c (.sl 1 ((Int.ofNat (b.length-(3:Nat)*g)).toNat-(Int.ofNat c.length).toNat) fun i j=>bytesF (List.drop ((3:Nat)*g) b) ((Int.ofNat c.length).toNat+i) j)) (.c (.sl 1 (b.length-(3:Nat)*(g+(1:Nat))) (bytesF (List.drop ((3:Nat)*(g+(1:Nat))) b)))),(0:Int)≤Int.ofNat c.length∧Int.ofNat c.length≤Int.ofNat (b.length-(3:Nat)*g)∧Int.ofNat (b.length-(3:Nat)*g)≤(↑(b.length-(3:Nat)*g):Int)] ⟨sO,fun _ _=>trivial,aS,⟨(by simp;done),⟨sO,(by simp;done)⟩⟩⟩ ?_
    exact za [(0,576)] (again _ (g+1,some (1+1,[sgE (by3 c 0 / 4)]++[sgE (by3 c 0%4*16+by3 c 1 / 16)])) hfin (by show b.length+3-3*(g+1)<b.length+3-3*g;omega))
   by_cases hl2:c.length=2
   ·have w0:=wb_a (G:=G) (sgE (by3 c 0 / 4))
    have w1:=wb_b (G:=G) (1) ([sgE (by3 c 0 / 4)]) rfl oM (sgE (by3 c 0%4*16+by3 c 1 / 16))
    have w2:=wb_b (G:=G) (1+1) ([sgE (by3 c 0 / 4)]++[sgE (by3 c 0%4*16+by3 c 1 / 16)]) rfl oM (sgE (by3 c 1%16*4+by3 c 2 / 64))
    have hfin:encOF b (g+1,some (1+1+1,[sgE (by3 c 0 / 4)]++[sgE (by3 c 0%4*16+by3 c 1 / 16)]++[sgE (by3 c 1%16*4+by3 c 2 / 64)])):=by
     have hG:encG b (g+1)=encG b g++outE c:=by show encG b g++grp b g=_;rw [hgr]
     have hO:outE c=[sgE (by3 c 0 / 4),sgE (by3 c 0%4*16+by3 c 1 / 16),sgE (by3 c 1%16*4+by3 c 2 / 64)]:=by unfold outE;rw [hl2];rfl
     obtain rfl:g=0:=hx
     refine ⟨by omega,by omega,?_,rfl,by omega⟩
     rw [hG,hO];rfl
    clear hgr hc hm
    refine zg [(3,{fm:=[(2,.c (.int .i64 (c.length:Int)))]}),(4,{cs:=[(4,pc c4)],fm:=[(3,.c (.sl 1 c.length (bytesF c)))]}),(10,{fm:=[(2,.c (.sl 1 (b.length-3*(g+1)) (bytesF (b.drop (3*(g+1))))))]})] [true] [decide ((↑(b.length-(3:Nat)*g):Int)>(0:Int))=true,EqvI (.c (.int .i64 (if (↑(b.length-(3:Nat)*g):Int)<(3:Int) then (↑(b.length-(3:Nat)*g):Int) else (3:Int)))) (.c (.int .i64 (c.length:Int))),EqvD (.c (.int .i64 (if (↑(b.length-(3:Nat)*g):Int)<(3:Int) then (↑(b.length-(3:Nat)*g):Int) else (3:Int)))) (.c (.int .i64 (c.length:Int))),EqvI (.c (.sl 1 ((Int.ofNat c.length).toNat-(0:Nat)) fun i j=>bytesF (List.drop ((3:Nat)*g) b) ((0:Nat)+i) j)) (.c (.sl 1 c.length (bytesF c))),EqvD (.c (.sl 1 ((Int.ofNat c.length).toNat-(0:Nat)) fun i j=>bytesF (List.drop ((3:Nat)*g) b) ((0:Nat)+i) j)) (.c (.sl 1 c.length (bytesF c))),(0:Int)≤Int.ofNat (0)∧Int.ofNat (0)≤Int.ofNat c.length∧Int.ofNat c.length≤Int.ofNat c.length∧Int.ofNat c.length≤(↑(b.length-(3:Nat)*g):Int),inR .i64 ((c.length:Int)+1),(0:Int)≤Int.ofNat (0)∧Int.ofNat (0)≤Int.ofNat (c.length+1)∧Int.ofNat (c.length+1)≤(↑(4:Nat):Int)] ⟨aS,fun _ _=>trivial,aS,fun _ _=>trivial,aS,⟨dC,⟨(by simp;done),⟨oM,sO⟩⟩⟩,i6,⟨dC,⟨sO,sO⟩⟩⟩ ?_
    refine Wp.unrK kR 5 (fun UL0 uUL0 => ?_)
    refine zg [(3,{fm:=[(2,.c (.int .i64 (c.length:Int)))]}),(4,{fm:=[(3,.c (.sl 1 c.length (bytesF c)))]}),(10,{fm:=[(2,.c (.sl 1 (b.length-3*(g+1)) (bytesF (b.drop (3*(g+1))))))]}),(8,{cs:=[(2,cb [16] w0)]})] [true] [decide ((0:Int)<(↑((Int.ofNat (c.length+1)).toNat-(0:Nat)):Int))=true,(0:Int)≤(0:Int)∧(0:Int)<(↑((Int.ofNat (c.length+1)).toNat-(0:Nat)):Int),(0:Int)≤by3 c (0:Nat) / (4:Int)∧by3 c (0:Nat) / (4:Int)<(↑(64:Nat):Int),inR .i64 (0+1)] ⟨(by simp;done),⟨oM,(by simp;done)⟩,oM,i6⟩ ?_
    refine Wp.lpK kR (uUL0 4 _ ?_)
    refine zg [(3,{fm:=[(2,.c (.int .i64 (c.length:Int)))]}),(4,{fm:=[(3,.c (.sl 1 c.length (bytesF c)))]}),(10,{fm:=[(2,.c (.sl 1 (b.length-3*(g+1)) (bytesF (b.drop (3*(g+1))))))]}),(8,{cs:=[(2,cb [16,432] w1)]})] [true] [decide ((0:Int)+(1:Int)<(↑((Int.ofNat (c.length+1)).toNat-(0:Nat)):Int))=true,(0:Int)≤(0:Int)+(1:Int)∧(0:Int)+(1:Int)<(↑((Int.ofNat (c.length+1)).toNat-(0:Nat)):Int),(0:Int)≤by3 c (0:Nat)%(4:Int)*(16:Int)+by3 c (1:Nat) / (16:Int)∧by3 c (0:Nat)%(4:Int)*(16:Int)+by3 c (1:Nat) / (16:Int)<(↑(64:Nat):Int),inR .i64 (0+1+1)] ⟨sO,⟨oM,sO⟩,oM,i6⟩ ?_
    refine Wp.lpK kR (uUL0 3 _ ?_)
    refine zg [(3,{fm:=[(2,.c (.int .i64 (c.length:Int)))]}),(4,{fm:=[(3,.c (.sl 1 c.length (bytesF c)))]}),(10,{fm:=[(2,.c (.sl 1 (b.length-3*(g+1)) (bytesF (b.drop (3*(g+1))))))]}),(8,{cs:=[(2,cb [16,576] w2)]})] [true] [decide ((0:Int)+(1:Int)+(1:Int)<(↑((Int.ofNat (c.length+1)).toNat-(0:Nat)):Int))=true,(0:Int)≤(0:Int)+(1:Int)+(1:Int)∧(0:Int)+(1:Int)+(1:Int)<(↑((Int.ofNat (c.length+1)).toNat-(0:Nat)):Int),(0:Int)≤by3 c (1:Nat)%(16:Int)*(4:Int)+by3 c (2:Nat) / (64:Int)∧by3 c (1:Nat)%(16:Int)*(4:Int)+by3 c (2:Nat) / (64:Int)<(↑(64:Nat):Int),inR .i64 (0+1+1+1)] ⟨sO,⟨oM,sO⟩,oM,i6⟩ ?_
    refine Wp.lpK kR (uUL0 2 _ ?_)
    refine zg [(3,{fm:=[(2,.c (.int .i64 (c.length:Int)))]}),(4,{fm:=[(3,.c (.sl 1 c.length (bytesF c)))]}),(10,{fm:=[(2,.c (.sl 1 (b.length-3*(g+1)) (bytesF (b.drop (3*(g+1))))))]})] [false] [decide ((0:Int)+(1:Int)+(1:Int)+(1:Int)<(↑((Int.ofNat (c.length+1)).toNat-(0:Nat)):Int))=false,EqvI (.c (.sl 1 ((Int.ofNat (b.length-(3:Nat)*g)).toNat-(Int.ofNat c.length).toNat) fun i j=>bytesF (List.drop ((3:Nat)*g) b) ((Int.ofNat c.length).toNat+i) j)) (.c (.sl 1 (b.length-(3:Nat)*(g+(1:Nat))) (bytesF (List.drop ((3:Nat)*(g+(1:Nat))) b)))),EqvD (.c (.sl 1 ((Int.ofNat (b.length-(3:Nat)*g)).toNat-(Int.ofNat c.length).toNat) fun i j=>bytesF (List.drop ((3:Nat)*g) b) ((Int.ofNat c.length).toNat+i) j)) (.c (.sl 1 (b.length-(3:Nat)*(g+(1:Nat))) (bytesF (List.drop ((3:Nat)*(g+(1:Nat))) b)))),(0:Int)≤Int.ofNat c.length∧Int.ofNat c.length≤Int.ofNat (b.length-(3:Nat)*g)∧Int.ofNat (b.length-(3:Nat)*g)≤(↑(b.length-(3:Nat)*g):Int)] ⟨sO,fun _ _=>trivial,aS,⟨(by simp;done),⟨sO,(by simp;done)⟩⟩⟩ ?_
    exact za [(0,720)] (again _ (g+1,some (1+1+1,[sgE (by3 c 0 / 4)]++[sgE (by3 c 0%4*16+by3 c 1 / 16)]++[sgE (by3 c 1%16*4+by3 c 2 / 64)])) hfin (by show b.length+3-3*(g+1)<b.length+3-3*g;omega))
   have hl3:c.length=3:=by omega
   have w0:=wb_a (G:=G) (sgE (by3 c 0 / 4))
   have w1:=wb_b (G:=G) (1) ([sgE (by3 c 0 / 4)]) rfl oM (sgE (by3 c 0%4*16+by3 c 1 / 16))
   have w2:=wb_b (G:=G) (1+1) ([sgE (by3 c 0 / 4)]++[sgE (by3 c 0%4*16+by3 c 1 / 16)]) rfl oM (sgE (by3 c 1%16*4+by3 c 2 / 64))
   have w3:=wb_b (G:=G) (1+1+1) ([sgE (by3 c 0 / 4)]++[sgE (by3 c 0%4*16+by3 c 1 / 16)]++[sgE (by3 c 1%16*4+by3 c 2 / 64)]) rfl oM (sgE (by3 c 2%64))
   have hfin:encOF b (g+1,some (1+1+1+1,[sgE (by3 c 0 / 4)]++[sgE (by3 c 0%4*16+by3 c 1 / 16)]++[sgE (by3 c 1%16*4+by3 c 2 / 64)]++[sgE (by3 c 2%64)])):=by
    have hG:encG b (g+1)=encG b g++outE c:=by show encG b g++grp b g=_;rw [hgr]
    have hO:outE c=[sgE (by3 c 0 / 4),sgE (by3 c 0%4*16+by3 c 1 / 16),sgE (by3 c 1%16*4+by3 c 2 / 64),sgE (by3 c 2%64)]:=by unfold outE;rw [hl3];rfl
    obtain rfl:g=0:=hx
    refine ⟨by omega,by omega,?_,rfl,by omega⟩
    rw [hG,hO];rfl
   clear hgr hc hm
   refine zg [(3,{fm:=[(2,.c (.int .i64 (c.length:Int)))]}),(4,{cs:=[(4,pc c4)],fm:=[(3,.c (.sl 1 c.length (bytesF c)))]}),(10,{fm:=[(2,.c (.sl 1 (b.length-3*(g+1)) (bytesF (b.drop (3*(g+1))))))]})] [true] [decide ((↑(b.length-(3:Nat)*g):Int)>(0:Int))=true,EqvI (.c (.int .i64 (if (↑(b.length-(3:Nat)*g):Int)<(3:Int) then (↑(b.length-(3:Nat)*g):Int) else (3:Int)))) (.c (.int .i64 (c.length:Int))),EqvD (.c (.int .i64 (if (↑(b.length-(3:Nat)*g):Int)<(3:Int) then (↑(b.length-(3:Nat)*g):Int) else (3:Int)))) (.c (.int .i64 (c.length:Int))),EqvI (.c (.sl 1 ((Int.ofNat c.length).toNat-(0:Nat)) fun i j=>bytesF (List.drop ((3:Nat)*g) b) ((0:Nat)+i) j)) (.c (.sl 1 c.length (bytesF c))),EqvD (.c (.sl 1 ((Int.ofNat c.length).toNat-(0:Nat)) fun i j=>bytesF (List.drop ((3:Nat)*g) b) ((0:Nat)+i) j)) (.c (.sl 1 c.length (bytesF c))),(0:Int)≤Int.ofNat (0)∧Int.ofNat (0)≤Int.ofNat c.length∧Int.ofNat c.length≤Int.ofNat c.length∧Int.ofNat c.length≤(↑(b.length-(3:Nat)*g):Int),inR .i64 ((c.length:Int)+1),(0:Int)≤Int.ofNat (0)∧Int.ofNat (0)≤Int.ofNat (c.length+1)∧Int.ofNat (c.length+1)≤(↑(4:Nat):Int)] ⟨aS,fun _ _=>trivial,aS,fun _ _=>trivial,aS,⟨dC,⟨(by simp;done),⟨oM,sO⟩⟩⟩,i6,⟨dC,⟨sO,sO⟩⟩⟩ ?_
   refine Wp.unrK kR 5 (fun UL0 uUL0 => ?_)
   refine zg [(3,{fm:=[(2,.c (.int .i64 (c.length:Int)))]}),(4,{fm:=[(3,.c (.sl 1 c.length (bytesF c)))]}),(10,{fm:=[(2,.c (.sl 1 (b.length-3*(g+1)) (bytesF (b.drop (3*(g+1))))))]}),(8,{cs:=[(2,cb [16] w0)]})] [true] [decide ((0:Int)<(↑((Int.ofNat (c.length+1)).toNat-(0:Nat)):Int))=true,(0:Int)≤(0:Int)∧(0:Int)<(↑((Int.ofNat (c.length+1)).toNat-(0:Nat)):Int),(0:Int)≤by3 c (0:Nat) / (4:Int)∧by3 c (0:Nat) / (4:Int)<(↑(64:Nat):Int),inR .i64 (0+1)] ⟨(by simp;done),⟨oM,(by simp;done)⟩,oM,i6⟩ ?_
   refine Wp.lpK kR (uUL0 4 _ ?_)
   refine zg [(3,{fm:=[(2,.c (.int .i64 (c.length:Int)))]}),(4,{fm:=[(3,.c (.sl 1 c.length (bytesF c)))]}),(10,{fm:=[(2,.c (.sl 1 (b.length-3*(g+1)) (bytesF (b.drop (3*(g+1))))))]}),(8,{cs:=[(2,cb [16,432] w1)]})] [true] [decide ((0:Int)+(1:Int)<(↑((Int.ofNat (c.length+1)).toNat-(0:Nat)):Int))=true,(0:Int)≤(0:Int)+(1:Int)∧(0:Int)+(1:Int)<(↑((Int.ofNat (c.length+1)).toNat-(0:Nat)):Int),(0:Int)≤by3 c (0:Nat)%(4:Int)*(16:Int)+by3 c (1:Nat) / (16:Int)∧by3 c (0:Nat)%(4:Int)*(16:Int)+by3 c (1:Nat) / (16:Int)<(↑(64:Nat):Int),inR .i64 (0+1+1)] ⟨sO,⟨oM,sO⟩,oM,i6⟩ ?_
   refine Wp.lpK kR (uUL0 3 _ ?_)
   refine zg [(3,{fm:=[(2,.c (.int .i64 (c.length:Int)))]}),(4,{fm:=[(3,.c (.sl 1 c.length (bytesF c)))]}),(10,{fm:=[(2,.c (.sl 1 (b.length-3*(g+1)) (bytesF (b.drop (3*(g+1))))))]}),(8,{cs:=[(2,cb [16,576] w2)]})] [true] [decide ((0:Int)+(1:Int)+(1:Int)<(↑((Int.ofNat (c.length+1)).toNat-(0:Nat)):Int))=true,(0:Int)≤(0:Int)+(1:Int)+(1:Int)∧(0:Int)+(1:Int)+(1:Int)<(↑((Int.ofNat (c.length+1)).toNat-(0:Nat)):Int),(0:Int)≤by3 c (1:Nat)%(16:Int)*(4:Int)+by3 c (2:Nat) / (64:Int)∧by3 c (1:Nat)%(16:Int)*(4:Int)+by3 c (2:Nat) / (64:Int)<(↑(64:Nat):Int),inR .i64 (0+1+1+1)] ⟨sO,⟨oM,sO⟩,oM,i6⟩ ?_
   refine Wp.lpK kR (uUL0 2 _ ?_)
   refine zg [(3,{fm:=[(2,.c (.int .i64 (c.length:Int)))]}),(4,{fm:=[(3,.c (.sl 1 c.length (bytesF c)))]}),(10,{fm:=[(2,.c (.sl 1 (b.length-3*(g+1)) (bytesF (b.drop (3*(g+1))))))]}),(8,{cs:=[(2,cb [16,720] w3)]})] [true] [decide ((0:Int)+(1:Int)+(1:Int)+(1:Int)<(↑((Int.ofNat (c.length+1)).toNat-(0:Nat)):Int))=true,(0:Int)≤(0:Int)+(1:Int)+(1:Int)+(1:Int)∧(0:Int)+(1:Int)+(1:Int)+(1:Int)<(↑((Int.ofNat (c.length+1)).toNat-(0:Nat)):Int),(0:Int)≤by3 c (2:Nat)%(64:Int)∧by3 c (2:Nat)%(64:Int)<(↑(64:Nat):Int),inR .i64 (0+1+1+1+1)] ⟨sO,⟨oM,sO⟩,oM,i6⟩ ?_
   refine Wp.lpK kR (uUL0 1 _ ?_)
   refine zg [(3,{fm:=[(2,.c (.int .i64 (c.length:Int)))]}),(4,{fm:=[(3,.c (.sl 1 c.length (bytesF c)))]}),(10,{fm:=[(2,.c (.sl 1 (b.length-3*(g+1)) (bytesF (b.drop (3*(g+1))))))]})] [false] [decide ((0:Int)+(1:Int)+(1:Int)+(1:Int)+(1:Int)<(↑((Int.ofNat (c.length+1)).toNat-(0:Nat)):Int))=false,EqvI (.c (.sl 1 ((Int.ofNat (b.length-(3:Nat)*g)).toNat-(Int.ofNat c.length).toNat) fun i j=>bytesF (List.drop ((3:Nat)*g) b) ((Int.ofNat c.length).toNat+i) j)) (.c (.sl 1 (b.length-(3:Nat)*(g+(1:Nat))) (bytesF (List.drop ((3:Nat)*(g+(1:Nat))) b)))),EqvD (.c (.sl 1 ((Int.ofNat (b.length-(3:Nat)*g)).toNat-(Int.ofNat c.length).toNat) fun i j=>bytesF (List.drop ((3:Nat)*g) b) ((Int.ofNat c.length).toNat+i) j)) (.c (.sl 1 (b.length-(3:Nat)*(g+(1:Nat))) (bytesF (List.drop ((3:Nat)*(g+(1:Nat))) b)))),(0:Int)≤Int.ofNat c.length∧Int.ofNat c.length≤Int.ofNat (b.length-(3:Nat)*g)∧Int.ofNat (b.length-(3:Nat)*g)≤(↑(b.length-(3:Nat)*g):Int)] ⟨sO,fun _ _=>trivial,aS,⟨(by simp;done),⟨sO,(by simp;done)⟩⟩⟩ ?_
   exact za [(0,864)] (again _ (g+1,some (1+1+1+1,[sgE (by3 c 0 / 4)]++[sgE (by3 c 0%4*16+by3 c 1 / 16)]++[sgE (by3 c 1%16*4+by3 c 2 / 64)]++[sgE (by3 c 2%64)])) hfin (by show b.length+3-3*(g+1)<b.length+3-3*g;omega))
  | some (n,l),hx =>
   obtain ⟨x1,x2,x3,x4,x5⟩:=hx
   by_cases hl1:c.length=1
   ·have w0:=wb_b (G:=G) (n) (l) x4 oM (sgE (by3 c 0 / 4))
    have w1:=wb_b (G:=G) (n+1) (l++[sgE (by3 c 0 / 4)]) (by simp [← x4]) oM (sgE (by3 c 0%4*16+by3 c 1 / 16))
    have hfin:encOF b (g+1,some (n+1+1,l++[sgE (by3 c 0 / 4)]++[sgE (by3 c 0%4*16+by3 c 1 / 16)])):=by
     have hG:encG b (g+1)=encG b g++outE c:=by show encG b g++grp b g=_;rw [hgr]
     have hO:outE c=[sgE (by3 c 0 / 4),sgE (by3 c 0%4*16+by3 c 1 / 16)]:=by unfold outE;rw [hl1];rfl
     refine ⟨by omega,by omega,?_,by simp [← x4],by omega⟩
     rw [hG,hO,x3];simp
    clear hgr hc hm
    refine zg [(3,{fm:=[(2,.c (.int .i64 (c.length:Int)))]}),(4,{cs:=[(4,pc c4)],fm:=[(3,.c (.sl 1 c.length (bytesF c)))]}),(10,{fm:=[(2,.c (.sl 1 (b.length-3*(g+1)) (bytesF (b.drop (3*(g+1))))))]})] [true] [decide ((↑(b.length-(3:Nat)*g):Int)>(0:Int))=true,EqvI (.c (.int .i64 (if (↑(b.length-(3:Nat)*g):Int)<(3:Int) then (↑(b.length-(3:Nat)*g):Int) else (3:Int)))) (.c (.int .i64 (c.length:Int))),EqvD (.c (.int .i64 (if (↑(b.length-(3:Nat)*g):Int)<(3:Int) then (↑(b.length-(3:Nat)*g):Int) else (3:Int)))) (.c (.int .i64 (c.length:Int))),EqvI (.c (.sl 1 ((Int.ofNat c.length).toNat-(0:Nat)) fun i j=>bytesF (List.drop ((3:Nat)*g) b) ((0:Nat)+i) j)) (.c (.sl 1 c.length (bytesF c))),EqvD (.c (.sl 1 ((Int.ofNat c.length).toNat-(0:Nat)) fun i j=>bytesF (List.drop ((3:Nat)*g) b) ((0:Nat)+i) j)) (.c (.sl 1 c.length (bytesF c))),(0:Int)≤Int.ofNat (0)∧Int.ofNat (0)≤Int.ofNat c.length∧Int.ofNat c.length≤Int.ofNat c.length∧Int.ofNat c.length≤(↑(b.length-(3:Nat)*g):Int),inR .i64 ((c.length:Int)+1),(0:Int)≤Int.ofNat (0)∧Int.ofNat (0)≤Int.ofNat (c.length+1)∧Int.ofNat (c.length+1)≤(↑(4:Nat):Int)] ⟨aS,fun _ _=>trivial,aS,fun _ _=>trivial,aS,⟨dC,⟨(by simp;done),⟨oM,sO⟩⟩⟩,i6,⟨dC,⟨sO,sO⟩⟩⟩ ?_
    refine Wp.unrK kR 5 (fun UL0 uUL0 => ?_)
    refine zg [(3,{fm:=[(2,.c (.int .i64 (c.length:Int)))]}),(4,{fm:=[(3,.c (.sl 1 c.length (bytesF c)))]}),(10,{fm:=[(2,.c (.sl 1 (b.length-3*(g+1)) (bytesF (b.drop (3*(g+1))))))]}),(8,{cs:=[(2,cb [16,0] w0)]})] [true] [decide ((0:Int)<(↑((Int.ofNat (c.length+1)).toNat-(0:Nat)):Int))=true,(0:Int)≤(0:Int)∧(0:Int)<(↑((Int.ofNat (c.length+1)).toNat-(0:Nat)):Int),(0:Int)≤by3 c (0:Nat) / (4:Int)∧by3 c (0:Nat) / (4:Int)<(↑(64:Nat):Int),inR .i64 (0+1)] ⟨(by simp;done),⟨oM,(by simp;done)⟩,oM,i6⟩ ?_
    refine Wp.lpK kR (uUL0 4 _ ?_)
    refine zg [(3,{fm:=[(2,.c (.int .i64 (c.length:Int)))]}),(4,{fm:=[(3,.c (.sl 1 c.length (bytesF c)))]}),(10,{fm:=[(2,.c (.sl 1 (b.length-3*(g+1)) (bytesF (b.drop (3*(g+1))))))]}),(8,{cs:=[(2,cb [16,432] w1)]})] [true] [decide ((0:Int)+(1:Int)<(↑((Int.ofNat (c.length+1)).toNat-(0:Nat)):Int))=true,(0:Int)≤(0:Int)+(1:Int)∧(0:Int)+(1:Int)<(↑((Int.ofNat (c.length+1)).toNat-(0:Nat)):Int),(0:Int)≤by3 c (0:Nat)%(4:Int)*(16:Int)+by3 c (1:Nat) / (16:Int)∧by3 c (0:Nat)%(4:Int)*(16:Int)+by3 c (1:Nat) / (16:Int)<(↑(64:Nat):Int),inR .i64 (0+1+1)] ⟨sO,⟨oM,sO⟩,oM,i6⟩ ?_
    refine Wp.lpK kR (uUL0 3 _ ?_)
    refine zg [(3,{fm:=[(2,.c (.int .i64 (c.length:Int)))]}),(4,{fm:=[(3,.c (.sl 1 c.length (bytesF c)))]}),(10,{fm:=[(2,.c (.sl 1 (b.length-3*(g+1)) (bytesF (b.drop (3*(g+1))))))]})] [false] [decide ((0:Int)+(1:Int)+(1:Int)<(↑((Int.ofNat (c.length+1)).toNat-(0:Nat)):Int))=false,EqvI (.c (.sl 1 ((Int.ofNat (b.length-(3:Nat)*g)).toNat-(Int.ofNat c.length).toNat) fun i j=>bytesF (List.drop ((3:Nat)*g) b) ((Int.ofNat c.length).toNat+i) j)) (.c (.sl 1 (b.length-(3:Nat)*(g+(1:Nat))) (bytesF (List.drop ((3:Nat)*(g+(1:Nat))) b)))),EqvD (.c (.sl 1 ((Int.ofNat (b.length-(3:Nat)*g)).toNat-(Int.ofNat c.length).toNat) fun i j=>bytesF (List.drop ((3:Nat)*g) b) ((Int.ofNat c.length).toNat+i) j)) (.c (.sl 1 (b.length-(3:Nat)*(g+(1:Nat))) (bytesF (List.drop ((3:Nat)*(g+(1:Nat))) b)))),(0:Int)≤Int.ofNat c.length∧Int.ofNat c.length≤Int.ofNat (b.length-(3:Nat)*g)∧Int.ofNat (b.length-(3:Nat)*g)≤(↑(b.length-(3:Nat)*g):Int)] ⟨sO,fun _ _=>trivial,aS,⟨(by simp;done),⟨sO,(by simp;done)⟩⟩⟩ ?_
    exact za [(0,576)] (again _ (g+1,some (n+1+1,l++[sgE (by3 c 0 / 4)]++[sgE (by3 c 0%4*16+by3 c 1 / 16)])) hfin (by show b.length+3-3*(g+1)<b.length+3-3*g;omega))
   by_cases hl2:c.length=2
   ·have w0:=wb_b (G:=G) (n) (l) x4 oM (sgE (by3 c 0 / 4))
    have w1:=wb_b (G:=G) (n+1) (l++[sgE (by3 c 0 / 4)]) (by simp [← x4]) oM (sgE (by3 c 0%4*16+by3 c 1 / 16))
    have w2:=wb_b (G:=G) (n+1+1) (l++[sgE (by3 c 0 / 4)]++[sgE (by3 c 0%4*16+by3 c 1 / 16)]) (by simp [← x4]) oM (sgE (by3 c 1%16*4+by3 c 2 / 64))
    have hfin:encOF b (g+1,some (n+1+1+1,l++[sgE (by3 c 0 / 4)]++[sgE (by3 c 0%4*16+by3 c 1 / 16)]++[sgE (by3 c 1%16*4+by3 c 2 / 64)])):=by
     have hG:encG b (g+1)=encG b g++outE c:=by show encG b g++grp b g=_;rw [hgr]
     have hO:outE c=[sgE (by3 c 0 / 4),sgE (by3 c 0%4*16+by3 c 1 / 16),sgE (by3 c 1%16*4+by3 c 2 / 64)]:=by unfold outE;rw [hl2];rfl
     refine ⟨by omega,by omega,?_,by simp [← x4],by omega⟩
     rw [hG,hO,x3];simp
    clear hgr hc hm
    refine zg [(3,{fm:=[(2,.c (.int .i64 (c.length:Int)))]}),(4,{cs:=[(4,pc c4)],fm:=[(3,.c (.sl 1 c.length (bytesF c)))]}),(10,{fm:=[(2,.c (.sl 1 (b.length-3*(g+1)) (bytesF (b.drop (3*(g+1))))))]})] [true] [decide ((↑(b.length-(3:Nat)*g):Int)>(0:Int))=true,EqvI (.c (.int .i64 (if (↑(b.length-(3:Nat)*g):Int)<(3:Int) then (↑(b.length-(3:Nat)*g):Int) else (3:Int)))) (.c (.int .i64 (c.length:Int))),EqvD (.c (.int .i64 (if (↑(b.length-(3:Nat)*g):Int)<(3:Int) then (↑(b.length-(3:Nat)*g):Int) else (3:Int)))) (.c (.int .i64 (c.length:Int))),EqvI (.c (.sl 1 ((Int.ofNat c.length).toNat-(0:Nat)) fun i j=>bytesF (List.drop ((3:Nat)*g) b) ((0:Nat)+i) j)) (.c (.sl 1 c.length (bytesF c))),EqvD (.c (.sl 1 ((Int.ofNat c.length).toNat-(0:Nat)) fun i j=>bytesF (List.drop ((3:Nat)*g) b) ((0:Nat)+i) j)) (.c (.sl 1 c.length (bytesF c))),(0:Int)≤Int.ofNat (0)∧Int.ofNat (0)≤Int.ofNat c.length∧Int.ofNat c.length≤Int.ofNat c.length∧Int.ofNat c.length≤(↑(b.length-(3:Nat)*g):Int),inR .i64 ((c.length:Int)+1),(0:Int)≤Int.ofNat (0)∧Int.ofNat (0)≤Int.ofNat (c.length+1)∧Int.ofNat (c.length+1)≤(↑(4:Nat):Int)] ⟨aS,fun _ _=>trivial,aS,fun _ _=>trivial,aS,⟨dC,⟨(by simp;done),⟨oM,sO⟩⟩⟩,i6,⟨dC,⟨sO,sO⟩⟩⟩ ?_
    refine Wp.unrK kR 5 (fun UL0 uUL0 => ?_)
    refine zg [(3,{fm:=[(2,.c (.int .i64 (c.length:Int)))]}),(4,{fm:=[(3,.c (.sl 1 c.length (bytesF c)))]}),(10,{fm:=[(2,.c (.sl 1 (b.length-3*(g+1)) (bytesF (b.drop (3*(g+1))))))]}),(8,{cs:=[(2,cb [16,0] w0)]})] [true] [decide ((0:Int)<(↑((Int.ofNat (c.length+1)).toNat-(0:Nat)):Int))=true,(0:Int)≤(0:Int)∧(0:Int)<(↑((Int.ofNat (c.length+1)).toNat-(0:Nat)):Int),(0:Int)≤by3 c (0:Nat) / (4:Int)∧by3 c (0:Nat) / (4:Int)<(↑(64:Nat):Int),inR .i64 (0+1)] ⟨(by simp;done),⟨oM,(by simp;done)⟩,oM,i6⟩ ?_
    refine Wp.lpK kR (uUL0 4 _ ?_)
    refine zg [(3,{fm:=[(2,.c (.int .i64 (c.length:Int)))]}),(4,{fm:=[(3,.c (.sl 1 c.length (bytesF c)))]}),(10,{fm:=[(2,.c (.sl 1 (b.length-3*(g+1)) (bytesF (b.drop (3*(g+1))))))]}),(8,{cs:=[(2,cb [16,432] w1)]})] [true] [decide ((0:Int)+(1:Int)<(↑((Int.ofNat (c.length+1)).toNat-(0:Nat)):Int))=true,(0:Int)≤(0:Int)+(1:Int)∧(0:Int)+(1:Int)<(↑((Int.ofNat (c.length+1)).toNat-(0:Nat)):Int),(0:Int)≤by3 c (0:Nat)%(4:Int)*(16:Int)+by3 c (1:Nat) / (16:Int)∧by3 c (0:Nat)%(4:Int)*(16:Int)+by3 c (1:Nat) / (16:Int)<(↑(64:Nat):Int),inR .i64 (0+1+1)] ⟨sO,⟨oM,sO⟩,oM,i6⟩ ?_
    refine Wp.lpK kR (uUL0 3 _ ?_)
    refine zg [(3,{fm:=[(2,.c (.int .i64 (c.length:Int)))]}),(4,{fm:=[(3,.c (.sl 1 c.length (bytesF c)))]}),(10,{fm:=[(2,.c (.sl 1 (b.length-3*(g+1)) (bytesF (b.drop (3*(g+1))))))]}),(8,{cs:=[(2,cb [16,576] w2)]})] [true] [decide ((0:Int)+(1:Int)+(1:Int)<(↑((Int.ofNat (c.length+1)).toNat-(0:Nat)):Int))=true,(0:Int)≤(0:Int)+(1:Int)+(1:Int)∧(0:Int)+(1:Int)+(1:Int)<(↑((Int.ofNat (c.length+1)).toNat-(0:Nat)):Int),(0:Int)≤by3 c (1:Nat)%(16:Int)*(4:Int)+by3 c (2:Nat) / (64:Int)∧by3 c (1:Nat)%(16:Int)*(4:Int)+by3 c (2:Nat) / (64:Int)<(↑(64:Nat):Int),inR .i64 (0+1+1+1)] ⟨sO,⟨oM,sO⟩,oM,i6⟩ ?_
    refine Wp.lpK kR (uUL0 2 _ ?_)
    refine zg [(3,{fm:=[(2,.c (.int .i64 (c.length:Int)))]}),(4,{fm:=[(3,.c (.sl 1 c.length (bytesF c)))]}),(10,{fm:=[(2,.c (.sl 1 (b.length-3*(g+1)) (bytesF (b.drop (3*(g+1))))))]})] [false] [decide ((0:Int)+(1:Int)+(1:Int)+(1:Int)<(↑((Int.ofNat (c.length+1)).toNat-(0:Nat)):Int))=false,EqvI (.c (.sl 1 ((Int.ofNat (b.length-(3:Nat)*g)).toNat-(Int.ofNat c.length).toNat) fun i j=>bytesF (List.drop ((3:Nat)*g) b) ((Int.ofNat c.length).toNat+i) j)) (.c (.sl 1 (b.length-(3:Nat)*(g+(1:Nat))) (bytesF (List.drop ((3:Nat)*(g+(1:Nat))) b)))),EqvD (.c (.sl 1 ((Int.ofNat (b.length-(3:Nat)*g)).toNat-(Int.ofNat c.length).toNat) fun i j=>bytesF (List.drop ((3:Nat)*g) b) ((Int.ofNat c.length).toNat+i) j)) (.c (.sl 1 (b.length-(3:Nat)*(g+(1:Nat))) (bytesF (List.drop ((3:Nat)*(g+(1:Nat))) b)))),(0:Int)≤Int.ofNat c.length∧Int.ofNat c.length≤Int.ofNat (b.length-(3:Nat)*g)∧Int.ofNat (b.length-(3:Nat)*g)≤(↑(b.length-(3:Nat)*g):Int)] ⟨sO,fun _ _=>trivial,aS,⟨(by simp;done),⟨sO,(by simp;done)⟩⟩⟩ ?_
    exact za [(0,720)] (again _ (g+1,some (n+1+1+1,l++[sgE (by3 c 0 / 4)]++[sgE (by3 c 0%4*16+by3 c 1 / 16)]++[sgE (by3 c 1%16*4+by3 c 2 / 64)])) hfin (by show b.length+3-3*(g+1)<b.length+3-3*g;omega))
   have hl3:c.length=3:=by omega
   have w0:=wb_b (G:=G) (n) (l) x4 oM (sgE (by3 c 0 / 4))
   have w1:=wb_b (G:=G) (n+1) (l++[sgE (by3 c 0 / 4)]) (by simp [← x4]) oM (sgE (by3 c 0%4*16+by3 c 1 / 16))
   have w2:=wb_b (G:=G) (n+1+1) (l++[sgE (by3 c 0 / 4)]++[sgE (by3 c 0%4*16+by3 c 1 / 16)]) (by simp [← x4]) oM (sgE (by3 c 1%16*4+by3 c 2 / 64))
   have w3:=wb_b (G:=G) (n+1+1+1) (l++[sgE (by3 c 0 / 4)]++[sgE (by3 c 0%4*16+by3 c 1 / 16)]++[sgE (by3 c 1%16*4+by3 c 2 / 64)]) (by simp [← x4]) oM (sgE (by3 c 2%64))
   have hfin:encOF b (g+1,some (n+1+1+1+1,l++[sgE (by3 c 0 / 4)]++[sgE (by3 c 0%4*16+by3 c 1 / 16)]++[sgE (by3 c 1%16*4+by3 c 2 / 64)]++[sgE (by3 c 2%64)])):=by
    have hG:encG b (g+1)=encG b g++outE c:=by show encG b g++grp b g=_;rw [hgr]
    have hO:outE c=[sgE (by3 c 0 / 4),sgE (by3 c 0%4*16+by3 c 1 / 16),sgE (by3 c 1%16*4+by3 c 2 / 64),sgE (by3 c 2%64)]:=by unfold outE;rw [hl3];rfl
    refine ⟨by omega,by omega,?_,by simp [← x4],by omega⟩
    rw [hG,hO,x3];simp
   clear hgr hc hm
   refine zg [(3,{fm:=[(2,.c (.int .i64 (c.length:Int)))]}),(4,{cs:=[(4,pc c4)],fm:=[(3,.c (.sl 1 c.length (bytesF c)))]}),(10,{fm:=[(2,.c (.sl 1 (b.length-3*(g+1)) (bytesF (b.drop (3*(g+1))))))]})] [true] [decide ((↑(b.length-(3:Nat)*g):Int)>(0:Int))=true,EqvI (.c (.int .i64 (if (↑(b.length-(3:Nat)*g):Int)<(3:Int) then (↑(b.length-(3:Nat)*g):Int) else (3:Int)))) (.c (.int .i64 (c.length:Int))),EqvD (.c (.int .i64 (if (↑(b.length-(3:Nat)*g):Int)<(3:Int) then (↑(b.length-(3:Nat)*g):Int) else (3:Int)))) (.c (.int .i64 (c.length:Int))),EqvI (.c (.sl 1 ((Int.ofNat c.length).toNat-(0:Nat)) fun i j=>bytesF (List.drop ((3:Nat)*g) b) ((0:Nat)+i) j)) (.c (.sl 1 c.length (bytesF c))),EqvD (.c (.sl 1 ((Int.ofNat c.length).toNat-(0:Nat)) fun i j=>bytesF (List.drop ((3:Nat)*g) b) ((0:Nat)+i) j)) (.c (.sl 1 c.length (bytesF c))),(0:Int)≤Int.ofNat (0)∧Int.ofNat (0)≤Int.ofNat c.length∧Int.ofNat c.length≤Int.ofNat c.length∧Int.ofNat c.length≤(↑(b.length-(3:Nat)*g):Int),inR .i64 ((c.length:Int)+1),(0:Int)≤Int.ofNat (0)∧Int.ofNat (0)≤Int.ofNat (c.length+1)∧Int.ofNat (c.length+1)≤(↑(4:Nat):Int)] ⟨aS,fun _ _=>trivial,aS,fun _ _=>trivial,aS,⟨dC,⟨(by simp;done),⟨oM,sO⟩⟩⟩,i6,⟨dC,⟨sO,sO⟩⟩⟩ ?_
   refine Wp.unrK kR 5 (fun UL0 uUL0 => ?_)
   refine zg [(3,{fm:=[(2,.c (.int .i64 (c.length:Int)))]}),(4,{fm:=[(3,.c (.sl 1 c.length (bytesF c)))]}),(10,{fm:=[(2,.c (.sl 1 (b.length-3*(g+1)) (bytesF (b.drop (3*(g+1))))))]}),(8,{cs:=[(2,cb [16,0] w0)]})] [true] [decide ((0:Int)<(↑((Int.ofNat (c.length+1)).toNat-(0:Nat)):Int))=true,(0:Int)≤(0:Int)∧(0:Int)<(↑((Int.ofNat (c.length+1)).toNat-(0:Nat)):Int),(0:Int)≤by3 c (0:Nat) / (4:Int)∧by3 c (0:Nat) / (4:Int)<(↑(64:Nat):Int),inR .i64 (0+1)] ⟨(by simp;done),⟨oM,(by simp;done)⟩,oM,i6⟩ ?_
   refine Wp.lpK kR (uUL0 4 _ ?_)
   refine zg [(3,{fm:=[(2,.c (.int .i64 (c.length:Int)))]}),(4,{fm:=[(3,.c (.sl 1 c.length (bytesF c)))]}),(10,{fm:=[(2,.c (.sl 1 (b.length-3*(g+1)) (bytesF (b.drop (3*(g+1))))))]}),(8,{cs:=[(2,cb [16,432] w1)]})] [true] [decide ((0:Int)+(1:Int)<(↑((Int.ofNat (c.length+1)).toNat-(0:Nat)):Int))=true,(0:Int)≤(0:Int)+(1:Int)∧(0:Int)+(1:Int)<(↑((Int.ofNat (c.length+1)).toNat-(0:Nat)):Int),(0:Int)≤by3 c (0:Nat)%(4:Int)*(16:Int)+by3 c (1:Nat) / (16:Int)∧by3 c (0:Nat)%(4:Int)*(16:Int)+by3 c (1:Nat) / (16:Int)<(↑(64:Nat):Int),inR .i64 (0+1+1)] ⟨sO,⟨oM,sO⟩,oM,i6⟩ ?_
   refine Wp.lpK kR (uUL0 3 _ ?_)
   refine zg [(3,{fm:=[(2,.c (.int .i64 (c.length:Int)))]}),(4,{fm:=[(3,.c (.sl 1 c.length (bytesF c)))]}),(10,{fm:=[(2,.c (.sl 1 (b.length-3*(g+1)) (bytesF (b.drop (3*(g+1))))))]}),(8,{cs:=[(2,cb [16,576] w2)]})] [true] [decide ((0:Int)+(1:Int)+(1:Int)<(↑((Int.ofNat (c.length+1)).toNat-(0:Nat)):Int))=true,(0:Int)≤(0:Int)+(1:Int)+(1:Int)∧(0:Int)+(1:Int)+(1:Int)<(↑((Int.ofNat (c.length+1)).toNat-(0:Nat)):Int),(0:Int)≤by3 c (1:Nat)%(16:Int)*(4:Int)+by3 c (2:Nat) / (64:Int)∧by3 c (1:Nat)%(16:Int)*(4:Int)+by3 c (2:Nat) / (64:Int)<(↑(64:Nat):Int),inR .i64 (0+1+1+1)] ⟨sO,⟨oM,sO⟩,oM,i6⟩ ?_
   refine Wp.lpK kR (uUL0 2 _ ?_)
   refine zg [(3,{fm:=[(2,.c (.int .i64 (c.length:Int)))]}),(4,{fm:=[(3,.c (.sl 1 c.length (bytesF c)))]}),(10,{fm:=[(2,.c (.sl 1 (b.length-3*(g+1)) (bytesF (b.drop (3*(g+1))))))]}),(8,{cs:=[(2,cb [16,720] w3)]})] [true] [decide ((0:Int)+(1:Int)+(1:Int)+(1:Int)<(↑((Int.ofNat (c.length+1)).toNat-(0:Nat)):Int))=true,(0:Int)≤(0:Int)+(1:Int)+(1:Int)+(1:Int)∧(0:Int)+(1:Int)+(1:Int)+(1:Int)<(↑((Int.ofNat (c.length+1)).toNat-(0:Nat)):Int),(0:Int)≤by3 c (2:Nat)%(64:Int)∧by3 c (2:Nat)%(64:Int)<(↑(64:Nat):Int),inR .i64 (0+1+1+1+1)] ⟨sO,⟨oM,sO⟩,oM,i6⟩ ?_
   refine Wp.lpK kR (uUL0 1 _ ?_)
   refine zg [(3,{fm:=[(2,.c (.int .i64 (c.length:Int)))]}),(4,{fm:=[(3,.c (.sl 1 c.length (bytesF c)))]}),(10,{fm:=[(2,.c (.sl 1 (b.length-3*(g+1)) (bytesF (b.drop (3*(g+1))))))]})] [false] [decide ((0:Int)+(1:Int)+(1:Int)+(1:Int)+(1:Int)<(↑((Int.ofNat (c.length+1)).toNat-(0:Nat)):Int))=false,EqvI (.c (.sl 1 ((Int.ofNat (b.length-(3:Nat)*g)).toNat-(Int.ofNat c.length).toNat) fun i j=>bytesF (List.drop ((3:Nat)*g) b) ((Int.ofNat c.length).toNat+i) j)) (.c (.sl 1 (b.length-(3:Nat)*(g+(1:Nat))) (bytesF (List.drop ((3:Nat)*(g+(1:Nat))) b)))),EqvD (.c (.sl 1 ((Int.ofNat (b.length-(3:Nat)*g)).toNat-(Int.ofNat c.length).toNat) fun i j=>bytesF (List.drop ((3:Nat)*g) b) ((Int.ofNat c.length).toNat+i) j)) (.c (.sl 1 (b.length-(3:Nat)*(g+(1:Nat))) (bytesF (List.drop ((3:Nat)*(g+(1:Nat))) b)))),(0:Int)≤Int.ofNat c.length∧Int.ofNat c.length≤Int.ofNat (b.length-(3:Nat)*g)∧Int.ofNat (b.length-(3:Nat)*g)≤(↑(b.length-(3:Nat)*g):Int)] ⟨sO,fun _ _=>trivial,aS,⟨(by simp;done),⟨sO,(by simp;done)⟩⟩⟩ ?_
   exact za [(0,864)] (again _ (g+1,some (n+1+1+1+1,l++[sgE (by3 c 0 / 4)]++[sgE (by3 c 0%4*16+by3 c 1 / 16)]++[sgE (by3 c 1%16*4+by3 c 2 / 64)]++[sgE (by3 c 2%64)])) hfin (by show b.length+3-3*(g+1)<b.length+3-3*g;omega))
 ·have hlt:decide (((b.length-3*g:Nat):Int)>(0:Int))=false:=by simp;omega
  match o,hx with
  | none,hx =>
   obtain rfl:g=0:=hx
   obtain rfl:b=[]:=List.length_eq_zero_iff.1 oM
   have c1:=str_a (G:=G)
   clear again
   refine zg [(11,{cs:=[(0,cb [16] c1)]})] [false] [decide ((↑(([]:List UInt8).length-(3:Nat)*(0:Nat)):Int)>(0:Int))=false] rfl ?_
   exact zr
  | some (n,l),hx =>
   obtain ⟨x1,x2,x3,x4,x5⟩:=hx
   have hE:enc8 b=l:=by unfold enc8;rw [x3];congr 1;omega
   have h0:0<n:=by
    rw [x4,x3]
    obtain ⟨g,rfl⟩:∃ g',g=g'+1:=⟨g-1,by omega⟩
    rw [encG,List.length_append,grp_out b g oM]
    unfold outE
    simp
    omega
   rw [hE]
   have c1:=str_b (G:=G) n l x4 h0 oM
   clear hE x3 again
   refine zg [(11,{cs:=[(0,cb [16,0] c1)]})] [false] [decide ((↑(b.length-(3:Nat)*g):Int)>(0:Int))=false] (oN aS) ?_
   exact zr
end Go.Proofs.Tw
end
section

end
section

end
section

end
section
open Go Go.Sv Go.RowKit
namespace Go.Proofs.Tw
attribute [local irreducible] Wp FinQ resV Ent Pur Go.Sv.Fn Sat0
set_option maxRecDepth 100000
set_option maxHeartbeats 4000000
variable {G:Nat→Option (List Cell)} [Back G]
inductive Tm
 | at_ (s:List UInt8)
 | no (n:Nat)
 | one (k:Int) (t:Tm)
 | two (k:Int) (a b:Tm)
structure KT where
 k:Int
 n:Int
 s:List UInt8
 m:Nat
 f:Nat→Nat→Cell
def encK (x:KT):List Cell:=[.int .i64 x.k,.int .i64 x.n,.str x.s,.sl 4 x.m x.f]
def KT.nil:KT:=⟨0,0,[],0,fun _ _ => .nilif⟩
def toK:Tm→KT
 | .at_ s=>⟨1,0,s,0,fun _ _ => .nilif⟩
 | .no n=>⟨2,(n:Int),[],0,fun _ _ => .nilif⟩
 | .one k t=>⟨k,0,[],1,rowF encK .nil [toK t]⟩
 | .two k a b=>⟨k,0,[],2,rowF encK .nil [toK a,toK b]⟩
theorem kids_D {k n:Int} {s:List UInt8} {f:Nat→Nat→Cell}:EqvD (.agg [.int .i64 k,.int .i64 n,.str s,.nilsl]) (.agg [.int .i64 k,.int .i64 n,.str s,.sl 4 0 f]):=by
 rintro D ρ u ⟨us,e,hs,h⟩
 refine ⟨us,e,hs,fun j x hj => ?_⟩
 have:j=0∨j=1∨j=2∨j=3∨4≤j:=by omega
 rcases this with rfl | rfl | rfl | rfl | h4
 ·exact h 0 x hj
 ·exact h 1 x hj
 ·exact h 2 x hj
 ·obtain ⟨y,hy,hd⟩:=h 3 _ rfl
  simp only [List.getElem?_cons_succ,List.getElem?_cons_zero,Option.some.injEq] at hj
  subst hj
  exact ⟨y,hy,none,0,hd,Nat.le_refl _,Nat.zero_le _,.inl rfl⟩
 ·rw [List.getElem?_eq_none (by simpa using h4)] at hj;cases hj
theorem kids_I {k n:Int} {s:List UInt8} {f:Nat→Nat→Cell}:EqvI (.agg [.int .i64 k,.int .i64 n,.str s,.nilsl]) (.agg [.int .i64 k,.int .i64 n,.str s,.sl 4 0 f]):=by
 rintro S h j x hj
 have:j=0∨j=1∨j=2∨j=3∨4≤j:=by omega
 rcases this with rfl | rfl | rfl | rfl | h4
 ·exact h 0 x hj
 ·exact h 1 x hj
 ·exact h 2 x hj
 ·simp only [List.getElem?_cons_succ,List.getElem?_cons_zero,Option.some.injEq] at hj
  subst hj;trivial
 ·rw [List.getElem?_eq_none (by simpa using h4)] at hj;cases hj
end Go.Proofs.Tw
end
section

end
section

end
section

end
section

end
section

end
section

end
section

end
section

end
section

end
section

end
section

end
section

end
section
open Go Go.Sv
namespace Go.Proofs.Tw
set_option maxRecDepth 100000
set_option maxHeartbeats 4000000
inductive TT
 | mk (k n:Int) (s:List UInt8) (kids:List TT)
def TT.k:TT→Int | .mk k _ _ _=>k
def TT.n:TT→Int | .mk _ n _ _=>n
def TT.s:TT→List UInt8 | .mk _ _ s _=>s
def TT.kids:TT→List TT | .mk _ _ _ ks=>ks
def TT.nil:TT := .mk 0 0 [] []
def sgnI (a b:Int):Int:=if a<b then -1 else if b<a then 1 else 0
def sgnB (a b:List UInt8):Int:=if Op.bytesLess a b then -1 else if Op.bytesLess b a then 1 else 0
def thn (c d:Int):Int:=if c=0 then d else c
mutual
def cmpT:TT→TT→Int
 | .mk k n s ks,.mk k' n' s' ks'=>thn (sgnI k k') (thn (sgnI n n') (thn (sgnB s s') (cmpL ks ks')))
def cmpL:List TT→List TT→Int
 | [],[]=>0
 | [],_::_ => -1
 | _::_,[]=>1
 | x::r,y::r'=>thn (cmpT x y) (cmpL r r')
end
theorem cmpT_eq (a b:TT):cmpT a b=thn (sgnI a.k b.k) (thn (sgnI a.n b.n) (thn (sgnB a.s b.s) (cmpL a.kids b.kids))):=by
 cases a;cases b;rw [cmpT];rfl
def lexI:List Int→List Int→Int
 | [],[]=>0
 | [],_::_ => -1
 | _::_,[]=>1
 | x::r,y::r'=>thn (sgnI x y) (lexI r r')
def serB (s:List UInt8):List Int:=s.map (fun c=>(c.toNat:Int)+1)++[0]
mutual
def ser:TT→List Int
 | .mk k n s ks=>k::n::(serB s++serL ks)
def serL:List TT→List Int
 | []=>[0]
 | x::r=>1::(ser x++serL r)
end
theorem sgnI_0 {a b:Int}:sgnI a b=0↔a=b:=by
 unfold sgnI;constructor
 ·intro h;split at h
  ·cases h
  ·split at h
   ·cases h
   ·omega
 ·rintro rfl;simp
theorem sgnI_self (a:Int):sgnI a a=0:=sgnI_0.2 rfl
theorem thn_0 (d:Int):thn 0 d=d:=rfl
theorem thn_assoc (a b c:Int):thn (thn a b) c=thn a (thn b c):=by
 unfold thn
 by_cases h:a=0
 ·rw [if_pos h,if_pos h]
 ·rw [if_neg h,if_neg h,if_neg h]
theorem serB_lex:∀ (s t:List UInt8) (x y:List Int),lexI (serB s++x) (serB t++y)=thn (sgnB s t) (lexI x y)
 | [],[],x,y=>by show thn (sgnI 0 0) (lexI x y)=thn (sgnB [] []) (lexI x y); rfl
 | [],c::t,x,y=>by
  show thn (sgnI 0 ((c.toNat:Int)+1)) _=thn (sgnB [] (c::t)) _
  rw [show sgnI 0 ((c.toNat:Int)+1) = -1 by unfold sgnI;rw [if_pos oM],show sgnB [] (c::t) = -1 from rfl];rfl
 | c::s,[],x,y=>by
  show thn (sgnI ((c.toNat:Int)+1) 0) _=thn (sgnB (c::s) []) _
  rw [show sgnI ((c.toNat:Int)+1) 0=1 by unfold sgnI;rw [if_neg oM,if_pos oM],show sgnB (c::s) []=1 from rfl];rfl
 | c::s,d::t,x,y=>by
  show thn (sgnI ((c.toNat:Int)+1) ((d.toNat:Int)+1)) (lexI (serB s++x) (serB t++y))=_
  rw [serB_lex s t x y,← thn_assoc]
  congr 1
  unfold sgnB
  simp only [Op.bytesLess]
  rcases Nat.lt_trichotomy c.toNat d.toNat with h | h | h
  ·have h1:c<d:=h
   rw [show sgnI ((c.toNat:Int)+1) ((d.toNat:Int)+1) = -1 by unfold sgnI;rw [if_pos oM]]
   simp [h1];rfl
  ·have h1:c=d:=UInt8.toNat_inj.1 h
   subst h1
   rw [sgnI_self,thn_0]
   simp
  ·have h1:d<c:=h
   have h2:¬ c<d:=by intro h3;have:c.toNat<d.toNat:=h3;omega
   have h4:(c==d)=false:=by rw [beq_eq_false_iff_ne];rintro rfl;omega
   rw [show sgnI ((c.toNat:Int)+1) ((d.toNat:Int)+1)=1 by unfold sgnI;rw [if_neg oM,if_pos oM]]
   simp [h1,h2,h4];rfl
mutual
theorem ser_lex:∀ (a b:TT) (x y:List Int),lexI (ser a++x) (ser b++y)=thn (cmpT a b) (lexI x y)
 | .mk k n s ks,.mk k' n' s' ks',x,y=>by
  rw [ser,ser,cmpT]
  show thn (sgnI k k') (thn (sgnI n n') (lexI (serB s++serL ks++x) (serB s'++serL ks'++y)))=_
  rw [List.append_assoc,List.append_assoc,serB_lex,serL_lex ks ks' x y,← thn_assoc,← thn_assoc,← thn_assoc,thn_assoc,thn_assoc,thn_assoc,thn_assoc,thn_assoc,thn_assoc]
theorem serL_lex:∀ (a b:List TT) (x y:List Int),lexI (serL a++x) (serL b++y)=thn (cmpL a b) (lexI x y)
 | [],[],x,y=>by rw [serL,cmpL]; rfl
 | [],d::t,x,y=>by rw [serL,serL,cmpL]; rfl
 | c::s,[],x,y=>by rw [serL,serL,cmpL]; rfl
 | c::s,d::t,x,y=>by
  rw [serL,serL,cmpL]
  show thn (sgnI 1 1) (lexI (ser c++serL s++x) (ser d++serL t++y))=_
  rw [List.append_assoc,List.append_assoc,ser_lex c d,serL_lex s t x y,thn_assoc];rfl
end
theorem ser_cmp (a b:TT):cmpT a b=lexI (ser a) (ser b):=by
 have:=ser_lex a b [] []
 rw [List.append_nil,List.append_nil] at this
 rw [this];unfold thn lexI;split<;>simp_all
theorem lexI_self:∀ a,lexI a a=0
 | []=>rfl
 | x::r=>by rw [lexI,sgnI_self,thn_0]; exact lexI_self r
theorem lexI_eq:∀ {a b:List Int},lexI a b=0→a=b
 | [],[],_=>rfl
 | [],y::t,h=>by rw [lexI] at h; cases h
 | x::r,[],h=>by rw [lexI] at h; cases h
 | x::r,y::t,h=>by
  rw [lexI] at h
  unfold thn at h
  split at h
  ·rename_i h1;rw [sgnI_0.1 h1,lexI_eq h]
  ·contradiction
mutual
theorem cmpT_eq0:∀ (a b:TT),cmpT a b=0→a=b
 | .mk k n s ks,.mk k' n' s' ks',h=>by
  rw [cmpT] at h
  unfold thn at h
  split at h
  ·rename_i h1
   split at h
   ·rename_i h2
    split at h
    ·rename_i h3
     have e:s=s':=by
      have:=serB_lex s s' [] []
      rw [h3] at this
      have:=lexI_eq (show lexI (serB s++[]) (serB s'++[])=0 from this)
      rw [List.append_nil,List.append_nil] at this
      unfold serB at this
      have:=(List.append_inj' this rfl).1
      exact List.map_inj_right (fun x y h=>UInt8.toNat_inj.1 oM) |>.1 this
     rw [sgnI_0.1 h1,sgnI_0.1 h2,e,cmpL_eq0 ks ks' h]
    ·contradiction
   ·contradiction
  ·contradiction
theorem cmpL_eq0:∀ (a b:List TT),cmpL a b=0→a=b
 | [],[],_=>rfl
 | [],y::t,h=>by rw [cmpL] at h; cases h
 | x::r,[],h=>by rw [cmpL] at h; cases h
 | x::r,y::t,h=>by
  rw [cmpL] at h
  unfold thn at h
  split at h
  ·rename_i h1;rw [cmpT_eq0 x y h1,cmpL_eq0 r t h]
  ·contradiction
end
theorem cmpT_self (a:TT):cmpT a a=0:=by rw [ser_cmp];exact lexI_self _
theorem cmpT_iff {a b:TT}:cmpT a b=0↔a=b:=⟨cmpT_eq0 a b,by rintro rfl;exact cmpT_self a⟩
mutual
def Rep:TT→KT→Prop
 | .mk k n s ks,x=>x.k=k∧x.n=n∧x.s=s∧x.m=ks.length∧RepL ks x.f 0
def RepL:List TT→(Nat→Nat→Cell)→Nat→Prop
 | [],_,_=>True
 | t::r,f,i=>(∃ y:KT,[f i 0,f i 1,f i 2,f i 3]=encK y∧Rep t y)∧RepL r f (i+1)
end
theorem Rep_eq (t:TT) (x:KT):Rep t x↔x.k=t.k∧x.n=t.n∧x.s=t.s∧x.m=t.kids.length∧RepL t.kids x.f 0:=by
 cases t;rw [Rep];exact Iff.rfl
theorem RepL_at:∀ {ks:List TT} {f:Nat→Nat→Cell} {i:Nat},RepL ks f i→∀ j,j<ks.length→∃ y:KT,[f (i+j) 0,f (i+j) 1,f (i+j) 2,f (i+j) 3]=encK y∧Rep (ks.getD j .nil) y
 | [],f,i,_,j,hj=>by simp at hj
 | t::r,f,i,h,0,hj=>by rw [RepL] at h; exact h.1
 | t::r,f,i,h,j+1,hj=>by
  rw [RepL] at h
  have:=RepL_at h.2 j (by simpa using hj)
  rw [show i+1+j=i+(j+1) by omega] at this
  exact this
def toT:Tm→TT
 | .at_ s => .mk 1 0 s []
 | .no n => .mk 2 (n:Int) [] []
 | .one k t => .mk k 0 [] [toT t]
 | .two k a b => .mk k 0 [] [toT a,toT b]
theorem Rep_toK:∀ t:Tm,Rep (toT t) (toK t)
 | .at_ s=>by rw [toT,toK,Rep]; exact ⟨rfl,rfl,rfl,rfl,by rw [RepL]; trivial⟩
 | .no n=>by rw [toT,toK,Rep]; exact ⟨rfl,rfl,rfl,rfl,by rw [RepL]; trivial⟩
 | .one k t=>by
  rw [toT,toK,Rep]
  refine ⟨rfl,rfl,rfl,rfl,?_⟩
  rw [RepL,RepL]
  exact ⟨⟨toK t,rfl,Rep_toK t⟩,trivial⟩
 | .two k a b=>by
  rw [toT,toK,Rep]
  refine ⟨rfl,rfl,rfl,rfl,?_⟩
  rw [RepL,RepL,RepL]
  exact ⟨⟨toK a,rfl,Rep_toK a⟩,⟨toK b,rfl,Rep_toK b⟩,trivial⟩
end Go.Proofs.Tw
end
section
open Go Go.Sv Go.RowKit
namespace Go.Proofs.Tw
attribute [local irreducible] Wp FinQ resV Ent Pur Go.Sv.Fn Sat0
set_option maxRecDepth 100000
set_option maxHeartbeats 4000000
variable {G:Nat→Option (List Cell)}
theorem sign1_ok (a b:Bool):Pur Tryz.prog G 98 [.c (.bool a),.c (.bool b)] [.c (.int .i64 (if a then -1 else if b then 1 else 0))]:=by
 refine zp Tryz.func98 ?_
 cases a
 ·cases b
  ·refine zg [] [false,false] [false=false,false=false] ⟨rfl,rfl⟩ ?_
   exact zr
  ·refine zg [] [false,true] [false=false,true=true] ⟨rfl,rfl⟩ ?_
   exact zr
 ·refine zg [] [true] [true=true] rfl ?_
  exact zr
theorem signI_ok (a b:Int):Pur Tryz.prog G 98 [.c (.bool (decide (a<b))),.c (.bool (decide (a>b)))] [.c (.int .i64 (sgnI a b))]:=by
 have:=sign1_ok (G:=G) (decide (a<b)) (decide (a>b))
 rw [show (if decide (a<b)=true then (-1:Int) else if decide (a>b)=true then 1 else 0)=sgnI a b by unfold sgnI;simp only [decide_eq_true_eq,gt_iff_lt]] at this
 exact this
theorem less_gt:∀ a b:List UInt8,(!(Op.bytesLess a b||a==b))=Op.bytesLess b a
 | [],[]=>rfl
 | [],y::t=>rfl
 | x::r,[]=>rfl
 | x::r,y::t=>by
  have ih:=less_gt r t
  simp only [Op.bytesLess,List.cons_beq_cons]
  rcases Nat.lt_trichotomy x.toNat y.toNat with h | h | h
  ·have h1:x<y:=h
   have h2:¬ y<x:=by intro h3;have:y.toNat<x.toNat:=h3;omega
   have h4:(y==x)=false:=by rw [beq_eq_false_iff_ne];rintro rfl;omega
   simp [h1,h2,h4]
  ·have h1:x=y:=UInt8.toNat_inj.1 h
   subst h1
   simpa using ih
  ·have h1:y<x:=h
   have h2:¬ x<y:=by intro h3;have:x.toNat<y.toNat:=h3;omega
   have h4:(x==y)=false:=by rw [beq_eq_false_iff_ne];rintro rfl;omega
   simp [h1,h2,h4]
theorem signB_ok (a b:List UInt8):Pur Tryz.prog G 98 [.c (.bool (Op.bytesLess a b)),.c (.bool (!(Op.bytesLess a b||a==b)))] [.c (.int .i64 (sgnB a b))]:=by
 rw [less_gt];exact sign1_ok (G:=G) _ _
theorem cmpL_drop {a b:List TT} {i:Nat} (h1:i<a.length) (h2:i<b.length):cmpL (a.drop i) (b.drop i)=thn (cmpT (a.getD i .nil) (b.getD i .nil)) (cmpL (a.drop (i+1)) (b.drop (i+1))):=by
 rw [List.drop_eq_getElem_cons h1,List.drop_eq_getElem_cons h2,cmpL]
 simp [List.getD,h1,h2]
theorem cmpL_end {a b:List TT} {i:Nat} (h1:i≤a.length) (h2:i≤b.length) (h:i=a.length∨i=b.length):cmpL (a.drop i) (b.drop i)=sgnI (a.length:Int) (b.length:Int):=by
 have e1:=List.length_drop (i:=i) (l:=a)
 have e2:=List.length_drop (i:=i) (l:=b)
 cases ha:a.drop i with
 | nil =>
  rw [ha] at e1
  cases hb:b.drop i with
  | nil=>rw [hb] at e2; rw [cmpL]; unfold sgnI; simp at e1 e2; rw [if_neg oM,if_neg oM]
  | cons y t=>rw [hb] at e2; rw [cmpL]; unfold sgnI; simp at e1 e2; rw [if_pos oM]
 | cons x r =>
  rw [ha] at e1
  cases hb:b.drop i with
  | nil=>rw [hb] at e2; rw [cmpL]; unfold sgnI; simp at e1 e2; rw [if_neg oM,if_pos oM]
  | cons y t=>rw [hb] at e2; simp at e1 e2; omega
theorem order_main (a b:TT) (x y:KT) (ha:Rep a x) (hb:Rep b y) (hla:a.kids.length≤1000000) (hlb:b.kids.length≤1000000)
  (ih:∀ i,i<a.kids.length→i<b.kids.length→∀ u v,Rep (a.kids.getD i .nil) u→Rep (b.kids.getD i .nil) v→Pur Tryz.prog G 50 [.agg (encK u),.agg (encK v)] [.c (.int .i64 (cmpT (a.kids.getD i .nil) (b.kids.getD i .nil)))]) :
  Pur Tryz.prog G 50 [.agg (encK x),.agg (encK y)] [.c (.int .i64 (cmpT a b))]:=by
 refine zp Tryz.func50 ?_
 obtain ⟨a1,a2,a3,a4,a5⟩:=(Rep_eq a x).1 ha
 obtain ⟨b1,b2,b3,b4,b5⟩:=(Rep_eq b y).1 hb
 have c1:=signI_ok (G:=G) x.k y.k
 have c2:=signI_ok (G:=G) x.n y.n
 have c3:=signB_ok (G:=G) x.s y.s
 have c4:=signI_ok (G:=G) (x.m:Int) (y.m:Int)
 have hR:cmpT a b=thn (sgnI x.k y.k) (thn (sgnI x.n y.n) (thn (sgnB x.s y.s) (cmpL a.kids b.kids))):=by rw [cmpT_eq,a1,a2,a3,b1,b2,b3]
 rw [hR]
 clear hR
 generalize sgnI x.k y.k=v1 at *
 generalize sgnI x.n y.n=v2 at *
 generalize sgnB x.s y.s=v3 at *
 have hpick:∀ v:Int,(v==0)=false→(bif bif decide ((0:Int)<(x.m:Int)) then decide ((0:Int)<(y.m:Int)) else false then v==0 else false)=false:=fun v h=>by rw [h];cases (bif decide ((0:Int)<(x.m:Int)) then decide ((0:Int)<(y.m:Int)) else false)<;>rfl
 by_cases h1:v1=0
 ·subst h1
  rw [thn_0]
  by_cases h2:v2=0
  ·subst h2
   rw [thn_0]
   refine zg [(1,{cs:=[(10,pc c1)]}),(3,{cs:=[(10,pc c2)]}),(5,{cs:=[(10,pc c3)]})] [true,true] [((0:Int)==(0:Int))=true,((0:Int)==(0:Int))=true] ⟨rfl,rfl⟩ ?_
   refine zl (fun (z:Nat×Int)=>⟨[(2,.v (.c (.ptr 0 0))),(3,.v (.c (.ptr 16 0))),(5,.v (.c (.int .i64 z.2))),(6,.v (.c (.int .i64 (z.1:Int))))],[(0,.box 46 (encK x)),(16,.box 46 (encK y))],704⟩) (fun z=>z.1≤a.kids.length∧z.1≤b.kids.length∧(z.2=0→cmpL (a.kids.drop z.1) (b.kids.drop z.1)=thn v3 (cmpL a.kids b.kids))∧(z.2≠0→thn v3 (cmpL a.kids b.kids)=z.2)) (fun z=>a.kids.length-z.1) (0,v3) ⟨Nat.zero_le _,Nat.zero_le _,(fun h=>by rw [show v3=0 from h];rfl),(fun h=>if_neg h)⟩ ?_
   generalize thn v3 (cmpL a.kids b.kids)=R at *
   rintro ⟨i,c⟩ L ⟨h3,h4,h5,h6⟩ again
   simp only at h3 h4 h5 h6
   by_cases hc:c=0
   ·have h7:=h5 hc
    clear h5 h6
    subst hc
    have h5:=h7
    clear h7
    have h6:True:=trivial
    rcases Nat.lt_or_ge i a.kids.length with hi | hi
    ·rcases Nat.lt_or_ge i b.kids.length with hj | hj
     ·obtain ⟨u,u1,u2⟩:=RepL_at a5 i hi
      obtain ⟨v,w1,w2⟩:=RepL_at b5 i hj
      rw [Nat.zero_add] at u1 w1
      have c5:=ih i hi hj u v u2 w2
      rw [cmpL_drop hi hj] at h5
      generalize cmpT (a.kids.getD i .nil) (b.kids.getD i .nil)=c' at c5 h5
      have e1:EqvD (.agg [x.f i 0,x.f i 1,x.f i 2,x.f i 3]) (.agg (encK u)):=eqvD_of (by rw [u1])
      have e2:EqvD (.agg [y.f i 0,y.f i 1,y.f i 2,y.f i 3]) (.agg (encK v)):=eqvD_of (by rw [w1])
      have hp:(bif bif decide ((i:Int)<(x.m:Int)) then decide ((i:Int)<(y.m:Int)) else false then (0:Int)==0 else false)=true:=by rw [decide_eq_true (show (i:Int)<(x.m:Int) by omega),decide_eq_true (show (i:Int)<(y.m:Int) by omega)];rfl
      have g3:(i+1≤a.kids.length∧i+1≤b.kids.length∧(c'=0→cmpL (a.kids.drop (i+1)) (b.kids.drop (i+1))=R)∧(c'≠0→R=c')):=⟨hi,hj,fun h=>by subst h;exact (thn_0 _).symm.trans h5,fun h=>h5.symm.trans (if_neg h)⟩
      clear hpick ih a5 b5 h5 h6 u1 w1 u2 w2
      refine zg [(9,{cs:=[(10,pc c5)],fm:=[(4,.agg (encK u)),(9,.agg (encK v))]})] [true] [(bif bif decide ((i:Int)<(x.m:Int)) then decide ((i:Int)<(y.m:Int)) else false then (0:Int)==(0:Int) else false)=true,(0:Int)≤(i:Int)∧(i:Int)<(x.m:Int),EqvD (.agg [x.f i 0,x.f i (0+1),x.f i (0+1+1),x.f i (0+1+1+1)]) (.agg (encK u)),(0:Int)≤(i:Int)∧(i:Int)<(y.m:Int),EqvD (.agg [y.f i 0,y.f i (0+1),y.f i (0+1+1),y.f i (0+1+1+1)]) (.agg (encK v)),inR .i64 ((i:Int)+1)] ⟨aS,oM,aS,oM,aS,i6⟩ ?_
      exact za [] (again _ (i+1,c') oM oM)
     ·rw [cmpL_end h3 h4 oM,← a4,← b4] at h5
      rw [h5] at c4
      have hp:(bif bif decide ((i:Int)<(x.m:Int)) then decide ((i:Int)<(y.m:Int)) else false then (0:Int)==0 else false)=false:=by rw [decide_eq_false (show ¬ (i:Int)<(y.m:Int) by omega)];cases decide ((i:Int)<(x.m:Int))<;>rfl
      clear hpick ih a5 b5 h5 h6 again
      refine zg [(11,{cs:=[(14,pc c4)]})] [false,true] [(bif bif decide ((i:Int)<(x.m:Int)) then decide ((i:Int)<(y.m:Int)) else false then (0:Int)==(0:Int) else false)=false,((0:Int)==(0:Int))=true] ⟨aS,rfl⟩ ?_
      exact zr
    ·rw [cmpL_end h3 h4 oM,← a4,← b4] at h5
     rw [h5] at c4
     have hp:(bif bif decide ((i:Int)<(x.m:Int)) then decide ((i:Int)<(y.m:Int)) else false then (0:Int)==0 else false)=false:=by rw [decide_eq_false (show ¬ (i:Int)<(x.m:Int) by omega)];rfl
     clear hpick ih a5 b5 h5 h6 again
     refine zg [(11,{cs:=[(14,pc c4)]})] [false,true] [(bif bif decide ((i:Int)<(x.m:Int)) then decide ((i:Int)<(y.m:Int)) else false then (0:Int)==(0:Int) else false)=false,((0:Int)==(0:Int))=true] ⟨aS,rfl⟩ ?_
     exact zr
   ·rw [h6 hc]
    have hc':(c==0)=false:=by simpa using hc
    have hp:(bif bif decide ((i:Int)<(x.m:Int)) then decide ((i:Int)<(y.m:Int)) else false then c==0 else false)=false:=by rw [hc'];cases (bif decide ((i:Int)<(x.m:Int)) then decide ((i:Int)<(y.m:Int)) else false)<;>rfl
    clear hpick ih a5 b5 h5 h6 again hc
    refine zg [] [false,false] [(bif bif decide ((i:Int)<(x.m:Int)) then decide ((i:Int)<(y.m:Int)) else false then c==(0:Int) else false)=false,(c==(0:Int))=false] ⟨aS,(show (c==(0:Int))=false from aS)⟩ ?_
    exact zr
  ·have h2':(v2==0)=false:=by simpa using h2
   have e:thn v2 (thn v3 (cmpL a.kids b.kids))=v2:=by unfold thn;rw [if_neg h2]
   have hp:=hpick v2 h2'
   rw [e]
   clear e ih hpick h2
   refine zg [(1,{cs:=[(10,pc c1)]}),(3,{cs:=[(10,pc c2)]})] [true,false] [((0:Int)==(0:Int))=true,(v2==(0:Int))=false] ⟨rfl,(show (v2==(0:Int))=false from aS)⟩ ?_
   refine Wp.unrK kR 1 (fun UL0 uUL0 => ?_)
   refine zg [] [false,false] [(bif bif decide ((0:Int)<(x.m:Int)) then decide ((0:Int)<(y.m:Int)) else false then v2==(0:Int) else false)=false,(v2==(0:Int))=false] ⟨aS,(show (v2==(0:Int))=false from aS)⟩ ?_
   exact zr
 ·have h1':(v1==0)=false:=by simpa using h1
  have e:thn v1 (thn v2 (thn v3 (cmpL a.kids b.kids)))=v1:=by unfold thn;rw [if_neg h1]
  have hp:=hpick v1 h1'
  rw [e]
  clear e ih hpick h1
  refine zg [(1,{cs:=[(10,pc c1)]})] [false,false] [(v1==(0:Int))=false,(v1==(0:Int))=false] ⟨aS,(show (v1==(0:Int))=false from aS)⟩ ?_
  refine Wp.unrK kR 1 (fun UL0 uUL0 => ?_)
  refine zg [] [false,false] [(bif bif decide ((0:Int)<(x.m:Int)) then decide ((0:Int)<(y.m:Int)) else false then v1==(0:Int) else false)=false,(v1==(0:Int))=false] ⟨aS,(show (v1==(0:Int))=false from aS)⟩ ?_
  exact zr
inductive LowR:TT→Prop
 | mk {t:TT}:t.kids.length≤1000000→(∀ x∈t.kids,LowR x)→LowR t
theorem LowR.len {t:TT} (h:LowR t):t.kids.length≤1000000:=by cases h;assumption
theorem LowR.kid {t:TT} (h:LowR t) {i:Nat} (hi:i<t.kids.length):LowR (t.kids.getD i .nil):=by
 cases h with
 | mk _ h=>exact h _ (by rw [List.getD_eq_getElem?_getD,List.getElem?_eq_getElem hi]; exact List.getElem_mem hi)
theorem order_ok {a:TT} (ha:LowR a):∀ {b:TT} (x y:KT),LowR b→Rep a x→Rep b y→Pur Tryz.prog G 50 [.agg (encK x),.agg (encK y)] [.c (.int .i64 (cmpT a b))]:=by
 induction ha with
 | @mk t h1 h2 ih =>
  intro b x y hb hx hy
  refine order_main t b x y hx hy h1 hb.len fun i hi hj u v hu hv => ?_
  exact ih _ (by rw [List.getD_eq_getElem?_getD,List.getElem?_eq_getElem hi];exact List.getElem_mem hi) u v (hb.kid hj) hu hv
theorem same1_ok {a b:TT} (x y:KT) (ha:LowR a) (hb:LowR b) (hx:Rep a x) (hy:Rep b y):Pur Tryz.prog G 17 [.agg (encK x),.agg (encK y)] [.c (.bool (cmpT a b==0))]:=by
 refine zp Tryz.func17 ?_
 have c:=order_ok (G:=G) ha x y hb hx hy
 refine z0 [(1,{cs:=[(2,pc c)]})] [] ?_
 exact zr
theorem low_toT:∀ t:Tm,LowR (toT t)
 | .at_ s=>by rw [toT]; exact .mk (by show 0≤_; omega) (fun x hx=>by cases hx)
 | .no n=>by rw [toT]; exact .mk (by show 0≤_; omega) (fun x hx=>by cases hx)
 | .one k t=>by rw [toT]; exact .mk (by show 1≤_; omega) (fun x hx=>by rcases List.mem_singleton.1 hx with rfl; exact low_toT t)
 | .two k a b=>by
  rw [toT]
  refine .mk (by show 2≤_;omega) (fun x hx => ?_)
  have hx:x∈[toT a,toT b]:=hx
  simp only [List.mem_cons,List.not_mem_nil,or_false] at hx
  rcases hx with rfl | rfl
  ·exact low_toT a
  ·exact low_toT b
end Go.Proofs.Tw
end
section

end
section

end
section

end
section
open Go Go.Sv Go.RowKit
namespace Go.Proofs.Tw
attribute [local irreducible] Wp FinQ resV Ent Pur Go.Sv.Fn Sat0
set_option maxRecDepth 100000
set_option maxHeartbeats 4000000
variable {G:Nat→Option (List Cell)} [Back G]
def kidsI (k:Int):Int:=if k=1∨k=2 then 0 else if k=3∨k=4 then 1 else if k=5∨k=6∨k=7 then 2 else -1
theorem kidsP_ok (k:Int):Pur Tryz.prog G 269 [.c (.int .i64 k)] [.c (.int .i64 (kidsI k))]:=by
 refine zp Tryz.func269 ?_
 by_cases h1:k=1
 ·subst h1
  refine zg [] [true,true] [((1:Int)==(1:Int))=true,((1:Int)==(1:Int))=true] ⟨rfl,rfl⟩ ?_
  exact zr
 by_cases h2:k=2
 ·subst h2
  refine zg [] [false,true] [((2:Int)==(1:Int))=false,((2:Int)==(2:Int))=true] ⟨rfl,rfl⟩ ?_
  exact zr
 by_cases h3:k=3
 ·subst h3
  refine zg [] [false,false,true,true] [((3:Int)==(1:Int))=false,((3:Int)==(2:Int))=false,((3:Int)==(3:Int))=true,((3:Int)==(3:Int))=true] ⟨rfl,rfl,rfl,rfl⟩ ?_
  exact zr
 by_cases h4:k=4
 ·subst h4
  refine zg [] [false,false,false,true] [((4:Int)==(1:Int))=false,((4:Int)==(2:Int))=false,((4:Int)==(3:Int))=false,((4:Int)==(4:Int))=true] ⟨rfl,rfl,rfl,rfl⟩ ?_
  exact zr
 by_cases h5:k=5
 ·subst h5
  refine zg [] [false,false,false,false,true,true] [((5:Int)==(1:Int))=false,((5:Int)==(2:Int))=false,((5:Int)==(3:Int))=false,((5:Int)==(4:Int))=false,((5:Int)==(5:Int))=true,((5:Int)==(5:Int))=true] ⟨rfl,rfl,rfl,rfl,rfl,rfl⟩ ?_
  exact zr
 by_cases h6:k=6
 ·subst h6
  refine zg [] [false,false,false,false,false,true,true] [((6:Int)==(1:Int))=false,((6:Int)==(2:Int))=false,((6:Int)==(3:Int))=false,((6:Int)==(4:Int))=false,((6:Int)==(5:Int))=false,((6:Int)==(6:Int))=true,((6:Int)==(6:Int))=true] ⟨rfl,rfl,rfl,rfl,rfl,rfl,rfl⟩ ?_
  exact zr
 by_cases h7:k=7
 ·subst h7
  refine zg [] [false,false,false,false,false,false,true] [((7:Int)==(1:Int))=false,((7:Int)==(2:Int))=false,((7:Int)==(3:Int))=false,((7:Int)==(4:Int))=false,((7:Int)==(5:Int))=false,((7:Int)==(6:Int))=false,((7:Int)==(7:Int))=true] ⟨rfl,rfl,rfl,rfl,rfl,rfl,rfl⟩ ?_
  exact zr
 rw [show kidsI k = -1 by unfold kidsI;rw [if_neg oM,if_neg oM,if_neg oM]]
 have g1:(k==1)=false:=by simpa using h1
 have g2:(k==2)=false:=by simpa using h2
 have g3:(k==3)=false:=by simpa using h3
 have g4:(k==4)=false:=by simpa using h4
 have g5:(k==5)=false:=by simpa using h5
 have g6:(k==6)=false:=by simpa using h6
 have g7:(k==7)=false:=by simpa using h7
 clear h1 h2 h3 h4 h5 h6 h7
 refine zg [] [false,false,false,false,false,false,false] [(k==(1:Int))=false,(k==(2:Int))=false,(k==(3:Int))=false,(k==(4:Int))=false,(k==(5:Int))=false,(k==(6:Int))=false,(k==(7:Int))=false] ⟨aS,aS,aS,aS,aS,aS,(show (k==(7:Int))=false from aS)⟩ ?_
 exact zr
def rightK (k n:Int) (s:List UInt8) (m:Int):Bool:=bif bif m==kidsI k then (bif s==[] then true else bif k==1 then decide ((s.length:Int)≤1024) else false) else false then (bif n==0 then true else bif bif k==2 then decide (n>0) else false then decide (n≤1073741824) else false) else false
theorem rightK_ok (x:KT):Pur Tryz.prog G 238 [.agg (encK x)] [.c (.bool (rightK x.k x.n x.s (x.m:Int)))]:=by
 refine zp Tryz.func238 ?_
 have c:=kidsP_ok (G:=G) x.k
 refine z0 [(2,{cs:=[(5,pc c)]})] [] ?_
 exact zr
def selW (i a b:Nat):Nat:=match i with
 | 0=>a
 | _+1=>b
def cloW (f:FuncId) (g:Nat→Nat):Cell := .clo f 2 (fun _=>none) (fun i _ => .ptr (g i) 0)
def bxW (c:Int):Blk := .box 3 [.int .i64 c]
def bcW (g:Nat→Nat):Blk := .box 254 [cloW 237 g]
def stopW (x:TT) (d c:Int):Bool:=bif bif decide (c>64) then true else decide (d>16) then true else !(rightK x.k x.n x.s (x.kids.length:Int))
mutual
def walkM:TT→Int→Int→Bool×Int
 | .mk k n s ks,d,c=>if stopW (.mk k n s ks) d (c+1) then (false,c+1) else walkL ks (d+1) (c+1)
def walkL:List TT→Int→Int→Bool×Int
 | [],_,c=>(true,c)
 | x::r,d,c=>if (walkM x d c).1 then walkL r d (walkM x d c).2 else (false,(walkM x d c).2)
end
theorem walkM_eq (t:TT) (d c:Int):walkM t d c=if stopW t d (c+1) then (false,c+1) else walkL t.kids (d+1) (c+1):=by
 cases t;rw [walkM];rfl
theorem walkL_drop {l:List TT} {i:Nat} (h:i<l.length) (d c:Int):walkL (l.drop i) d c=if (walkM (l.getD i .nil) d c).1 then walkL (l.drop (i+1)) d (walkM (l.getD i .nil) d c).2 else (false,(walkM (l.getD i .nil) d c).2):=by
 rw [List.drop_eq_getElem_cons h,walkL];simp [List.getD,h]
mutual
theorem walkM_rng:∀ (t:TT) (d c:Int),0≤c→c≤64→c<(walkM t d c).2∧(walkM t d c).2≤65∧((walkM t d c).1=true→(walkM t d c).2≤64)
 | .mk k n s ks,d,c,h0,h1=>by
  rw [walkM]
  split
  ·exact ⟨by show c<c+1;omega,by show c+1≤65;omega,fun h=>by cases h⟩
  ·rename_i h
   have:c+1≤64:=by
    rcases Int.lt_or_le 64 (c+1) with h2 | h2
    ·exfalso;apply h
     unfold stopW
     rw [decide_eq_true (show c+1>64 from h2)];rfl
    ·exact h2
   have:=walkL_rng ks (d+1) (c+1) oM this
   exact ⟨by omega,this.2.1,this.2.2⟩
theorem walkL_rng:∀ (l:List TT) (d c:Int),0≤c→c≤64→c≤(walkL l d c).2∧(walkL l d c).2≤65∧((walkL l d c).1=true→(walkL l d c).2≤64)
 | [],d,c,h0,h1=>by rw [walkL]; exact ⟨Int.le_refl _,by show c≤65; omega,fun _=>h1⟩
 | x::r,d,c,h0,h1=>by
  have hx:=walkM_rng x d c h0 h1
  rw [walkL]
  split
  ·rename_i h
   have:=walkL_rng r d (walkM x d c).2 oM (hx.2.2 h)
   exact ⟨by omega,this.2.1,this.2.2⟩
  ·exact ⟨by show c≤(walkM x d c).2;omega,hx.2.1,fun h=>by cases h⟩
end
theorem eqW {σ:Nat→Nat} (h0:σ 0=0:=by rfl) (h1:σ 1=1:=by rfl):BlkEqv (bcW (fun i=>selW i 0 1)) (bcW (fun i=>σ (selW i 0 1))):=by
 rw [show (fun i=>σ (selW i 0 1))=fun i=>selW i 0 1 from funext fun i=>by cases i;exact h0;exact h1]
 exact BlkEqv.refl _
theorem eqW2 {σ τ:Nat→Nat} (h0:σ 0=0:=by rfl) (h1:σ 1=1:=by rfl) (k0:τ 0=0:=by rfl) (k1:τ 1=1:=by rfl):BlkEqv (bcW (fun i=>σ (selW i 0 1))) (bcW (fun i=>τ (selW i 0 1))):=by
 rw [show (fun i=>σ (selW i 0 1))=fun i=>τ (selW i 0 1) from funext fun i=>by cases i;exact h0.trans k0.symm;exact h1.trans k1.symm]
 exact BlkEqv.refl _
theorem stop3:∀ a b c:Bool,(bif bif a then true else b then true else c)=false→a=false∧b=false∧c=false:=by decide
theorem may1_main (t:TT) (x:KT) (d c:Int) (hx:Rep t x) (hl:stopW t d (c+1)=false→t.kids.length≤1000000) (hd:0≤d∧d≤17) (hc:0≤c∧c≤64)
  (ih:∀ i,i<t.kids.length→∀ u c',0≤c'→c'≤64→d+1≤17→Rep (t.kids.getD i .nil) u→FnB Tryz.prog G 237 [bxW c',bcW (fun i=>selW i 0 1)] [.agg (encK u),.c (.int .i64 (d+1)),.c (.ptr 0 0),.c (.ptr 1 0)] [.c (.bool (walkM (t.kids.getD i .nil) (d+1) c').1)] [(0,bxW (walkM (t.kids.getD i .nil) (d+1) c').2),(1,bcW (fun i=>selW i 0 1))]) :
  FnB Tryz.prog G 237 [bxW c,bcW (fun i=>selW i 0 1)] [.agg (encK x),.c (.int .i64 d),.c (.ptr 0 0),.c (.ptr 1 0)] [.c (.bool (walkM t d c).1)] [(0,bxW (walkM t d c).2),(1,bcW (fun i=>selW i 0 1))]:=by
 refine zf Tryz.func237 ?_
 obtain ⟨a1,a2,a3,a4,a5⟩:=(Rep_eq t x).1 hx
 have c1:=rightK_ok (G:=G) x
 have hst:(bif bif decide (c+1>64) then true else decide (d>16) then true else !(rightK x.k x.n x.s (x.m:Int)))=stopW t d (c+1):=by rw [a1,a2,a3,a4];rfl
 rw [walkM_eq]
 cases hs:stopW t d (c+1) with
 | true =>
  rw [hs] at hst
  rw [if_pos rfl]
  clear ih hs
  refine zg [(2,{cs:=[(8,pc c1)]})] [true] [inR .i64 (c+1),(bif bif decide (c+(1:Int)>(64:Int)) then true else decide (d>(16:Int)) then true else !rightK x.k x.n x.s (x.m:Int))=true] ⟨i6,(show (bif bif decide (c+(1:Int)>(64:Int)) then true else decide (d>(16:Int)) then true else !rightK x.k x.n x.s (↑x.m:Int))=true from aS)⟩ ?_
  refine Wp.ent' kR (Ent.blkE (id:=1) (b':=bcW (fun i=>sigF 2 [] (selW i 0 1))) kR eqW rfl) ?_
  exact zb []
 | false =>
  have hl:=hl hs
  rw [hs] at hst
  rw [if_neg dC]
  obtain ⟨t1,t2,_⟩:=stop3 _ _ _ hs
  have hd17:d+1≤17:=by have:=of_decide_eq_false t2;omega
  have hc1:0≤c+1∧c+1≤64:=by have:=of_decide_eq_false t1;omega
  clear t1 t2
  clear hs
  refine zg [(2,{cs:=[(8,pc c1)]})] [false] [inR .i64 (c+1),(bif bif decide (c+(1:Int)>(64:Int)) then true else decide (d>(16:Int)) then true else !rightK x.k x.n x.s (x.m:Int))=false] ⟨i6,(show (bif bif decide (c+(1:Int)>(64:Int)) then true else decide (d>(16:Int)) then true else !rightK x.k x.n x.s (↑x.m:Int))=false from aS)⟩ ?_
  refine zl (fun (z:Nat×Int×(Nat→Nat))=>⟨[(1,.v (.c (.int .i64 d))),(3,.v (.c (.ptr 1 0))),(4,.v (.c (.ptr 2 0))),(23,.v (.c (.int .i64 (x.m:Int)))),(24,.v (.c (.int .i64 (z.1:Int))))],[(0,bxW z.2.1),(1,bcW z.2.2),(2,.box 46 (encK x))],322⟩) (fun z=>z.1≤t.kids.length∧(0≤z.2.1∧z.2.1≤64)∧walkL t.kids (d+1) (c+1)=walkL (t.kids.drop z.1) (d+1) z.2.1∧z.2.2=fun i=>selW i 0 1) (fun z=>t.kids.length-z.1) (0,c+1,fun i=>selW i 0 1) ⟨Nat.zero_le _,hc1,rfl,rfl⟩ ?_
  rintro ⟨k,c',g⟩ L ⟨h1,h2,h3,rfl⟩ again
  simp only at h1 h2 h3
  rw [h3]
  rcases Nat.lt_or_ge k t.kids.length with hi | hi
  ·obtain ⟨u,u1,u2⟩:=RepL_at a5 k hi
   rw [Nat.zero_add] at u1
   have c5:=ih k hi u c' h2.1 h2.2 hd17 u2
   rw [walkL_drop hi] at h3 ⊢
   have hr:=walkM_rng (t.kids.getD k .nil) (d+1) c' h2.1 h2.2
   generalize walkM (t.kids.getD k .nil) (d+1) c'=y at *
   obtain ⟨b,c''⟩:=y
   simp only at c5 h3 hr ⊢
   have e1:EqvD (.agg [x.f k 0,x.f k 1,x.f k 2,x.f k 3]) (.agg (encK u)):=eqvD_of (by rw [u1])
   have hg:(fun i=>sigOut [0,1] 498 (selW i 0 1))=fun i=>selW i 0 1:=funext fun i=>by cases i<;>rfl
   cases b with
   | true =>
    rw [if_pos rfl] at h3 ⊢
    have h64:=hr.2.2 rfl
    clear ih a5 u1 u2
    refine Wp.ent' kR (Ent.blkE (id:=1) (b':=bcW (fun i=>sigIn [0,1] (selW i 0 1))) kR eqW rfl) ?_
    refine zg [(7,{cs:=[(8,cb [0,1] c5)],fm:=[(5,.agg (encK u))]})] [true,false] [decide ((k:Int)<(x.m:Int))=true,(0:Int)≤(k:Int)∧(k:Int)<(x.m:Int),EqvD (.agg [x.f k 0,x.f k (0+1),x.f k (0+1+1),x.f k (0+1+1+1)]) (.agg (encK u)),inR .i64 (d+1),(!true)=false,inR .i64 ((k:Int)+1)] ⟨sO,oM,aS,i6,rfl,i6⟩ ?_
    exact za [] (again _ (k+1,c'',fun i=>sigOut [0,1] 498 (selW i 0 1)) ⟨aS,⟨⟨sO,aS⟩,⟨aS,aS⟩⟩⟩ oM)
   | false =>
    rw [if_neg dC] at h3 ⊢
    clear ih a5 u1 u2 again
    refine Wp.ent' kR (Ent.blkE (id:=1) (b':=bcW (fun i=>sigIn [0,1] (selW i 0 1))) kR eqW rfl) ?_
    refine zg [(7,{cs:=[(8,cb [0,1] c5)],fm:=[(5,.agg (encK u))]})] [true,true] [decide ((k:Int)<(x.m:Int))=true,(0:Int)≤(k:Int)∧(k:Int)<(x.m:Int),EqvD (.agg [x.f k 0,x.f k (0+1),x.f k (0+1+1),x.f k (0+1+1+1)]) (.agg (encK u)),inR .i64 (d+1),(!false)=true] ⟨sO,oM,aS,i6,rfl⟩ ?_
    refine Wp.ent' kR (Ent.blkE (id:=1) (b:=bcW (fun i=>sigOut [0,1] 498 (selW i 0 1))) (b':=bcW (fun i=>sigF 2 [] (selW i 0 1))) kR eqW2 rfl) ?_
    exact zb []
  ·rw [List.drop_eq_nil_of_le hi,walkL]
   clear ih a5 again h3
   refine zg [] [false] [decide ((k:Int)<(x.m:Int))=false] (oN sO) ?_
   refine Wp.ent' kR (Ent.blkE (id:=1) (b':=bcW (fun i=>sigF 2 [] (selW i 0 1))) kR eqW rfl) ?_
   exact zb []
theorem mayW1_ok {t:TT} (ht:LowR t):∀ (x:KT) (d c:Int),Rep t x→0≤d→d≤17→0≤c→c≤64 →
  FnB Tryz.prog G 237 [bxW c,bcW (fun i=>selW i 0 1)] [.agg (encK x),.c (.int .i64 d),.c (.ptr 0 0),.c (.ptr 1 0)] [.c (.bool (walkM t d c).1)] [(0,bxW (walkM t d c).2),(1,bcW (fun i=>selW i 0 1))]:=by
 induction ht with
 | @mk t h1 h2 ih =>
  intro x d c hx d0 d1 c0 c1
  exact may1_main t x d c hx (fun _=>h1) ⟨d0,d1⟩ ⟨c0,c1⟩ fun i hi u c' q0 q1 q2 hu=>ih _ (by rw [List.getD_eq_getElem?_getD,List.getElem?_eq_getElem hi];exact List.getElem_mem hi) u (d+1) c' hu oM q2 q0 q1
theorem cloW_D (f:FuncId) (g:Nat→Nat) (x y:Nat) (hx:g 0=x) (hy:g 1=y):EqvD (.c (cloRaw f [.c (.ptr x 0),.c (.ptr y 0)])) (.c (cloW f g)):=by
 intro D ρ u h
 obtain ⟨vs,e,hs,hv⟩:=(h:Den D ρ (cloRaw f [.c (.ptr x 0),.c (.ptr y 0)]) u)
 refine (⟨vs,e,hs,fun i hi => ?_⟩:Den D ρ (cloW f g) u)
 subst hx;subst hy
 match i,hi with
 | 0,_=>exact hv 0 (by show 0<2; decide)
 | 1,_=>exact hv 1 (by show 1<2; decide)
 | i+2,hi=>omega
theorem cloW_I (f:FuncId) (g:Nat→Nat) (x y:Nat) (hx:g 0=x) (hy:g 1=y):EqvI (.c (cloRaw f [.c (.ptr x 0),.c (.ptr y 0)])) (.c (cloW f g)):=by
 intro S h i hi
 subst hx;subst hy
 match i,hi with
 | 0,_=>exact h 0 (by show 0<2; decide)
 | 1,_=>exact h 1 (by show 1<2; decide)
 | i+2,hi=>omega
def mayTT (t:TT):Bool:=(walkM t 1 0).1
theorem mayT_ok {t:TT} (ht:LowR t) (x:KT) (hx:Rep t x):Pur Tryz.prog G 193 [.agg (encK x)] [.c (.bool (mayTT t))]:=by
 refine zp Tryz.func193 ?_
 have c:=mayW1_ok (G:=G) ht x 1 0 hx oM oM oM oM
 unfold mayTT
 generalize walkM t 1 0=y at *
 have f1:=cloW_I 237 (fun i=>sigIn [32,64] (selW i 0 1)) 32 64 rfl rfl
 have f2:=cloW_D 237 (fun i=>sigIn [32,64] (selW i 0 1)) 32 64 rfl rfl
 refine zg [(3,{fm:=[(0,.c (cloW 237 (fun i=>sigIn [32,64] (selW i 0 1))))]}),(4,{cs:=[(2,cb [32,64] c)]})] [] [type_of% f1,type_of% f2] ⟨f1,f2⟩ ?_
 exact zr
def byteS (k:Int) (m:Nat):UInt8:=UInt8.ofNat (IntKind.u8.wrap (k.fdiv (2^m))).toNat
theorem u8_wrap (x:Int):IntKind.u8.wrap x=((UInt8.ofNat (IntKind.u8.wrap x).toNat).toNat:Int):=by
 have h:0≤IntKind.u8.wrap x∧IntKind.u8.wrap x<256:=by simp [IntKind.wrap,IntKind.bits,IntKind.signed];omega
 obtain ⟨y,hy⟩:=Int.eq_ofNat_of_zero_le h.1
 rw [hy] at h ⊢
 simp only [Int.toNat_natCast]
 have:(UInt8.ofNat y).toNat=y:=by simp;omega
 rw [this]
def numF (v:Int) (w i:Nat):List UInt8:=(List.range i).map fun j=>byteS v (8*(w-1-j))
theorem numF_succ (v:Int) (w i:Nat):numF v w (i+1)=numF v w i++[byteS v (8*(w-1-i))]:=by unfold numF;rw [List.range_succ,List.map_append];rfl
theorem numF_len (v:Int) (w i:Nat):(numF v w i).length=i:=by unfold numF;simp
def nuP (v:Int) (w:Nat) (x:Nat×Nat×List UInt8):St:=match x.1 with
 | 0=>⟨[(0,.v (.c (.row 1 0 0 x.2.1))),(1,.v (.c (.int .i64 v))),(2,.v (.c (.int .i64 (w:Int)))),(8,.v (.c (.int .i64 (w:Int)))),(9,.v (.c (.int .i64 (x.1:Int))))],[(0,.row 5 1 x.2.1 (bytesF x.2.2))],65⟩
 | _+1=>⟨[(0,.v (.c (.row 1 49 0 x.2.1))),(1,.v (.c (.int .i64 v))),(2,.v (.c (.int .i64 (w:Int)))),(8,.v (.c (.int .i64 (w:Int)))),(9,.v (.c (.int .i64 (x.1:Int))))],[(49,.row 5 1 x.2.1 (bytesF x.2.2))],65⟩
theorem numberP_ok (v:Int) (w:Nat) (hw:1≤w) (hw4:w≤4) (n:Nat) (l:List UInt8) (hn:n=l.length) (hm:n≤1000000):FnB Tryz.prog G 239 [.row 5 1 n (bytesF l)] [.c (.row 1 0 0 n),.c (.int .i64 v),.c (.int .i64 (w:Int))] [.c (.row 1 1 0 (n+w))] [(1,.row 5 1 (n+w) (bytesF (l++numF v w w)))]:=by
 refine zf Tryz.func239 ?_
 refine z0 [] [] ?_
 refine zl (nuP v w) (fun x=>x.1≤w∧x.2.1=n+x.1∧x.2.2=l++numF v w x.1) (fun x=>w-x.1) (0,n,l) ⟨Nat.zero_le _,rfl,by show l=l++[];simp⟩ ?_
 rintro ⟨i,n',l'⟩ L ⟨h1,h2,h3⟩ again
 simp only at h1 h2 h3
 have hl':n'=l'.length:=by rw [h3,List.length_append,numF_len,h2,hn]
 rcases Nat.lt_or_ge i w with hi | hi
 ·have hsh:min (8*((w:Int)-1-(i:Int))).toNat IntKind.i64.bits=8*(w-1-i):=by
   show min (8*((w:Int)-1-(i:Int))).toNat 64=_
   omega
  have eb:IntKind.u8.wrap (v.fdiv (2^min (8*((w:Int)-1-(i:Int))).toNat IntKind.i64.bits))=((byteS v (8*(w-1-i))).toNat:Int):=by rw [hsh];exact u8_wrap _
  have hF:l'++[byteS v (8*(w-1-i))]=l++numF v w (i+1):=by rw [numF_succ,h3,List.append_assoc]
  rcases i with _ | j
  ·have hq:n'+1=n+1:=by omega
   have e1:BlkEqv (.row 5 1 (n'+1) (catF n' (bytesF l') (fun i j_1=>nthD [.int .u8 (IntKind.u8.wrap (v.fdiv (2^min (8*((w:Int)-1-(0:Nat))).toNat IntKind.i64.bits)))] ((0+i)*1+j_1)))) (.row 5 1 (n'+1) (bytesF (l'++[byteS v (8*(w-1-(0)))]))):=by
    rw [eb];exact bytes_app l' [_] hl'
   clear eb hsh
   refine zg [(4,{bs:=[(10,.row 5 1 (n'+1) (bytesF (l'++[byteS v (8*(w-1-(0)))])))]})] [true] [decide ((↑(0:Nat):Int)<(w:Int))=true,inR .i64 ((w:Int)-1),inR .i64 ((w:Int)-(1:Int)-(↑(0:Nat):Int)),inR .i64 ((8:Int)*((w:Int)-(1:Int)-(↑(0:Nat):Int))),(0:Int)≤(8:Int)*((w:Int)-(1:Int)-(↑(0:Nat):Int)),(n'+1)*1≤140737488355328,BlkEqv (.row 5 (1:Nat) (n'+(1:Nat)) (catF n' (bytesF l') fun i j=>nthD [.int .u8 (IntKind.u8.wrap (v.fdiv ((2:Int)^min ((8:Int)*((w:Int)-(1:Int)-(↑(0:Nat):Int))).toNat IntKind.i64.bits)))] (((0:Nat)+i)*(1:Nat)+j))) (.row 5 (1:Nat) (n'+(1:Nat)) (bytesF (l'++[byteS v ((8:Nat)*(w-(1:Nat)-(0:Nat)))]))),n'≤n',0+1≤1,inR .i64 ((↑(0:Nat):Int)+(1:Int))] ⟨sO,i6,i6,i6,oM,oM,aS,oM,oM,i6⟩ ?_
   exact za [(49,273)] (again _ (1,n'+1,l'++[byteS v (8*(w-1-(0)))]) ⟨aS,⟨aS,aS⟩⟩ oM)
  ·have hq:n'+1=n+(j+1+1):=by omega
   have e1:BlkEqv (.row 5 1 (n'+1) (catF n' (bytesF l') (fun i j_1=>nthD [.int .u8 (IntKind.u8.wrap (v.fdiv (2^min (8*((w:Int)-1-(j+1:Nat))).toNat IntKind.i64.bits)))] ((0+i)*1+j_1)))) (.row 5 1 (n'+1) (bytesF (l'++[byteS v (8*(w-1-(j+1)))]))):=by
    rw [eb];exact bytes_app l' [_] hl'
   clear eb hsh
   refine zg [(4,{bs:=[(10,.row 5 1 (n'+1) (bytesF (l'++[byteS v (8*(w-1-(j+1)))])))]})] [true] [decide ((↑(j+(1:Nat)):Int)<(w:Int))=true,inR .i64 ((w:Int)-1),inR .i64 ((w:Int)-(1:Int)-(↑(j+(1:Nat)):Int)),inR .i64 ((8:Int)*((w:Int)-(1:Int)-(↑(j+(1:Nat)):Int))),(0:Int)≤(8:Int)*((w:Int)-(1:Int)-(↑(j+(1:Nat)):Int)),(n'+1)*1≤140737488355328,BlkEqv (.row 5 (1:Nat) (n'+(1:Nat)) (catF n' (bytesF l') fun (i j_1:Nat)=>nthD [.int .u8 (IntKind.u8.wrap (v.fdiv ((2:Int)^min ((8:Int)*((w:Int)-(1:Int)-(↑(j+(1:Nat)):Int))).toNat IntKind.i64.bits)))] (((0:Nat)+i)*(1:Nat)+j_1))) (.row 5 (1:Nat) (n'+(1:Nat)) (bytesF (l'++[byteS v ((8:Nat)*(w-(1:Nat)-(j+(1:Nat))))]))),n'≤n',0+1≤1,inR .i64 ((↑(j+(1:Nat)):Int)+(1:Int))] ⟨sO,i6,i6,i6,oM,oM,aS,oM,oM,i6⟩ ?_
   exact za [(49,273)] (again _ (j+1+1,n'+1,l'++[byteS v (8*(w-1-(j+1)))]) ⟨aS,⟨aS,aS⟩⟩ oM)
 ·obtain rfl:i=w:=by omega
  obtain ⟨j,rfl⟩:∃ j,i=j+1:=⟨i-1,by omega⟩
  subst h2 h3
  refine zg [] [false] [decide ((↑(j+(1:Nat)):Int)<(↑(j+(1:Nat)):Int))=false] (show decide ((↑(j+(1:Nat)):Int)<(↑(j+(1:Nat)):Int))=false from (by simp;done)) ?_
  exact zb [49]
end Go.Proofs.Tw
end
section

end
section
open Go Go.Sv Go.RowKit
namespace Go.Proofs.Tw
attribute [local irreducible] Wp FinQ resV Ent Pur Go.Sv.Fn Sat0
set_option maxRecDepth 100000
set_option maxHeartbeats 4000000
variable {G:Nat→Option (List Cell)} [Back G]
def kindU (k:Int):UInt8:=UInt8.ofNat (IntKind.u8.wrap k).toNat
def bodyB (k n:Int) (s:List UInt8):List UInt8:=if k=1 then numF (s.length:Int) 2 2++s else if k=2 then numF n 4 4 else []
mutual
def putB:TT→List UInt8
 | .mk k n s ks=>kindU k::(bodyB k n s++putL ks)
def putL:List TT→List UInt8
 | []=>[]
 | x::r=>putB x++putL r
end
theorem putB_eq (t:TT):putB t=kindU t.k::(bodyB t.k t.n t.s++putL t.kids):=by cases t;rw [putB];rfl
theorem putL_take:∀ {l:List TT} {i:Nat},i<l.length→putL (l.take (i+1))=putL (l.take i)++putB (l.getD i .nil)
 | [],i,h=>by simp at h
 | x::r,0,h=>by simp [putL]
 | x::r,i+1,h=>by
  rw [List.take_succ_cons,List.take_succ_cons,putL,putL,putL_take (by simpa using h),List.append_assoc];rfl
theorem putL_le:∀ (l:List TT) (i:Nat),(putL (l.take i)).length≤(putL l).length
 | [],i=>by simp
 | x::r,0=>by rw [List.take_zero,putL]; simp
 | x::r,i+1=>by rw [List.take_succ_cons,putL,putL,List.length_append,List.length_append]; have:=putL_le r i; omega
theorem putL_at {l:List TT} {i:Nat} (h:i<l.length):(putL (l.take i)).length+(putB (l.getD i .nil)).length≤(putL l).length:=by
 have:=putL_le l (i+1)
 rw [putL_take h,List.length_append] at this
 exact this
def putS (L:List UInt8) (ks:List TT):Nat→List UInt8
 | 0=>L
 | k+1=>putS L ks k++putB (ks.getD k .nil)
def putC (m:Nat) (ks:List TT):Nat→Nat
 | 0=>m
 | k+1=>putC m ks k+(putB (ks.getD k .nil)).length
theorem putS_eq (L:List UInt8) (ks:List TT):∀ k,k≤ks.length→putS L ks k=L++putL (ks.take k)
 | 0,_=>by rw [putS,List.take_zero,putL,List.append_nil]
 | k+1,h=>by rw [putS,putS_eq L ks k oM,putL_take oM,List.append_assoc]
theorem putC_eq (m:Nat) (ks:List TT):∀ k,k≤ks.length→putC m ks k=m+(putL (ks.take k)).length
 | 0,_=>by rw [putC,List.take_zero,putL]; rfl
 | k+1,h=>by rw [putC,putC_eq m ks k oM,putL_take oM,List.length_append,Nat.add_assoc]
theorem putC_succ (m:Nat) (ks:List TT) (k:Nat):putC m ks k+(putB (ks.getD k .nil)).length=putC m ks (k+1):=rfl
theorem putS_succ (L:List UInt8) (ks:List TT) (k:Nat):putS L ks k++putB (ks.getD k .nil)=putS L ks (k+1):=rfl
inductive OkP:TT→Prop
 | mk {t:TT}:(t.k=1∨t.k=2→t.kids=[])→(∀ x∈t.kids,OkP x)→OkP t
theorem bytes_cat {e:TypeId} {n k:Nat} (a b:List UInt8) (hk:k=a.length):BlkEqv (.row e 1 n (catF k (bytesF a) (bytesF b))) (.row e 1 n (bytesF (a++b))):=by
 refine BlkEqv.row_ext rfl fun i hi j hj => ?_
 unfold catF bytesF
 by_cases h:i<k
 ·rw [if_pos h];simp [List.getD,List.getElem?_append_left (show i<a.length by omega)]
 ·rw [if_neg h];simp [List.getD,List.getElem?_append_right (show a.length≤i by omega),hk]
theorem one_row {e:TypeId} (x:Int) (hx:IntKind.u8.wrap x=((kindU x).toNat:Int)):BlkEqv (.row e 1 1 (fun i j=>nthD [.int .u8 (IntKind.u8.wrap x)] (i*1+j))) (.row e 1 1 (bytesF [kindU x])):=by
 refine BlkEqv.row_ext rfl fun i hi j hj => ?_
 obtain rfl:i=0:=by omega
 obtain rfl:j=0:=by omega
 rw [hx];rfl
theorem putsP_row (t:TT) (x:KT) (hx:Rep t x) (h12:t.k=1∨t.k=2→t.kids=[]) (hkl:t.kids.length≤1000000) (n:Nat) (l:List UInt8) (hn:n=l.length) (hm:n+(putB t).length≤500000)
  (ih:∀ i,i<t.kids.length→∀ u n' l',n'=l'.length→n'+(putB (t.kids.getD i .nil)).length≤500000→Rep (t.kids.getD i .nil) u→FnB Tryz.prog G 194 [.row 5 1 n' (bytesF l')] [.c (.row 1 0 0 n'),.agg (encK u)] [.c (.row 1 1 0 (n'+(putB (t.kids.getD i .nil)).length))] [(1,.row 5 1 (n'+(putB (t.kids.getD i .nil)).length) (bytesF (l'++putB (t.kids.getD i .nil))))]) :
  FnB Tryz.prog G 194 [.row 5 1 n (bytesF l)] [.c (.row 1 0 0 n),.agg (encK x)] [.c (.row 1 1 0 (n+(putB t).length))] [(1,.row 5 1 (n+(putB t).length) (bytesF (l++putB t)))]:=by
 refine zf Tryz.func194 ?_
 obtain ⟨a1,a2,a3,a4,a5⟩:=(Rep_eq t x).1 hx
 have hB:=putB_eq t
 rw [← a1,← a2,← a3] at hB
 have hlen:(putB t).length=1+(bodyB x.k x.n x.s).length+(putL t.kids).length:=by rw [hB,List.length_cons,List.length_append];omega
 have e1:BlkEqv (.row 5 1 (n+1) (catF n (bytesF l) (fun i j=>nthD [.int .u8 (IntKind.u8.wrap x.k)] ((0+i)*1+j)))) (.row 5 1 (n+1) (bytesF (l++[kindU x.k]))):=by
  rw [u8_wrap x.k];exact bytes_app l [kindU x.k] hn
 have q1:n+1=(l++[kindU x.k]).length:=by simp [hn]
 by_cases h1:x.k=1
 ·have hb:bodyB x.k x.n x.s=numF (x.s.length:Int) 2 2++x.s:=by unfold bodyB;rw [if_pos h1]
  have hk0:t.kids=[]:=h12 (.inl oM)
  have hm0:x.m=0:=by rw [a4,hk0];rfl
  have hBB:l++putB t=(l++[kindU x.k])++numF (x.s.length:Int) 2 2++x.s:=by rw [hB,hb,hk0,putL];simp
  have hls:=hlen
  rw [hb,hk0,putL,List.length_append,numF_len] at hls
  have hls:(putB t).length=1+(2+x.s.length):=hls
  have c1:=numberP_ok (G:=G) (x.s.length:Int) 2 oM oM (n+1) (l++[kindU x.k]) q1 oM
  have q2:n+1+2=((l++[kindU x.k])++numF (x.s.length:Int) 2 2).length:=by rw [List.length_append,← q1,numF_len]
  have e2:=bytes_cat (e:=5) (n:=n+1+2+x.s.length) ((l++[kindU x.k])++numF (x.s.length:Int) 2 2) x.s q2
  have hk:(x.k==1)=true:=by simpa using h1
  have hfin:n+(putB t).length=n+1+2+x.s.length:=by omega
  have hnn:n+1+2+x.s.length≤500000:=by omega
  rw [hfin,hBB]
  clear ih hB hb hk0 hBB hlen hls hfin hm a5 h12
  refine zg [(1,{bs:=[(5,.row 5 1 (n+1) (bytesF (l++[kindU x.k])))]}),(4,{cs:=[(4,cb [113] c1)],bs:=[(7,.row 5 1 (n+1+2+x.s.length) (bytesF ((l++[kindU x.k])++numF (x.s.length:Int) 2 2++x.s)))]})] [true] [(n+1)*1≤140737488355328,BlkEqv (.row 5 (1:Nat) (n+(1:Nat)) (catF n (bytesF l) fun i j=>nthD [.int .u8 (IntKind.u8.wrap x.k)] (((0:Nat)+i)*(1:Nat)+j))) (.row 5 (1:Nat) (n+(1:Nat)) (bytesF (l++[kindU x.k]))),n≤n,0+1≤1,(x.k==(1:Int))=true,(n+1+2+x.s.length)*1≤140737488355328,BlkEqv (.row 5 (1:Nat) (n+(1:Nat)+(2:Nat)+x.s.length) (catF (n+(1:Nat)+(2:Nat)) (bytesF (l++[kindU x.k]++numF (x.s.length:Int) (2:Nat) (2:Nat))) fun (i x_1:Nat) => .int .u8 (↑(x.s.getD i (0:UInt8)).toNat:Int))) (.row 5 (1:Nat) (n+(1:Nat)+(2:Nat)+x.s.length) (bytesF (l++[kindU x.k]++numF (x.s.length:Int) (2:Nat) (2:Nat)++x.s))),n+1+2≤n+1+2] ⟨oM,aS,oM,oM,aS,oM,aS,(show n+(1:Nat)+(2:Nat)≤n+(1:Nat)+(2:Nat) from oM)⟩ ?_
  refine Wp.unrK kR 1 (fun UL0 uUL0 => ?_)
  refine zg [(1,{bs:=[(5,.row 5 1 (n+1) (bytesF (l++[kindU x.k])))]}),(4,{bs:=[(7,.row 5 1 (n+1+2+x.s.length) (bytesF ((l++[kindU x.k])++numF (x.s.length:Int) 2 2++x.s)))]})] [false] [decide (0<(x.m:Int))=false] (oN sO) ?_
  exact zb [321]
 have hk:(x.k==1)=false:=by simpa using h1
 by_cases h2:x.k=2
 ·have hb:bodyB x.k x.n x.s=numF x.n 4 4:=by unfold bodyB;rw [if_neg h1,if_pos h2]
  have hk0:t.kids=[]:=h12 (.inr oM)
  have hm0:x.m=0:=by rw [a4,hk0];rfl
  have hBB:l++putB t=(l++[kindU x.k])++numF x.n 4 4:=by rw [hB,hb,hk0,putL];simp
  have hls:=hlen
  rw [hb,hk0,putL,numF_len] at hls
  have hls:(putB t).length=1+4:=hls
  have c1:=numberP_ok (G:=G) x.n 4 oM oM (n+1) (l++[kindU x.k]) q1 oM
  have hk2:(x.k==2)=true:=by simpa using h2
  have hfin:n+(putB t).length=n+1+4:=by omega
  have hnn:n+5≤500000:=by omega
  rw [hfin,hBB]
  clear ih hB hb hk0 hBB hlen hls hfin hm a5 h12
  refine zg [(1,{bs:=[(5,.row 5 1 (n+1) (bytesF (l++[kindU x.k])))]}),(6,{cs:=[(3,cb [113] c1)]})] [false,true] [(n+1)*1≤140737488355328,BlkEqv (.row 5 (1:Nat) (n+(1:Nat)) (catF n (bytesF l) fun i j=>nthD [.int .u8 (IntKind.u8.wrap x.k)] (((0:Nat)+i)*(1:Nat)+j))) (.row 5 (1:Nat) (n+(1:Nat)) (bytesF (l++[kindU x.k]))),n≤n,0+1≤1,(x.k==(1:Int))=false,(x.k==(2:Int))=true] ⟨oM,aS,oM,oM,aS,(show (x.k==(2:Int))=true from aS)⟩ ?_
  refine Wp.unrK kR 1 (fun UL0 uUL0 => ?_)
  refine zg [(1,{bs:=[(5,.row 5 1 (n+1) (bytesF (l++[kindU x.k])))]})] [false] [decide (0<(x.m:Int))=false] (oN sO) ?_
  exact zb [289]
 have hk2:(x.k==2)=false:=by simpa using h2
 have hb:bodyB x.k x.n x.s=[]:=by unfold bodyB;rw [if_neg h1,if_neg h2]
 have hBB:l++putB t=(l++[kindU x.k])++putL t.kids:=by rw [hB,hb];simp
 rw [hb] at hlen
 have hfin:n+(putB t).length=n+1+(putL t.kids).length:=by have h:=hlen;simp only [List.length_nil] at h;omega
 rw [hfin,hBB]
 rw [hfin] at hm
 clear hB hb hBB hlen hfin h1 h2 h12
 refine zg [(1,{bs:=[(5,.row 5 1 (n+1) (bytesF (l++[kindU x.k])))]})] [false,false] [(n+1)*1≤140737488355328,BlkEqv (.row 5 (1:Nat) (n+(1:Nat)) (catF n (bytesF l) fun i j=>nthD [.int .u8 (IntKind.u8.wrap x.k)] (((0:Nat)+i)*(1:Nat)+j))) (.row 5 (1:Nat) (n+(1:Nat)) (bytesF (l++[kindU x.k]))),n≤n,0+1≤1,(x.k==(1:Int))=false,(x.k==(2:Int))=false] ⟨oM,aS,oM,oM,aS,(show (x.k==(2:Int))=false from aS)⟩ ?_
 refine zl (fun (k:Nat)=>⟨[(0,.v (.c (.row 1 113 0 (putC (n+1) t.kids k)))),(32,.v (.c (.sl 4 x.m x.f))),(33,.v (.c (.int .i64 (x.m:Int)))),(34,.v (.c (.int .i64 (k:Int))))],[(1,.box 46 (encK x)),(113,.row 5 1 (putC (n+1) t.kids k) (bytesF (putS (l++[kindU x.k]) t.kids k)))],305⟩) (fun k=>k≤t.kids.length) (fun k=>t.kids.length-k) 0 (Nat.zero_le _) ?_
 rintro k W hk' again
 rcases Nat.lt_or_ge k t.kids.length with hi | hi
 ·obtain ⟨u,u1,u2⟩:=RepL_at a5 k hi
  rw [Nat.zero_add] at u1
  have hle:=putL_at hi
  have hC:=putC_eq (n+1) t.kids k hk'
  have hS:=putS_eq (l++[kindU x.k]) t.kids k hk'
  have q3:putC (n+1) t.kids k=(putS (l++[kindU x.k]) t.kids k).length:=by rw [hC,hS,List.length_append,← q1]
  have c5:=ih k hi u _ _ q3 oM u2
  have e5:EqvD (.agg [x.f k 0,x.f k 1,x.f k 2,x.f k 3]) (.agg (encK u)):=eqvD_of (by rw [u1])
  rw [putC_succ,putS_succ] at c5
  clear ih a5 u1 u2 hC hS q3 e1
  refine zg [(9,{fm:=[(1,.agg (encK u))]}),(10,{cs:=[(2,cb [113] c5)]})] [true] [decide ((k:Int)<(x.m:Int))=true,(0:Int)≤(k:Int)∧(k:Int)<(x.m:Int),EqvD (.agg [x.f k 0,x.f k (0+1),x.f k (0+1+1),x.f k (0+1+1+1)]) (.agg (encK u)),inR .i64 ((k:Int)+1)] ⟨sO,oM,aS,i6⟩ ?_
  exact za [(113,417)] (again _ (k+1) aS oM)
 ·obtain rfl:k=t.kids.length:=by omega
  have hC:=putC_eq (n+1) t.kids t.kids.length hk'
  have hS:=putS_eq (l++[kindU x.k]) t.kids t.kids.length hk'
  rw [List.take_length] at hC hS
  rw [hC,hS]
  clear ih a5 again e1 hC hS
  refine zg [] [false] [decide ((t.kids.length:Int)<(x.m:Int))=false] (oN sO) ?_
  exact zb [113]
theorem putsP_nil (t:TT) (x:KT) (hx:Rep t x) (h12:t.k=1∨t.k=2→t.kids=[]) (hkl:t.kids.length≤1000000) (hm:(putB t).length≤400000)
  (ih:∀ i,i<t.kids.length→∀ u n' l',n'=l'.length→n'+(putB (t.kids.getD i .nil)).length≤500000→Rep (t.kids.getD i .nil) u→FnB Tryz.prog G 194 [.row 5 1 n' (bytesF l')] [.c (.row 1 0 0 n'),.agg (encK u)] [.c (.row 1 1 0 (n'+(putB (t.kids.getD i .nil)).length))] [(1,.row 5 1 (n'+(putB (t.kids.getD i .nil)).length) (bytesF (l'++putB (t.kids.getD i .nil))))]) :
  FnB Tryz.prog G 194 [] [.c .nilsl,.agg (encK x)] [.c (.row 1 0 0 (putB t).length)] [(0,.row 5 1 (putB t).length (bytesF (putB t)))]:=by
 refine zf Tryz.func194 ?_
 obtain ⟨a1,a2,a3,a4,a5⟩:=(Rep_eq t x).1 hx
 have hB:=putB_eq t
 rw [← a1,← a2,← a3] at hB
 have hlen:(putB t).length=1+(bodyB x.k x.n x.s).length+(putL t.kids).length:=by rw [hB,List.length_cons,List.length_append];omega
 have e1:BlkEqv (.row 5 1 1 (fun i j=>nthD [.int .u8 (IntKind.u8.wrap x.k)] ((0+i)*1+j))) (.row 5 1 1 (bytesF [kindU x.k])):=by
  simp only [Nat.zero_add];exact one_row x.k (u8_wrap x.k)
 have q1:1=[kindU x.k].length:=by simp
 by_cases h1:x.k=1
 ·have hb:bodyB x.k x.n x.s=numF (x.s.length:Int) 2 2++x.s:=by unfold bodyB;rw [if_pos h1]
  have hk0:t.kids=[]:=h12 (.inl oM)
  have hm0:x.m=0:=by rw [a4,hk0];rfl
  have hBB:putB t=[kindU x.k]++numF (x.s.length:Int) 2 2++x.s:=by rw [hB,hb,hk0,putL];simp
  have hls:=hlen
  rw [hb,hk0,putL,List.length_append,numF_len] at hls
  have hls:(putB t).length=1+(2+x.s.length):=hls
  have c1:=numberP_ok (G:=G) (x.s.length:Int) 2 oM oM 1 [kindU x.k] q1 oM
  have q2:1+2=([kindU x.k]++numF (x.s.length:Int) 2 2).length:=by rw [List.length_append,← q1,numF_len]
  have e2:=bytes_cat (e:=5) (n:=1+2+x.s.length) ([kindU x.k]++numF (x.s.length:Int) 2 2) x.s q2
  have hk:(x.k==1)=true:=by simpa using h1
  have hfin:(putB t).length=1+2+x.s.length:=by omega
  have hnn:1+2+x.s.length≤500000:=by omega
  rw [hfin,hBB]
  clear ih hB hb hk0 hBB hlen hls hfin hm a5 h12
  refine zg [(1,{bs:=[(5,.row 5 1 1 (bytesF [kindU x.k]))]}),(4,{cs:=[(4,cb [112] c1)],bs:=[(7,.row 5 1 (1+2+x.s.length) (bytesF ([kindU x.k]++numF (x.s.length:Int) 2 2++x.s)))]})] [true] [1≤140737488355328,BlkEqv (.row 5 (1:Nat) (1:Nat) (catF (0:Nat) (fun (x x_1:Nat) => .nilif) fun i j=>nthD [.int .u8 (IntKind.u8.wrap x.k)] (((0:Nat)+i)*(1:Nat)+j))) (.row 5 (1:Nat) (1:Nat) (bytesF [kindU x.k])),0+1≤1,(x.k==(1:Int))=true,(1+2+x.s.length)*1≤140737488355328,BlkEqv (.row 5 (1:Nat) ((1:Nat)+(2:Nat)+x.s.length) (catF ((1:Nat)+(2:Nat)) (bytesF ([kindU x.k]++numF (x.s.length:Int) (2:Nat) (2:Nat))) fun (i x_1:Nat) => .int .u8 (↑(x.s.getD i (0:UInt8)).toNat:Int))) (.row 5 (1:Nat) ((1:Nat)+(2:Nat)+x.s.length) (bytesF ([kindU x.k]++numF (x.s.length:Int) (2:Nat) (2:Nat)++x.s))),1+2≤1+2] ⟨oM,aS,oM,aS,oM,aS,(show (1:Nat)+(2:Nat)≤(1:Nat)+(2:Nat) from oM)⟩ ?_
  refine Wp.unrK kR 1 (fun UL0 uUL0 => ?_)
  refine zg [(1,{bs:=[(5,.row 5 1 1 (bytesF [kindU x.k]))]}),(4,{bs:=[(7,.row 5 1 (1+2+x.s.length) (bytesF ([kindU x.k]++numF (x.s.length:Int) 2 2++x.s)))]})] [false] [decide (0<(x.m:Int))=false] (oN sO) ?_
  exact zb [320]
 have hk:(x.k==1)=false:=by simpa using h1
 by_cases h2:x.k=2
 ·have hb:bodyB x.k x.n x.s=numF x.n 4 4:=by unfold bodyB;rw [if_neg h1,if_pos h2]
  have hk0:t.kids=[]:=h12 (.inr oM)
  have hm0:x.m=0:=by rw [a4,hk0];rfl
  have hBB:putB t=[kindU x.k]++numF x.n 4 4:=by rw [hB,hb,hk0,putL];simp
  have hls:=hlen
  rw [hb,hk0,putL,numF_len] at hls
  have hls:(putB t).length=1+4:=hls
  have c1:=numberP_ok (G:=G) x.n 4 oM oM 1 [kindU x.k] q1 oM
  have hk2:(x.k==2)=true:=by simpa using h2
  have hfin:(putB t).length=1+4:=by omega
  have hnn:5≤500000:=by omega
  rw [hfin,hBB]
  clear ih hB hb hk0 hBB hlen hls hfin hm a5 h12
  refine zg [(1,{bs:=[(5,.row 5 1 1 (bytesF [kindU x.k]))]}),(6,{cs:=[(3,cb [112] c1)]})] [false,true] [1≤140737488355328,BlkEqv (.row 5 (1:Nat) (1:Nat) (catF (0:Nat) (fun (x x_1:Nat) => .nilif) fun i j=>nthD [.int .u8 (IntKind.u8.wrap x.k)] (((0:Nat)+i)*(1:Nat)+j))) (.row 5 (1:Nat) (1:Nat) (bytesF [kindU x.k])),0+1≤1,(x.k==(1:Int))=false,(x.k==(2:Int))=true] ⟨oM,aS,oM,aS,(show (x.k==(2:Int))=true from aS)⟩ ?_
  refine Wp.unrK kR 1 (fun UL0 uUL0 => ?_)
  refine zg [(1,{bs:=[(5,.row 5 1 1 (bytesF [kindU x.k]))]})] [false] [decide (0<(x.m:Int))=false] (oN sO) ?_
  exact zb [288]
 have hk2:(x.k==2)=false:=by simpa using h2
 have hb:bodyB x.k x.n x.s=[]:=by unfold bodyB;rw [if_neg h1,if_neg h2]
 have hBB:putB t=[kindU x.k]++putL t.kids:=by rw [hB,hb];simp
 rw [hb] at hlen
 have hfin:(putB t).length=1+(putL t.kids).length:=by have h:=hlen;simp only [List.length_nil] at h;omega
 rw [hfin,hBB]
 rw [hfin] at hm
 clear hB hb hBB hlen hfin h1 h2 h12
 refine zg [(1,{bs:=[(5,.row 5 1 1 (bytesF [kindU x.k]))]})] [false,false] [1≤140737488355328,BlkEqv (.row 5 (1:Nat) (1:Nat) (catF (0:Nat) (fun (x x_1:Nat) => .nilif) fun i j=>nthD [.int .u8 (IntKind.u8.wrap x.k)] (((0:Nat)+i)*(1:Nat)+j))) (.row 5 (1:Nat) (1:Nat) (bytesF [kindU x.k])),0+1≤1,(x.k==(1:Int))=false,(x.k==(2:Int))=false] ⟨oM,aS,oM,aS,(show (x.k==(2:Int))=false from aS)⟩ ?_
 refine zl (fun (k:Nat)=>⟨[(0,.v (.c (.row 1 112 0 (putC 1 t.kids k)))),(32,.v (.c (.sl 4 x.m x.f))),(33,.v (.c (.int .i64 (x.m:Int)))),(34,.v (.c (.int .i64 (k:Int))))],[(0,.box 46 (encK x)),(112,.row 5 1 (putC 1 t.kids k) (bytesF (putS [kindU x.k] t.kids k)))],304⟩) (fun k=>k≤t.kids.length) (fun k=>t.kids.length-k) 0 (Nat.zero_le _) ?_
 rintro k W hk' again
 rcases Nat.lt_or_ge k t.kids.length with hi | hi
 ·obtain ⟨u,u1,u2⟩:=RepL_at a5 k hi
  rw [Nat.zero_add] at u1
  have hle:=putL_at hi
  have hC:=putC_eq 1 t.kids k hk'
  have hS:=putS_eq [kindU x.k] t.kids k hk'
  have q3:putC 1 t.kids k=(putS [kindU x.k] t.kids k).length:=by rw [hC,hS,List.length_append,← q1]
  have c5:=ih k hi u _ _ q3 oM u2
  have e5:EqvD (.agg [x.f k 0,x.f k 1,x.f k 2,x.f k 3]) (.agg (encK u)):=eqvD_of (by rw [u1])
  rw [putC_succ,putS_succ] at c5
  clear ih a5 u1 u2 hC hS q3 e1
  refine zg [(9,{fm:=[(1,.agg (encK u))]}),(10,{cs:=[(2,cb [112] c5)]})] [true] [decide ((k:Int)<(x.m:Int))=true,(0:Int)≤(k:Int)∧(k:Int)<(x.m:Int),EqvD (.agg [x.f k 0,x.f k (0+1),x.f k (0+1+1),x.f k (0+1+1+1)]) (.agg (encK u)),inR .i64 ((k:Int)+1)] ⟨sO,oM,aS,i6⟩ ?_
  exact za [(112,416)] (again _ (k+1) aS oM)
 ·obtain rfl:k=t.kids.length:=by omega
  have hC:=putC_eq 1 t.kids t.kids.length hk'
  have hS:=putS_eq [kindU x.k] t.kids t.kids.length hk'
  rw [List.take_length] at hC hS
  rw [hC,hS]
  clear ih a5 again e1 hC hS
  refine zg [] [false] [decide ((t.kids.length:Int)<(x.m:Int))=false] (oN sO) ?_
  exact zb [112]
end Go.Proofs.Tw
end
section

end
section
open Go Go.Sv Go.RowKit
namespace Go.Proofs.Tw
attribute [local irreducible] Wp FinQ resV Ent Pur Go.Sv.Fn Sat0
set_option maxRecDepth 100000
set_option maxHeartbeats 4000000
variable {G:Nat→Option (List Cell)} [Back G]
theorem OkP.kid {t:TT} (h:OkP t) {i:Nat} (hi:i<t.kids.length):OkP (t.kids.getD i .nil):=by
 cases h with
 | mk _ h2=>exact h2 _ (by rw [List.getD_eq_getElem?_getD,List.getElem?_eq_getElem hi]; exact List.getElem_mem hi)
theorem OkP.no {t:TT} (h:OkP t):t.k=1∨t.k=2→t.kids=[]:=by cases h;assumption
theorem putsPr_ok {t:TT} (ht:LowR t):OkP t→∀ (x:KT) (n:Nat) (l:List UInt8),Rep t x→n=l.length→n+(putB t).length≤500000 →
  FnB Tryz.prog G 194 [.row 5 1 n (bytesF l)] [.c (.row 1 0 0 n),.agg (encK x)] [.c (.row 1 1 0 (n+(putB t).length))] [(1,.row 5 1 (n+(putB t).length) (bytesF (l++putB t)))]:=by
 induction ht with
 | @mk t h1 h2 ih =>
  intro ho x n l hx hn hm
  refine putsP_row t x hx ho.no h1 n l hn hm fun i hi u n' l' hn' hm' hu => ?_
  exact ih _ (by rw [List.getD_eq_getElem?_getD,List.getElem?_eq_getElem hi];exact List.getElem_mem hi) (ho.kid hi) u n' l' hu hn' hm'
theorem putsP_ok {t:TT} (ht:LowR t) (ho:OkP t) (x:KT) (hx:Rep t x) (hm:(putB t).length≤400000) :
  FnB Tryz.prog G 194 [] [.c .nilsl,.agg (encK x)] [.c (.row 1 0 0 (putB t).length)] [(0,.row 5 1 (putB t).length (bytesF (putB t)))] :=
 putsP_nil t x hx ho.no ht.len hm fun i hi u n' l' hn' hm' hu=>putsPr_ok (ht.kid hi) (ho.kid hi) u n' l' hu hn' hm'
theorem right_kids {k n:Int} {s:List UInt8} {m:Int} (h:rightK k n s m=true):m=kidsI k∧(s=[]∨(k=1∧s.length≤1024)):=by
 unfold rightK at h
 by_cases h1:m=kidsI k
 ·refine ⟨h1,?_⟩
  by_cases h2:s=[]
  ·exact .inl h2
  ·right
   by_cases h3:k=1
   ·refine ⟨h3,?_⟩
    have e1:(m==kidsI k)=true:=by simpa using h1
    have e2:(s==[])=false:=by simpa using h2
    have e3:(k==1)=true:=by simpa using h3
    rw [e1,e2,e3] at h
    simp only [cond_true,cond_false] at h
    by_cases h4:s.length≤1024
    ·exact h4
    ·rw [show decide ((s.length:Int)≤1024)=false by simp;omega] at h
     simp at h
   ·have e2:(s==[])=false:=by simpa using h2
    have e3:(k==1)=false:=by simpa using h3
    rw [e2,e3] at h
    simp at h
 ·have e1:(m==kidsI k)=false:=by simpa using h1
  rw [e1] at h
  simp at h
theorem body_le {k n:Int} {s:List UInt8} (h:s=[]∨(k=1∧s.length≤1024)):(bodyB k n s).length≤1026:=by
 unfold bodyB
 split
 ·rw [List.length_append,numF_len]
  rcases h with rfl | h
  ·simp
  ·omega
 ·split
  ·rw [numF_len];omega
  ·simp
mutual
theorem walkM_ok:∀ (t:TT) (d c:Int),(walkM t d c).1=true→OkP t∧((putB t).length:Int)≤1027*((walkM t d c).2-c)
 | .mk k n s ks,d,c,h=>by
  rw [walkM] at h ⊢
  by_cases hs:stopW (.mk k n s ks) d (c+1)=true
  ·rw [if_pos hs] at h;cases h
  ·rw [if_neg hs] at h ⊢
   have h3:=(stop3 _ _ _ (by simpa using hs:stopW (.mk k n s ks) d (c+1)=false)).2.2
   have h4:rightK k n s (ks.length:Int)=true:=by
    cases e:rightK k n s (ks.length:Int) with
    | true=>rfl
    | false =>
     have h5:(!(rightK k n s (ks.length:Int)))=false:=h3
     rw [e] at h5;cases h5
   obtain ⟨r1,r2⟩:=right_kids h4
   obtain ⟨l1,l2⟩:=walkL_ok ks (d+1) (c+1) h
   refine ⟨.mk (fun hk => ?_) l1,?_⟩
   ·have hk:k=1∨k=2:=hk
    rw [show kidsI k=0 by unfold kidsI;rw [if_pos hk]] at r1
    show ks=[]
    exact List.length_eq_zero_iff.1 oM
   ·have hb:=body_le (n:=n) r2
    rw [putB,List.length_cons,List.length_append]
    omega
theorem walkL_ok:∀ (l:List TT) (d c:Int),(walkL l d c).1=true→(∀ x∈l,OkP x)∧((putL l).length:Int)≤1027*((walkL l d c).2-c)
 | [],d,c,h=>by
  rw [walkL,putL]
  exact ⟨fun x hx=>absurd hx (by simp),by show ((0:Nat):Int)≤1027*(c-c);omega⟩
 | x::r,d,c,h=>by
  rw [walkL] at h ⊢
  by_cases h1:(walkM x d c).1=true
  ·rw [if_pos h1] at h ⊢
   obtain ⟨a1,a2⟩:=walkM_ok x d c h1
   obtain ⟨b1,b2⟩:=walkL_ok r d _ h
   refine ⟨fun y hy => ?_,?_⟩
   ·rcases List.mem_cons.1 hy with rfl | hy
    ·exact a1
    ·exact b1 y hy
   ·rw [putL,List.length_append];omega
  ·rw [if_neg h1] at h;cases h
end
theorem may_okP {t:TT} (h:mayTT t=true):OkP t∧(putB t).length≤65728:=by
 obtain ⟨a,b⟩:=walkM_ok t 1 0 h
 have:=(walkM_rng t 1 0 oM oM).2.2 h
 exact ⟨a,by omega⟩
theorem putP_no {t:TT} (ht:LowR t) (x:KT) (hx:Rep t x) (hm:mayTT t=false):Pur Tryz.prog G 144 [.agg (encK x)] [.c .nilsl]:=by
 refine zp Tryz.func144 ?_
 have c:=mayT_ok (G:=G) ht x hx
 rw [hm] at c
 refine zg [(1,{cs:=[(1,pc c)]})] [true] [(!false)=true] rfl ?_
 exact zr
theorem putP_ok {t:TT} (ht:LowR t) (x:KT) (hx:Rep t x) (hm:mayTT t=true):FnB Tryz.prog G 144 [] [.agg (encK x)] [.c (.row 1 0 0 (putB t).length)] [(0,.row 5 1 (putB t).length (bytesF (putB t)))]:=by
 refine zf Tryz.func144 ?_
 have c:=mayT_ok (G:=G) ht x hx
 rw [hm] at c
 have c2:=putsP_ok (G:=G) ht (may_okP hm).1 x hx (by have:=(may_okP hm).2;omega)
 refine zg [(1,{cs:=[(1,pc c)]}),(3,{cs:=[(1,cb [] c2)]})] [false] [(!true)=false] rfl ?_
 exact zb [96]
end Go.Proofs.Tw
end
